/- Part 10 of 16 of a proof; joined from PrimD, PrimI, InsInt, InsAttr, CalTab, CalNames, CalRef13. Rows that stand as a tree's do: the document's answer. -/
import Derived.Test.YtnjblmbobmbgkaaGreatDoorCa9
import Derived.Lib.ItoaNum
import Derived.Lib.LaidTab
import Derived.Lib.AppendIntMem
import Derived.Test.YtnjblmbobmbgkaaGreatDoorProg
import Derived.Shelf.Spec.SlicesInsert
import Derived.Shelf.Spec.SlicesInsertGrow
import Derived.Test.YtnjblmbobmbgkaaGreatDoorCa8
import Derived.Test.YtnjblmbobmbgkaaGreatDoorCa6
import Derived.KernelRfl
import Derived.Test.YtnjblmbobmbgkaaGreatDoorShelfItoa
import Derived.Test.YtnjblmbobmbgkaaGreatDoorShelfinternalstringsliteIndexByte
import Derived.Test.YtnjblmbobmbgkaaGreatDoorShelfstringsIndexByte
import Derived.Test.YtnjblmbobmbgkaaGreatDoorCa1
set_option linter.unusedSimpArgs false
set_option linter.unusedVariables false
set_option linter.defProp false
set_option maxRecDepth 100000
set_option maxHeartbeats 8000000
section
/- slices.DeleteFunc on a row of one's own, told at once: its text up to the last two lines as lowered code, the rest by hand. -/
namespace Go.TA
def b6z : b1a :=
  (.seq (.region [
    { dst:=some 16,op:=.move (.t 6),ix:=0 },
    { dst:=some 17,op:=.move (.t 0),ix:=1 },
    { dst:=some 18,op:=.len 1 (.t 17),ix:=2 },
    { dst:=some 19,op:=.bin .lss (.t 16) (.t 18),ix:=3 }] false [0,1,5,6,19] []) (.seq (.cond (.t 19) (.keep [0,1,5,6] [] .skip) (.keep [0,5] [] (.exit 0))) (.keep [0,1,5,6] [] (.seq (.block 1 (.seq (.region [
    { dst:=some 22,op:=.move (.t 0),ix:=0 },
    { dst:=some 23,op:=.move (.t 6),ix:=1 },
    { dst:=some 24,op:=.indexAddr 1 (.t 22) (.t 23),ix:=2 },
    { dst:=some 25,op:=.load 1 false (.t 24),ix:=3 },
    { dst:=some 7,op:=.move (.t 25),ix:=4 }] false [0,1,5,6,7] []) (.seq (.region [
    { dst:=some 26,op:=.move (.t 1),ix:=0 },
    { dst:=some 27,op:=.move (.t 7),ix:=1 },
    { dst:=some 28,op:=.callv (.t 26) [(.t 27,.as)],ix:=2 },
    { dst:=some 29,op:=.un .not (.t 28),ix:=3 }] false [0,1,5,6,7,29] []) (.seq (.cond (.t 29) (.seq (.region [
    { dst:=some 30,op:=.move (.t 0),ix:=0 },
    { dst:=some 31,op:=.move (.t 5),ix:=1 },
    { dst:=some 32,op:=.move (.t 7),ix:=2 },
    { dst:=some 33,op:=.indexAddr 1 (.t 30) (.t 31),ix:=3 },
    { dst:=none,op:=.store 1 false (.t 33) (.t 32),ix:=4 }] false [0,1,5,6] []) (.seq (.region [
    { dst:=some 34,op:=.move (.t 5),ix:=0 },
    { dst:=some 35,op:=.bin .add (.t 34) (.c (.int .i64 1)),ix:=1 },
    { dst:=some 5,op:=.move (.t 35),ix:=2 }] false [0,1,5,6] []) (.keep [0,1,5,6] [] .skip))) (.keep [0,1,5,6] [] .skip)) (.keep [0,1,5,6] [] .skip))))) (.keep [0,1,5,6] [] (.seq (.region [
    { dst:=some 20,op:=.move (.t 6),ix:=0 },
    { dst:=some 21,op:=.bin .add (.t 20) (.c (.int .i64 1)),ix:=1 },
    { dst:=some 6,op:=.move (.t 21),ix:=2 }] false [0,1,5,6] []) (.keep [0,1,5,6] [] .skip)))))))
def b6y : b1a :=
  (.seq (.region [
    { dst:=some 16,op:=.move (.t 6),ix:=0 },
    { dst:=some 17,op:=.move (.t 0),ix:=1 },
    { dst:=some 18,op:=.len 1 (.t 17),ix:=2 },
    { dst:=some 19,op:=.bin .lss (.t 16) (.t 18),ix:=3 }] false [0,1,5,6,19] []) (.seq (.cond (.t 19) (.keep [0,1,5,6] [] .skip) (.keep [0,5] [] (.exit 0))) (.keep [0,1,5,6] [] (.seq (.block 1 (.seq (.region [
    { dst:=some 22,op:=.move (.t 0),ix:=0 },
    { dst:=some 23,op:=.move (.t 6),ix:=1 },
    { dst:=some 24,op:=.indexAddr 2 (.t 22) (.t 23),ix:=2 },
    { dst:=some 25,op:=.load 2 true (.t 24),ix:=3 },
    { dst:=some 7,op:=.alloc false 7 [.p (.str []),.p (.str [])] [],ix:=4 },
    { dst:=none,op:=.store 2 true (.t 7) (.t 25),ix:=5 }] false [0,1,5,6,7] [7]) (.seq (.region [
    { dst:=some 26,op:=.move (.t 1),ix:=0 },
    { dst:=some 27,op:=.load 2 true (.t 7),ix:=1 },
    { dst:=some 28,op:=.callv (.t 26) [(.t 27,.as)],ix:=2 },
    { dst:=some 29,op:=.un .not (.t 28),ix:=3 }] false [0,1,5,6,7,29] [7]) (.seq (.cond (.t 29) (.seq (.region [
    { dst:=some 30,op:=.move (.t 0),ix:=0 },
    { dst:=some 31,op:=.move (.t 5),ix:=1 },
    { dst:=some 32,op:=.load 2 true (.t 7),ix:=2 },
    { dst:=some 33,op:=.indexAddr 2 (.t 30) (.t 31),ix:=3 },
    { dst:=none,op:=.store 2 true (.t 33) (.t 32),ix:=4 }] false [0,1,5,6] []) (.seq (.region [
    { dst:=some 34,op:=.move (.t 5),ix:=0 },
    { dst:=some 35,op:=.bin .add (.t 34) (.c (.int .i64 1)),ix:=1 },
    { dst:=some 5,op:=.move (.t 35),ix:=2 }] false [0,1,5,6] []) (.keep [0,1,5,6] [] .skip))) (.keep [0,1,5,6] [] .skip)) (.keep [0,1,5,6] [] .skip))))) (.keep [0,1,5,6] [] (.seq (.region [
    { dst:=some 20,op:=.move (.t 6),ix:=0 },
    { dst:=some 21,op:=.bin .add (.t 20) (.c (.int .i64 1)),ix:=1 },
    { dst:=some 6,op:=.move (.t 21),ix:=2 }] false [0,1,5,6] []) (.keep [0,1,5,6] [] .skip)))))))
def b8q (fi : Nat) (L : b1a) : b1a :=
  (.seq (.region [
    { dst:=some 4,op:=.move (.c (.list [])),ix:=0 }] false [0,1] []) (.seq (.region [
    { dst:=some 8,op:=.move (.t 0),ix:=0 },
    { dst:=some 9,op:=.move (.t 1),ix:=1 },
    { dst:=some 10,op:=.call fi [(.t 8,.as),(.t 9,.as)],ix:=2 },
    { dst:=some 5,op:=.move (.t 10),ix:=3 }] false [0,1,5] []) (.seq (.region [
    { dst:=some 11,op:=.move (.t 5),ix:=0 },
    { dst:=some 12,op:=.eq .i false (.t 11) (.c (.int .i64 (-1))),ix:=1 }] false [0,1,5,12] []) (.seq (.cond (.t 12) (.seq (.region [
    { dst:=some 13,op:=.move (.t 0),ix:=0 },
    { dst:=some 4,op:=.move (.t 13),ix:=1 }] false [4] []) (.keep [4] [] .ret)) (.keep [0,1,5] [] .skip)) (.keep [0,1,5] [] (.seq (.region [
    { dst:=some 14,op:=.move (.t 5),ix:=0 },
    { dst:=some 15,op:=.bin .add (.t 14) (.c (.int .i64 1)),ix:=1 },
    { dst:=some 6,op:=.move (.t 15),ix:=2 }] false [0,1,5,6] []) (.seq (.block 0 (.seq (.keep [0,1,5,6] [] (.loop L)) (.keep [0,5] [] .skip))) (.keep [0,5] [] .skip))))))))
def c7b (sz : Nat) : Ex × St → Option (AV × List AObj)
  | (.ret, ⟨fr, [], g⟩) => match (⟨fr, [], g⟩ : St).get 4 with
    | .own true k n => match g[k]? with
      | some (.pcells s xs)=>if s=sz∧xs.length=n then some (.p (.list xs),g.set k .dead) else none
      | _=>none
    | _=>none
  | (.normal, ⟨fr, [], g⟩) => match (⟨fr, [], g⟩ : St).get 0, (⟨fr, [], g⟩ : St).get 5 with
    | .own true k n, .p (.int .i64 i) => match g[k]? with
      | some (.pcells s xs)=>if s=sz∧xs.length=n∧0≤i∧i<n then some (.p (.list (xs.take i.toNat)),g.set k .dead) else none
      | _=>none
    | _,_=>none
  | _=>none
def b8n (fi:Nat) (L:b1a) (sz:Nat) (C:b0n):List AV→List AObj→Option (AV × List AObj)
 | [.own true k n,fv],g=>(b0t C (n+2) (b8q fi L) (b4b [.own true k n,fv] g)).bind (c7b sz)
 | _,_=>none
def isMv (o:Oper) (d n:Nat):Bool:=o.guard.isNone && o.dst==some d && match o.op with
 | .move (.tmp m)=>m==n
 | .assign (.tmp m)=>m==n
 | _=>false
def j0z (P:Program) (sz:Nat) (o:Oper) (d x i:Nat):Bool:=o.guard.isNone && o.dst==some d && match o.op with
 | .slice t (.tmp y) (some (.tmp j)) none none=>y==x && j==i && (match P.underlying t with | some (.slice e)=>b5u P e==some sz | _=>false)
 | _=>false
def j0x (P:Program) (sz:Nat) (o:Oper) (d x i:Nat):Bool:=o.guard.isNone && o.dst==some d && match o.op with
 | .slice t (.tmp y) none (some (.tmp j)) none=>y==x && j==i && (match P.underlying t with | some (.slice e)=>b5u P e==some sz | _=>false)
 | _=>false
def g1e (P : Program) (sz : Nat) (o : Oper) (x : Nat) : Bool := o.guard.isNone && o.dst == none && match o.op with
  | .call { callee := .builtin .clear, args, argTypes } => (match args.toList, argTypes.toList with
    | [.tmp y], [t] => y == x && (match P.underlying t with
      | some (.slice e) => (match (P.info? e).bind (·.zero) with
        | some z=>z.cells.size==sz && z.cells.toList.all (·.oneCell')
        | none=>false)
      | _=>false)
    | _,_=>false)
  | _=>false
def h3m (P : Program) (sz : Nat) : List Code → Bool
  | [.region _ o4 false, .region _ o5 false, .ret] => (match o4.toList with
    | [a,b,c,d]=>isMv a 36 0 && isMv b 37 5 && j0z P sz c 38 36 37 && g1e P sz d 38
    | _=>false) && (match o5.toList with
    | [a,b,c,d]=>isMv a 39 0 && isMv b 40 5 && j0x P sz c 41 39 40 && isMv d 4 41
    | _=>false)
  | _=>false
def g4i (P:Program) (fi:Nat) (L:b1a) (sz:Nat) (l:List Code):Bool:=b2x P 42 (b8q fi L) (l.take 6) && h3m P sz (l.drop 6)
def delB (P : Program) (f fi : Nat) (L : b1a) (sz : Nat) : Bool := b5h P f && sz != 0 && match P.funcs[f]? with
  | some fn => (match fn.body with
    | some b=>fn.ntmps==42 && c0d P [.tmp 4] fn.results.toList && g4i P fi L sz (c0e b)
    | none=>false)
  | none=>false
section
variable {P:Program} {Γ : b1e} {f:Nat}
theorem g2k {Q:Exit→Act→World→Prop}:∀ {l r:List Code} {a:Act} {w:World},wpL P (Exit.then (wpL P Q r) Q) l a w→wpL P Q (l++r) a w
  | [],r,a,w,h=>h
  | c :: l, r, a, w, h => by
    simp only [List.cons_append,wpL] at h ⊢
    refine wp_mono h (fun e a' w' he => ?_)
    cases e <;> simp only [Exit.then] at he ⊢ <;> first | exact g2k he | exact he
theorem b4m {ops:Array Oper} {rest:List Oper} {o:Oper} {a:Act} {w w':World} {v:Value} {Q:Exit→Act→World→Prop} (hg:o.guard.isNone=true) (hr:(execOp a.eval o).run P w = .ok (.value v) w') (h:wpList P ops Q rest (a.put o.dst v) w'):wpList P ops Q (o::rest) a w:=by
 have hw:Region.wanted o (yielded ops a.tmps)=true:=by
  have:o.guard=none:=by simpa using hg
  simp [Region.wanted,this]
 unfold wpList
 rw [if_pos hw]
 exact .inl (Does.wp (Does.value (R:=fun v' w''=>v'=v∧w''=w') hr ⟨rfl,rfl⟩) (fun v' w'' hR=>by
  obtain ⟨rfl,rfl⟩:=hR
  exact h))
theorem d6c {o:Oper} {d n:Nat} (h:isMv o d n=true) (a:Act) (w:World):o.guard.isNone=true∧o.dst=some d∧(execOp a.eval o).run P w = .ok (.value (a.eval (.tmp n))) w:=by
 simp only [isMv,Bool.and_eq_true,beq_iff_eq] at h
 obtain ⟨⟨h1,h2⟩,h3⟩:=h
 refine ⟨h1,h2, ?_⟩
 split at h3 <;> rename_i ho <;> first | (cases h3;done) | skip
 all_goals
  simp only [beq_iff_eq] at h3
  subst h3
  simp only [execOp,ho]
  rfl
theorem h9x {sz:Nat} {o:Oper} {d x i:Nat} (h:j0z P sz o d x i=true) (a:Act) (w:World) {b n cp m:Nat} (hx:a.eval (.tmp x) = .slice (some ⟨b,0,none⟩) n cp) (hi:a.eval (.tmp i) = .int .i64 m) (hm:m<n) (hn:n≤cp) :
  o.guard.isNone=true∧o.dst=some d∧(execOp a.eval o).run P w = .ok (.value (.slice (some ⟨b,m*sz,none⟩) (n - m) (cp - m))) w:=by
 simp only [j0z,Bool.and_eq_true,beq_iff_eq] at h
 obtain ⟨⟨h1,h2⟩,h3⟩:=h
 refine ⟨h1,h2, ?_⟩
 split at h3
 rotate_left
 ·cases h3
 rename_i t y j ho
 simp only [Bool.and_eq_true,beq_iff_eq] at h3
 obtain ⟨⟨rfl,rfl⟩,h3⟩:=h3
 split at h3
 rotate_left
 ·cases h3
 rename_i e he
 simp only [beq_iff_eq] at h3
 have hne:¬ (cp=m):=by omega
 have hsz:∀ w,(sizeOf e).run P w = .ok sz w:=fun w=>by
  cases hq:P.info? e with
  | none=>simp [b5u,hq] at h3
  | some q=>simp [b5u,hq] at h3;simp [sizeOf,typeInfo,hq,h3]
 have hle:(m:Int)≤(n:Int):=by omega
 simp [execOp,ho,hx,hi,Instr.sliceAt,Instr.slice,run_underlying he,Instr.sliceBounds,Instr.sliceBound,asIntOf,hle,hsz,hne,Addr.add_lit]
 first | done | (intro h;omega)
theorem h9w {sz:Nat} {o:Oper} {d x i:Nat} (h:j0x P sz o d x i=true) (a:Act) (w:World) {b n cp m:Nat} (hx:a.eval (.tmp x) = .slice (some ⟨b,0,none⟩) n cp) (hi:a.eval (.tmp i) = .int .i64 m) (hm:m<n) (hn:n≤cp) :
  o.guard.isNone=true∧o.dst=some d∧(execOp a.eval o).run P w = .ok (.value (.slice (some ⟨b,0,none⟩) m cp)) w:=by
 simp only [j0x,Bool.and_eq_true,beq_iff_eq] at h
 obtain ⟨⟨h1,h2⟩,h3⟩:=h
 refine ⟨h1,h2, ?_⟩
 split at h3
 rotate_left
 ·cases h3
 rename_i t y j ho
 simp only [Bool.and_eq_true,beq_iff_eq] at h3
 obtain ⟨⟨rfl,rfl⟩,h3⟩:=h3
 split at h3
 rotate_left
 ·cases h3
 rename_i e he
 simp only [beq_iff_eq] at h3
 have hne:¬ (cp=0):=by omega
 have hsz:∀ w,(sizeOf e).run P w = .ok sz w:=fun w=>by
  cases hq:P.info? e with
  | none=>simp [b5u,hq] at h3
  | some q=>simp [b5u,hq] at h3;simp [sizeOf,typeInfo,hq,h3]
 have hle:(m:Int)≤(cp:Int):=by omega
 simp [execOp,ho,hx,hi,Instr.sliceAt,Instr.slice,run_underlying he,Instr.sliceBounds,Instr.sliceBound,asIntOf,hle,hsz,hne,Addr.add_lit]
 first | done | (intro h;omega)
theorem g0c (w:World) (t e ty:TypeId) (z:Value) (ht:P.underlying t=some (.slice e)) (hv:∀ w,(zeroValue e).run P w = .ok z w) (h1:∀ v ∈ z.cells.toList,v.oneCell'=true) (b o n c:Nat) (hn:0<n)
  (hc:∀ j,j<n*z.cells.size→(w.cell? ⟨b,o+j,none⟩).isSome=true) (hf:∀ j,j<n*z.cells.size→w.frozen? ⟨b,o+j,none⟩=false) :
  (Builtin.clear_ #[t] ty #[.slice (some ⟨b,o,none⟩) n c]).run P w = .ok (.tuple #[]) (w.setCells b o (Builtin.zeroCells z.cells n).toList):=by
 have hl:(Builtin.zeroCells z.cells n).toList.length=n*z.cells.size:=by rw [Array.length_toList,size_zeroCells]
 have hst:=run_storeCells_cells (P:=P) b o (Builtin.zeroCells z.cells n).toList 0 w (by rw [hl];simpa using hc) (by rw [hl];simpa using hf) (by
  intro v hv'
  refine h1 v ?_
  simp only [Builtin.zeroCells,Array.toList_map,List.mem_map,Array.toList_range,List.mem_range] at hv'
  obtain ⟨i,hi,rfl⟩:=hv'
  have h0:0<z.cells.size:=Nat.pos_of_ne_zero (fun e=>by rw [e] at hi;omega)
  rw [getElem!_pos z.cells _ (Nat.mod_lt _ h0)]
  exact Array.getElem_mem_toList _)
 simp only [Nat.add_zero] at hst
 obtain ⟨m,rfl⟩:∃ m,n=m+1:=⟨n - 1,by omega⟩
 simp [Builtin.clear_,run_underlying ht,hv,hst]
theorem g0d {sz:Nat} {o:Oper} {x:Nat} (h:g1e P sz o x=true) (a:Act) (w:World) {b off n cp:Nat} (hx:a.eval (.tmp x) = .slice (some ⟨b,off,none⟩) n cp) (hn:0<n)
  (hc:∀ j,j<n*sz→(w.cell? ⟨b,off+j,none⟩).isSome=true) (hf:∀ j,w.frozen? ⟨b,j,none⟩=false) :
  o.guard.isNone=true∧o.dst=none∧∃ zs:List Value,zs.length=n*sz∧(execOp a.eval o).run P w = .ok (.value (.tuple #[])) (w.setCells b off zs):=by
 simp only [g1e,Bool.and_eq_true,beq_iff_eq] at h
 obtain ⟨⟨h1,h2⟩,h3⟩:=h
 refine ⟨h1,h2, ?_⟩
 split at h3
 rotate_left
 ·cases h3
 rename_i args ats ho
 split at h3
 rotate_left
 ·cases h3
 rename_i y t hargs hats
 simp only [Bool.and_eq_true,beq_iff_eq] at h3
 obtain ⟨rfl,h3⟩:=h3
 split at h3
 rotate_left
 ·cases h3
 rename_i e he
 split at h3
 rotate_left
 ·cases h3
 rename_i z hz
 simp only [Bool.and_eq_true,beq_iff_eq,List.all_eq_true] at h3
 obtain ⟨rfl,h1c⟩:=h3
 have hv:∀ w,(zeroValue e).run P w = .ok z w:=fun w=>by
  obtain ⟨q,hq,hqz⟩:=Option.bind_eq_some_iff.1 hz
  simp [zeroValue,typeInfo,hq,hqz]
 have hrun:=g0c w t e o.type z he hv h1c b off n cp hn hc (fun j _=>hf _)
 refine ⟨_,by rw [Array.length_toList,size_zeroCells], ?_⟩
 have ha:args = #[.tmp y]:=by rw [← Array.toArray_toList (xs:=args),hargs]
 have ht:ats = #[t]:=by rw [← Array.toArray_toList (xs:=ats),hats]
 subst ha
 subst ht
 simp [execOp,ho,resolve,invoke,builtin,hx,hrun,Result.andThen]
theorem b6p (a:Act) (d:Option Nat) (v:Value):(a.put d v).tmps.size=a.tmps.size:=by cases d <;> simp [Act.put]
theorem b4o {a:Act} {d n:Nat} {v:Value} (h:d<a.tmps.size):(a.put (some d) v).eval (.tmp n)=if n=d then v else a.eval (.tmp n):=by
 by_cases e:n=d
 ·subst e
  simp [Act.put,Act.eval,h]
 ·have e':¬ d=n:=fun h=>e h.symm
  simp [Act.put,Act.eval,e,e',Array.getElem?_setIfInBounds]
theorem d6q (a:Act) (d:Option Nat) (v:Value):(a.put d v).defers=a.defers:=by cases d <;> rfl
theorem d1z (hm : P.follows .mixedOrders = true) {fi : Nat} {L : b1a} {sz : Nat} (hB : delB P f fi L sz = true) : b6j P Γ f (b8n fi L sz) := by
  intro C hC args g r g' hp hno hgo
  unfold b8n at hp
  split at hp
  rotate_left
  · cases hp
  rename_i k n fv
  obtain ⟨⟨ex,s1⟩,hex,hout⟩:=Option.bind_eq_some_iff.1 hp
  simp only [delB,Bool.and_eq_true,bne_iff_ne,ne_eq] at hB
  obtain ⟨⟨hcal,hsz0⟩,hB⟩:=hB
  split at hB
  rotate_left
  · cases hB
  rename_i fn hfn
  split at hB
  rotate_left
  · cases hB
  rename_i body hbody
  simp only [Bool.and_eq_true,beq_iff_eq,g4i] at hB
  obtain ⟨⟨hnt,hres⟩,hhead,htail⟩:=hB
  have hitems:c0e body=(c0e body).take 6++(c0e body).drop 6:=(List.take_append_drop 6 _).symm
  generalize (c0e body).take 6=is1 at *
  generalize (c0e body).drop 6=is2 at *
  have hCg:∀ f args g r g',C f args g=some (r,g')→b0p args=true→gOk g→gOk g':=fun f args g r g' h1 h2 h3=>(hC f args g r g' h1 h2 h3).2.1
  have hgo1:gOk s1.g:=b6f hCg _ hhead (s:=b4b [.own true k n,fv] g) hgo hex
  obtain ⟨fr,l1,g1⟩:=s1
  have hr:l1=[]∧∃ xs k',r = .p (.list xs)∧g'=g1.set k' .dead:=by
    unfold c7b at hout
    split at hout <;> (try (cases hout;done)) <;> (rename_i heq;simp only [Prod.mk.injEq,St.mk.injEq] at heq;obtain ⟨_,rfl,rfl,rfl⟩:=heq) <;> (split at hout <;> (try (cases hout;done))) <;> (split at hout <;> (try (cases hout;done))) <;> (split at hout <;> (try (cases hout;done))) <;> (simp only [Option.some.injEq,Prod.mk.injEq] at hout;exact ⟨rfl,_,_,hout.1.symm,hout.2.symm⟩)
  obtain ⟨rfl,ys,k',rfl,rfl⟩:=hr
  refine ⟨hcal,d4v hgo1 k',rfl,fun c vs hl hgc hH hlen hrel => ?_⟩
  subst hgc
  refine calls_of_wp hfn hbody ?_
  have hg0:=c5d (c:=c) (args:=[.own true k n,fv]) (vs:=vs) (np:=2) (nt:=fn.ntmps) hlen hrel hH hl hgo rfl
  rw [hnt] at hg0 ⊢
  have hmax:max 2 42=42:=rfl
  rw [hmax] at hg0
  refine b4d ?_
  rw [hitems]
  refine g2k (b3v (C:=C) (N:=n+2) hm hC _ hhead hg0 hex (fun c1 a1 hg1 hE1 => ?_))
  have fin:∀ (a2:Act) (c2:Cx),a2.defers=[]→c2.l=[]→c2.g=g1.set k' .dead→Evo c c2→RelH Γ c2→(∃ u,a2.tmps.getD 4 undef=u∧RelV c2 (.p (.list ys)) u)→bodyPost P fn (fun e w'=>∃ v,e = .returned v∧Ans Γ c [] (g1.set k' .dead) (.p (.list ys)) v w') .ret a2 c2.w:=by
    intro a2 c2 hd hl2 hg2 hE hH2 ⟨u,hu,hv⟩
    refine ⟨hd,u, ?_,u,rfl,c2,hl2,hg2,rfl,hE.evolve hl,hH2,hv⟩
    have e:results fn a2.tmps=(do let vs ← fn.results.mapM (rvOf a2.tmps);pure (if h:vs.size=1 then vs[0] else .tuple vs)):=rfl
    have hrs:fn.results.toList=[.tmp 4]:=by
      cases h:fn.results.toList with
      | nil=>rw [h] at hres;simp [c0d] at hres
      | cons x l =>
        rw [h] at hres
        cases x with
        | tmp t =>
          simp only [c0d,Bool.and_eq_true,beq_iff_eq] at hres
          cases l with
          | nil=>rw [← hres.1]
          | cons y l=>simp [c0d] at hres
        | cell a b=>simp [c0d] at hres
    rw [e,Array.mapM_eq_mapM_toList,hrs]
    simp only [List.mapM_cons,List.mapM_nil,rvOf,hu]
    rfl
  cases ex with
  | exit id=>cases hout
  | ret =>
    simp only [c7b] at hout
    split at hout
    rotate_left
    · cases hout
    rename_i k2 n2 hav
    split at hout
    rotate_left
    · cases hout
    rename_i s xs hob
    split at hout
    rotate_left
    · cases hout
    rename_i hc
    obtain ⟨rfl,rfl⟩:=hc
    simp only [Option.some.injEq,Prod.mk.injEq,AV.p.injEq,PV.list.injEq] at hout
    obtain ⟨rfl,hset⟩:=hout
    have hob1:c1.obj true k2=some (.pcells s xs):=by
      have:c1.g=g1:=hg1.g.symm
      simp [Cx.obj,this,hob]
    have h4:=hg1.F 4
    rw [hav] at h4
    obtain ⟨t1,t2,t3⟩:=c1u hg1.H hob1 h4
    refine fin a1 (c1.set true k2 .dead none c1.w) hg1.D ?_ ?_ (hE1.trans t1.evo) t2 ⟨_,rfl,.p _ _ t3⟩
    · have:c1.l=[]:=hg1.l.symm
      simpa [Cx.set] using this
    · have:c1.g=g1:=hg1.g.symm
      simp [Cx.set,this,hset]
  | normal =>
    simp only [c7b] at hout
    split at hout
    rotate_left
    · cases hout
    rename_i k2 n2 i hav0 hav5
    split at hout
    rotate_left
    · cases hout
    rename_i s xs hob
    split at hout
    rotate_left
    · cases hout
    rename_i hc
    obtain ⟨rfl,rfl,hi0,hin⟩:=hc
    simp only [Option.some.injEq,Prod.mk.injEq,AV.p.injEq,PV.list.injEq] at hout
    obtain ⟨rfl,hset⟩:=hout
    have hg1g:c1.g=g1:=hg1.g.symm
    have hob1:c1.obj true k2=some (.pcells s xs):=by simp [Cx.obj,hg1g,hob]
    have h0:=hg1.F 0
    rw [hav0] at h0
    have h5:=hg1.F 5
    rw [hav5] at h5
    have h5:=b2r h5
    obtain ⟨A,cap,hv0,hrow⟩:=c0l h0 hob1 rfl
    rcases hrow with ⟨_,hn0,_⟩ | ⟨b,arr,e,q1,rfl,q3,q4,q5,q6⟩
    · omega
    simp only [AObj.sz] at q6
    have hR1:b3z c1 (c1.μ true k2) s (lift xs):=hg1.H.objs true k2 _ hob1
    rw [q1] at hR1
    obtain ⟨arr',e',hh,hrows⟩:=b8d hR1
    rw [q5] at hh
    cases hh
    obtain ⟨m,rfl⟩:∃ m:Nat,i=m:=⟨i.toNat,by omega⟩
    have hmn:m<xs.length:=by omega
    simp only [Int.toNat_natCast] at *
    unfold h3m at htail
    split at htail
    rotate_left
    · cases htail
    rename_i i4 o4 i5 o5
    simp only [Bool.and_eq_true] at htail
    obtain ⟨ht4,ht5⟩:=htail
    split at ht4
    rotate_left
    · cases ht4
    rename_i x0 x1 x2 x3 ho4
    split at ht5
    rotate_left
    · cases ht5
    rename_i y0 y1 y2 y3 ho5
    simp only [Bool.and_eq_true] at ht4 ht5
    obtain ⟨⟨⟨hx0,hx1⟩,hx2⟩,hx3⟩:=ht4
    obtain ⟨⟨⟨hy0,hy1⟩,hy2⟩,hy3⟩:=ht5
    simp only [c8j,Exit.then]
    have hN:=hg1.N
    have E0:a1.eval (.tmp 0) = .slice (some ⟨b,0,none⟩) xs.length cap:=hv0
    have E5:a1.eval (.tmp 5) = .int .i64 m:=h5
    have hfz:∀ j,c1.w.frozen? ⟨b,j,none⟩=false:=fun j=>by simp [World.frozen?,q5]
    have hmul:(xs.length - m)*s+m*s=xs.length*s:=by rw [← Nat.add_mul];congr 1;omega
    have hcap:xs.length*s≤arr.size:=by rw [q6];exact Nat.mul_le_mul_right _ q3
    show (Code.region i4 o4 false).wp P _ a1 c1.w
    refine wp_region_list ?_
    rw [ho4]
    obtain ⟨gd,dd,rr⟩:=d6c (P:=P) hx0 a1 c1.w
    refine b4m gd rr ?_
    rw [dd,E0]
    obtain ⟨gd,dd,rr⟩:=d6c (P:=P) hx1 (a1.put (some 36) (.slice (some ⟨b,0,none⟩) xs.length cap)) c1.w
    refine b4m gd rr ?_
    rw [dd,b4o (by omega),if_neg (by decide),E5]
    obtain ⟨gd,dd,rr⟩:=h9x hx2 ((a1.put (some 36) (.slice (some ⟨b,0,none⟩) xs.length cap)).put (some 37) (.int .i64 m)) c1.w (b:=b) (n:=xs.length) (cp:=cap) (m:=m) (by rw [b4o (by rw [b6p];omega),if_neg (by decide),b4o (by omega),if_pos rfl]) (by rw [b4o (by rw [b6p];omega),if_pos rfl]) hmn q3
    refine b4m gd rr ?_
    rw [dd]
    obtain ⟨gd,dd,zs,hzl,rr⟩:=g0d hx3 (((a1.put (some 36) (.slice (some ⟨b,0,none⟩) xs.length cap)).put (some 37) (.int .i64 m)).put (some 38) (.slice (some ⟨b,m*s,none⟩) (xs.length - m) (cap - m))) c1.w (b:=b) (off:=m*s) (n:=xs.length - m) (cp:=cap - m) (by rw [b4o (by rw [b6p,b6p];omega),if_pos rfl]) (by omega) (fun j hj=>by
      rw [cell_of_row c1.w b _ arr _ (0,0) q5,Array.getElem?_eq_getElem (by omega)];rfl) hfz
    refine b4m gd rr ?_
    rw [dd]
    simp only [wpList,Exit.then]
    have hw1:∃ w1,w1=c1.w.setCells b (m*s) zs:=⟨_,rfl⟩
    obtain ⟨w1,hw1⟩:=hw1
    rw [← hw1]
    have hA:∃ a5:Act,a5=((((a1.put (some 36) (.slice (some ⟨b,0,none⟩) xs.length cap)).put (some 37) (.int .i64 m)).put (some 38) (.slice (some ⟨b,m*s,none⟩) (xs.length - m) (cap - m))).put none (.tuple #[])):=⟨_,rfl⟩
    obtain ⟨a5,hA⟩:=hA
    rw [← hA]
    have F0:a5.eval (.tmp 0) = .slice (some ⟨b,0,none⟩) xs.length cap:=by
      rw [hA]
      show (Act.put _ (some 38) _).eval _=_
      rw [b4o (by simp only [b6p];omega),if_neg (by decide),b4o (by simp only [b6p];omega),if_neg (by decide),b4o (by omega),if_neg (by decide),E0]
    have F5:a5.eval (.tmp 5) = .int .i64 m:=by
      rw [hA]
      show (Act.put _ (some 38) _).eval _=_
      rw [b4o (by simp only [b6p];omega),if_neg (by decide),b4o (by simp only [b6p];omega),if_neg (by decide),b4o (by omega),if_neg (by decide),E5]
    have FN:a5.tmps.size=42:=by rw [hA];simp only [b6p];omega
    have FD:a5.defers=[]:=by rw [hA];simp only [d6q];exact hg1.D
    show (Code.region i5 o5 false).wp P _ a5 w1
    refine wp_region_list ?_
    rw [ho5]
    obtain ⟨gd,dd,rr⟩:=d6c (P:=P) hy0 a5 w1
    refine b4m gd rr ?_
    rw [dd,F0]
    obtain ⟨gd,dd,rr⟩:=d6c (P:=P) hy1 (a5.put (some 39) (.slice (some ⟨b,0,none⟩) xs.length cap)) w1
    refine b4m gd rr ?_
    rw [dd,b4o (by omega),if_neg (by decide),F5]
    obtain ⟨gd,dd,rr⟩:=h9w hy2 ((a5.put (some 39) (.slice (some ⟨b,0,none⟩) xs.length cap)).put (some 40) (.int .i64 m)) w1 (b:=b) (n:=xs.length) (cp:=cap) (m:=m) (by rw [b4o (by rw [b6p];omega),if_neg (by decide),b4o (by omega),if_pos rfl]) (by rw [b4o (by rw [b6p];omega),if_pos rfl]) hmn q3
    refine b4m gd rr ?_
    rw [dd]
    obtain ⟨gd,dd,rr⟩:=d6c (P:=P) hy3 (((a5.put (some 39) (.slice (some ⟨b,0,none⟩) xs.length cap)).put (some 40) (.int .i64 m)).put (some 41) (.slice (some ⟨b,0,none⟩) m cap)) w1
    refine b4m gd rr ?_
    rw [dd,b4o (by simp only [b6p];omega),if_pos rfl]
    simp only [wpList,Exit.then]
    refine wp_ret ?_
    have hml:(xs.take m).length=m:=by rw [List.length_take];omega
    have hbw:b<c1.w.heap.size:=(Array.getElem?_eq_some_iff.1 q5).1
    obtain ⟨t1,t2,t3⟩:=d7k hg1.H hob1 (w':=w1) (by rw [hw1,q1];exact Only.cells (.inl rfl) _ _ (Only.refl _ _)) (b:=b) (cap:=cap) (.inl q1) (by rw [hw1,b1o];exact hbw) (xs:=xs.take m) (by omega) q4 (by rw [d7f];exact hrows.head m) (fun j v hj=>by
      have hj':j<m*s:=by
        have:=(List.getElem?_eq_some_iff.1 hj).1
        rw [List.length_take] at this
        omega
      rw [hw1,World.cell?_setCells_out b _ _ _ _ (fun _ _=>by show j<m*s∨_;omega),cell_of_row c1.w b _ arr _ (0,0) q5]
      rw [List.getElem?_take,if_pos hj'] at hj
      simpa using hj)
    rw [hml] at t3
    refine fin _ (c1.set true k2 .dead none w1) (by simp only [d6q];exact FD) ?_ ?_ (hE1.trans t1.evo) t2 ⟨_,rfl, ?_⟩
    · have:c1.l=[]:=hg1.l.symm
      simpa [Cx.set] using this
    · simp [Cx.set,hg1g,hset]
    · have e4:(Act.put (((a5.put (some 39) (.slice (some ⟨b,0,none⟩) xs.length cap)).put (some 40) (.int .i64 m)).put (some 41) (.slice (some ⟨b,0,none⟩) m cap)) (some 4) (.slice (some ⟨b,0,none⟩) m cap)).eval (.tmp 4) = .slice (some ⟨b,0,none⟩) m cap:=by rw [b4o (by simp only [b6p];omega),if_pos rfl]
      have e5:∀ a:Act,a.eval (.tmp 4)=a.tmps.getD 4 undef:=fun _=>rfl
      rw [← e5,e4]
      exact t3
end
end Go.TA


end
section
/- strconv.Itoa, told at once. -/
namespace Go.TA
open Go.RowKit Go.Sort
def ΓW (P : Program) (W : World) : b1e where
  B:=W.heap.size
  holds w:=W.heap.size≤w.heap.size∧∃ g,P.globalNamed "internal/strconv.uint64pow10" = some g∧g<W.heap.size∧Lib.TabIs P w "internal/strconv.uint64pow10" .u64 Lib.pow10Tab
  lt w h:=h.1
  keep w w' h hb hs:=by
    obtain ⟨h1,g,hg,hlt,ht⟩:=h
    refine ⟨Nat.le_trans h1 hs,g,hg,hlt, ?_⟩
    unfold Lib.TabIs World.var? at *
    rw [hg] at *
    simp only [Option.bind_some] at *
    rw [hb g hlt]
    exact ht
theorem h9p {P:Program} {W:World} (w:World) (h:(ΓW P W).holds w):Lib.TabIs P w "internal/strconv.uint64pow10" .u64 Lib.pow10Tab:=by
 obtain ⟨_,_,_,_,h⟩:=h
 exact h
theorem g8x {P:Program} {W:World} (h:Lib.TabIs P W "internal/strconv.uint64pow10" .u64 Lib.pow10Tab):(ΓW P W).holds W:=by
 refine ⟨Nat.le_refl _, ?_⟩
 have h':=h
 unfold Lib.TabIs World.var? at h'
 obtain ⟨g,hg,h2⟩:=Option.bind_eq_some_iff.1 h'
 refine ⟨g,hg, ?_,h⟩
 rcases Nat.lt_or_ge g W.heap.size with hlt | hge
 ·exact hlt
 ·rw [Array.getElem?_eq_none hge] at h2
  cases h2
def g5t (C:b0n):List AV→List AObj→Option (AV × List AObj)
 | [.p (.int .i64 n)],g=>if -9223372036854775808≤n∧n≤9223372036854775807 then some (.p (.str (Lib.itoa n)),g) else none
 | _,_=>none
section
variable {P:Program} {Γ : b1e} {f:Nat}
theorem h6h (hcal:b5h P f=true) (hΓ : ∀ w, Γ.holds w→Lib.TabIs P w "internal/strconv.uint64pow10" .u64 Lib.pow10Tab)
  (h:∀ (n:Int) (w:World), -9223372036854775808≤n→n≤9223372036854775807→Lib.TabIs P w "internal/strconv.uint64pow10" .u64 Lib.pow10Tab→Calls P f #[.int .i64 n] w fun e w'=>e = .returned (.string ⟨(Lib.itoa n).toArray⟩)∧∃ k os,w'=grow (w.drewN k) os):b6j P Γ f g5t:=by
 intro C hC args g r g' hp hno hgo
 unfold g5t at hp
 split at hp
 ·rename_i n
  split at hp
  ·rename_i hn
   simp only [Option.some.injEq,Prod.mk.injEq] at hp
   obtain ⟨rfl,rfl⟩:=hp
   refine ⟨hcal,hgo,rfl,fun c vs hl hgc hH hlen hrel => ?_⟩
   match vs,hlen with
   | [v],_=>
   have e1:=b2r (hrel 0 (by simp) (by simp))
   simp only [List.getElem_cons_zero] at e1
   subst e1
   refine Calls.mono (h n c.w hn.1 hn.2 (hΓ _ hH.ground)) (fun e w' he => ?_)
   obtain ⟨rfl,k,os,rfl⟩:=he
   have hbel:Go.RowKit.Below c.w.heap.size c.w (grow (c.w.drewN k) os):=Lib.below_grow _ _ (Nat.le_refl _) k os
   exact ⟨_,rfl,{ c with w:=grow (c.w.drewN k) os },hl,hgc,rfl,b4s hbel hH.lt,hH.below hbel,.p _ _ (.str _)⟩
  ·cases hp
 ·cases hp
end
end Go.TA


end
section
/- slices.Insert at int: its roads, and what it is. -/
namespace Go.TA.Tryz
open Go.Shelf Go.RowKit Go.Lib Go.Proofs
def c2m:Value:=.int .i64 0
set_option maxHeartbeats 4000000 in
set_option maxRecDepth 100000 in
theorem g6m (b n c i vb voff m vc : Nat) (cs vs : List Value) (w : World) (hi : i < n) (hm : 0 < m) (hroom : n + m ≤ c) (hc63 : c ≤ 9223372036854775807) (hvb : vb ≠ b)
    (hcl:cs.length=n) (hvl:vs.length=m)
    (hcs:∀ j v,cs[j]? = some v→w.cell? ⟨b,j,none⟩=some v) (hsp:∀ j,j<(n+m)→(w.cell? ⟨b,j,none⟩).isSome=true) (hfz:∀ j,j<(n+m)→w.frozen? ⟨b,j,none⟩=false)
    (hvs:∀ j v,vs[j]? = some v→w.cell? ⟨vb,voff+j,none⟩=some v) (h1c:∀ v ∈ cs,v.oneCell'=true) (h1v:∀ v ∈ vs,v.oneCell'=true)
    (tA tB:TypeId) (kA kB:Nat) (hsa:w.shape? vb=some (tA,kA)) (hsb:w.shape? b=some (tB,kB)) (hkA:kA≠0) (hfb:∀ j,w.frozen? ⟨b,j,none⟩=false) :
    Calls Go.Proofs.Tryz.prog 106 #[.slice (some ⟨b,0,none⟩) n c,.int .i64 i,.slice (some ⟨vb,voff,none⟩) m vc] w fun e w'=>
      e = .returned (.slice (some ⟨b,0,none⟩) (n+m) c)∧w'=(w.drew.setCells b ((i+m)) (cs.drop (i))).setCells b (i) vs:=by
  have c2d:Go.Proofs.Tryz.prog.follows .mixedOrders=true:=by kernel_rfl
  have hz1:¬ ((m:Int)=0):=by omega
  have hz2:¬ ((i:Int)=(n:Int)):=by omega
  have hov:∀ lb cb,(callFunc 123 #[.slice (some ⟨vb,voff,none⟩) m vc,.slice (some ⟨b,(i+m),none⟩) lb cb]).run Go.Proofs.Tryz.prog w = .ok (.value (.bool false)) w:=fun lb cb=>by
    rw [run_callFunc_extern Tryz.func123 (by kernel_rfl) (by kernel_rfl) (by kernel_rfl) (e:=Extern.SlicesOverlaps.overlaps #[39,39] #[4]) (by kernel_rfl),
      b9z w 39 4 3 Tryz.underlying39 1 (fun w=>by kernel_rfl) ⟨vb,voff,none⟩ ⟨b,(i+m),none⟩ m vc lb cb hvb tA tB kA kB hsa hsb hkA (hfb _) (hfb _)]
    rfl
  have hsz:(Go.Proofs.Tryz.prog.info? 3).map (·.size)=some 1:=by kernel_rfl
  have hw1:IntKind.i64.wrap ((i:Int)+(m:Int))=(i:Int)+(m:Int):=by rw [IntKind.wrap_i64];omega
  have hb1:(0:Int)≤(i:Int)+(m:Int):=by omega
  have hin:i≤n:=by omega
  have htn:((i:Int)+(m:Int)).toNat=i+m:=by omega
  have hb2:¬ (c=i+m):=by omega
  have hb3:(i:Int)≤(n:Int)+(m:Int):=by omega
  have hb4:¬ (c=i):=by omega
  have hdl:(cs.drop (i)).length=(n - i):=by rw [List.length_drop];omega
  have hcp1:∀ ty dc sc,(Builtin.copy_ #[39,39] ty #[.slice (some ⟨b,(i+m),none⟩) (n+m - (i+m)) dc,.slice (some ⟨b,i,none⟩) (n+m - i) sc]).run Go.Proofs.Tryz.prog w.drew = .ok (goInt (Nat.min (n+m - i) (n+m - (i+m)))) (w.drew.setCells b ((i+m)) (cs.drop (i))):=fun ty dc sc=>
    b5n w.drew _ _ ty 3 1 b ((i+m)) (n+m - (i+m)) dc ⟨b,i,none⟩ (n+m - i) sc (cs.drop (i)) Tryz.underlying39 hsz (by rw [hdl];simp only [Nat.min_def];split <;> omega)
      (fun j v hj=>by rw [Addr.add_lit];exact hcs (i+j) v (by rwa [List.getElem?_drop] at hj))
      (fun j hj=>hsp _ (by omega)) (fun j hj=>hfz _ (by omega)) (fun v hv=>h1c v (List.mem_of_mem_drop hv))
  obtain ⟨W1,hW1⟩:∃ W1,W1=w.drew.setCells b ((i+m)) (cs.drop (i)):=⟨_,rfl⟩
  have hsp1:∀ k,k<(n+m)→(W1.cell? ⟨b,k,none⟩).isSome=true:=fun k hk=>by
    rw [hW1]
    exact isSome_setCells b (cs.drop (i)) ((i+m)) w.drew (fun j hj=>hsp ((i+m)+j) (by rw [hdl] at hj;omega)) k (hsp k hk)
  have hcp2:∀ (W:World),(∀ x,W.cell? x=W1.cell? x)→(∀ x,W.frozen? x=W1.frozen? x)→∀ ty dc,(Builtin.copy_ #[39,39] ty #[.slice (some ⟨b,i,none⟩) (n+m - i) dc,.slice (some ⟨vb,voff,none⟩) m vc]).run Go.Proofs.Tryz.prog W = .ok (goInt (Nat.min m (n+m - i))) (W.setCells b (i) vs):=fun W hWc hWf ty dc=>
    b5n W _ _ ty 3 1 b (i) (n+m - i) dc ⟨vb,voff,none⟩ m vc vs Tryz.underlying39 hsz (by rw [hvl];simp only [Nat.min_def];split <;> omega)
      (fun j v hj=>by
        rw [Addr.add_lit,hWc,hW1,World.cell?_setCells_out b _ _ _ _ (fun h _=>absurd h hvb)]
        exact hvs j v hj)
      (fun j hj=>by rw [hWc];exact hsp1 _ (by omega)) (fun j hj=>by rw [hWf,hW1,World.frozen?_setCells];exact hfz _ (by omega)) h1v
  rw [← hW1] at hcp1
  go_enter Tryz.func106,Tryz.ntmps106
  go_wp2_with (simp only [hov])
  go_region_law_o (refine step_copy_runI rfl _ _ 39 39 rfl _ _ (by simp [Act.eval,Act.put]) (by simp [Act.eval,Act.put]) (hcp1 _ _ _) ?_)
  go_wp2_with (at_builtin;refine wpList_copy_runI _ rfl _ _ 39 39 rfl _ _ rfl rfl (hcp2 _ (fun _=>rfl) (fun _=>rfl) _ _) ?_)
  go_ret
  first | exact ⟨rfl,rfl⟩ | exact ⟨rfl,by rw [hW1]⟩
set_option maxHeartbeats 4000000 in
set_option maxRecDepth 100000 in
theorem d4m (b n c vb voff m vc:Nat) (vs:List Value) (w:World) (hm:0<m) (hroom:n+m≤c) (hc63:c≤9223372036854775807) (hvl:vs.length=m)
  (hsp:∀ j,j<m→(w.cell? ⟨b,n+j,none⟩).isSome=true) (hfz:∀ j,j<m→w.frozen? ⟨b,n+j,none⟩=false)
  (hvs:∀ j v,vs[j]? = some v→w.cell? ⟨vb,voff+j,none⟩=some v) (h1v:∀ v ∈ vs,v.oneCell'=true) :
  Calls Go.Proofs.Tryz.prog 106 #[.slice (some ⟨b,0,none⟩) n c,.int .i64 n,.slice (some ⟨vb,voff,none⟩) m vc] w fun e w'=>
   e = .returned (.slice (some ⟨b,0,none⟩) (n+m) c)∧w'=w.setCells b (n) vs:=by
 have c2d:Go.Proofs.Tryz.prog.follows .mixedOrders=true:=by kernel_rfl
 have hz1:¬ ((m:Int)=0):=by omega
 obtain ⟨i0,hi0,hs0⟩:∃ i,Go.Proofs.Tryz.prog.info? 3=some i∧i.size=1:=⟨_,rfl,rfl⟩
 have hsrc:Src Go.Proofs.Tryz.prog i0.size 39 (.slice (some ⟨vb,voff,none⟩) m vc) m vs w:=Src.ofSlice w Tryz.underlying39 ⟨vb,voff,none⟩ m vc vs (by rw [hs0];omega) (fun j u hj=>by rw [Addr.add_lit];exact hvs j u hj) h1v
 go_enter Tryz.func106,Tryz.ntmps106
 go_wp2_with (at_builtin;refine wpList_append_room_src _ rfl _ _ 39 39 rfl 3 i0 Tryz.underlying39 hi0 b 0 n c rfl _ rfl m vs hsrc hroom (by rw [hs0,Nat.zero_add,hvl];first | exact hsp | simpa using hsp) (by rw [hs0,Nat.zero_add,hvl];first | exact hfz | simpa using hfz) ?_)
 go_ret
 first | exact ⟨rfl,rfl⟩ | exact ⟨rfl,by rw [hs0,Nat.zero_add]⟩ | exact ⟨rfl,by rw [hs0,Nat.zero_add,Nat.mul_one]⟩
set_option maxHeartbeats 4000000 in
set_option maxRecDepth 100000 in
theorem d4o (base:Option Addr) (n c vb voff m vc:Nat) (cs vs:List Value) (w:World) (hm:0<m) (hnc:n≤c) (hroom:c<n+m) (hbig:(n+m)*8≤140737488355328)
    (hcl:cs.length=n) (hvl:vs.length=m) (hnil:base=none→n=0)
    (hcs:∀ a,base=some a→∀ j v,cs[j]? = some v→w.cell? (a.add j)=some v)
    (hvs:∀ j v,vs[j]? = some v→w.cell? ⟨vb,voff+j,none⟩=some v) (h1v:∀ v ∈ vs,v.oneCell'=true) :
    Calls Go.Proofs.Tryz.prog 106 #[.slice base n c,.int .i64 n,.slice (some ⟨vb,voff,none⟩) m vc] w fun e w'=>
      e = .returned (.slice (some ⟨w.heap.size,0,none⟩) (n+m) (grownCap w (n+m) c 3)) ∧
      w'=w.drew.alloc (.cells ((cs++vs).toArray++Builtin.zeroCells c2m.cells (grownCap w (n+m) c 3 - (n+m))) 3):=by
  have c2d:Go.Proofs.Tryz.prog.follows .mixedOrders=true:=by kernel_rfl
  have hz1:¬ ((m:Int)=0):=by omega
  obtain ⟨i0,hi0,hs0,hz0,hb0⟩:∃ i,Go.Proofs.Tryz.prog.info? 3=some i∧i.size=1∧i.zero=some c2m∧i.bytes=8:=⟨_,rfl,rfl,rfl,rfl⟩
  have hsrc:Src Go.Proofs.Tryz.prog i0.size 39 (.slice (some ⟨vb,voff,none⟩) m vc) m vs w:=Src.ofSlice w Tryz.underlying39 ⟨vb,voff,none⟩ m vc vs (by rw [hs0];omega) (fun j u hj=>by rw [Addr.add_lit];exact hvs j u hj) h1v
  have hold:(Builtin.firstCells i0.size n (.slice base n c)).run Go.Proofs.Tryz.prog w.drew = .ok cs.toArray w.drew:=by
    rw [hs0]
    cases base with
    | none =>
      have h0:=hnil rfl
      subst h0
      have hc0:cs=[]:=List.length_eq_zero_iff.1 (by simpa using hcl)
      rw [hc0]
      exact run_firstCells_none w.drew 1 0 0 c
    | some a=>exact run_firstCells_some w.drew 1 n a n c cs (by omega) (fun j v hj=>hcs a rfl j v hj)
  have hrun:∀ ty,(Builtin.append_ #[39,39] ty #[.slice base n c,.slice (some ⟨vb,voff,none⟩) m vc]).run Go.Proofs.Tryz.prog w=_:=fun ty=>
    run_append_grow_src w 39 39 ty 3 i0 c2m Tryz.underlying39 hi0 hz0 base n c cs hold _ m vs hsrc hroom (by omega) (by rw [hb0];exact growslice_fits hroom hbig)
  go_enter Tryz.func106,Tryz.ntmps106
  cases base with
  | none =>
    have h0:=hnil rfl
    subst h0
    go_wp2_with (at_builtin;refine Lib.wpList_append_run _ rfl _ _ _ _ rfl _ _ rfl rfl _ _ (hrun _) ?_)
    go_ret
    exact ⟨rfl,rfl⟩
  | some a =>
    obtain ⟨ab,ao,asp⟩:=a
    go_wp2_with (at_builtin;refine Lib.wpList_append_run _ rfl _ _ _ _ rfl _ _ rfl rfl _ _ (hrun _) ?_)
    all_goals (go_ret;exact ⟨rfl,rfl⟩)
set_option maxHeartbeats 4000000 in
set_option maxRecDepth 100000 in
theorem h2n (b n c i vb voff m vc : Nat) (cs vs : List Value) (w : World) (hi : i < n) (hm : 0 < m) (hnc : n ≤ c) (hroom : c < n + m) (hbig : (n + m) * 8 ≤ 140737488355328)
    (hcl:cs.length=n) (hvl:vs.length=m)
    (hcs:∀ j v,cs[j]? = some v→w.cell? ⟨b,j,none⟩=some v)
    (hvs:∀ j v,vs[j]? = some v→w.cell? ⟨vb,voff+j,none⟩=some v) (h1c:∀ v ∈ cs,v.oneCell'=true) (h1v:∀ v ∈ vs,v.oneCell'=true) :
    Calls Go.Proofs.Tryz.prog 106 #[.slice (some ⟨b,0,none⟩) n c,.int .i64 i,.slice (some ⟨vb,voff,none⟩) m vc] w fun e w'=>
      e = .returned (.slice (some ⟨w.heap.size,0,none⟩) (n+m) (grownCap w (n+m) c 3)) ∧
      w'=(((w.alloc (.cells ((cs.take (i)).toArray++Builtin.zeroCells c2m.cells (n+m - i)++Builtin.zeroCells c2m.cells (grownCap w (n+m) c 3 - (n+m))) 3)).drew.setCells w.heap.size (i) vs).drew).setCells w.heap.size ((i+m)) (cs.drop (i)):=by
  have c2d:Go.Proofs.Tryz.prog.follows .mixedOrders=true:=by kernel_rfl
  obtain ⟨i0,hi0,hzs,hz0,hzb⟩:∃ i,Go.Proofs.Tryz.prog.info? 3=some i∧i.size=1∧i.zero=some c2m∧i.bytes=8:=⟨_,rfl,rfl,rfl,rfl⟩
  have hz1:¬ ((m:Int)=0):=by omega
  have hz2:¬ ((i:Int)=(n:Int)):=by omega
  have hz3:(c:Int)<(n:Int)+(m:Int):=by omega
  have hsz:(Go.Proofs.Tryz.prog.info? 3).map (·.size)=some 1:=by kernel_rfl
  have hbw:b<w.heap.size:=block_lt_of_cell (hcs 0 _ (List.getElem?_eq_getElem (by omega)))
  have hvw:vb<w.heap.size:=block_lt_of_cell (hvs 0 _ (List.getElem?_eq_getElem (by omega)))
  have hkk:(n:Int)+(m:Int) - (i:Int)=((n+m - i:Nat):Int):=by omega
  have hik:i+(n+m - i)=n+m:=by omega
  have hold:(Builtin.firstCells i0.size i (.slice (some ⟨b,0,none⟩) i c)).run Go.Proofs.Tryz.prog w.drew = .ok (cs.take (i)).toArray w.drew:=by
    rw [hzs]
    exact run_firstCells_some w.drew 1 i ⟨b,0,none⟩ i c (cs.take (i)) (by rw [List.length_take];omega) (fun j v hj=>by
      rw [Addr.add_lit,Nat.zero_add]
      rw [List.getElem?_take] at hj
      split at hj
      · exact hcs j v hj
      · cases hj)
  have hrz:∀ ty,(Builtin.append_ #[39,3] ty #[.slice (some ⟨b,0,none⟩) i c,.int .i64 ((n:Int)+(m:Int) - (i:Int))]).run Go.Proofs.Tryz.prog w =
      .ok (.slice (some ⟨w.heap.size,0,none⟩) (n+m) (grownCap w (n+m) c 3)) (w.drew.alloc (.cells ((cs.take (i)).toArray++Builtin.zeroCells c2m.cells (n+m - i)++Builtin.zeroCells c2m.cells (grownCap w (n+m) c 3 - (n+m))) 3)):=fun ty=>by
    have h:=Lib.run_append_grow_zeros w 39 3 ty 3 i0 c2m .i64 .i64 Tryz.underlying39 Tryz.underlying3 hi0 hz0 (some ⟨b,0,none⟩) i c (cs.take (i)) hold (n+m - i) (by omega) (by omega) (by omega) (by omega) (by rw [hzb];omega) (by rw [hzb,hik];exact growslice_fits hroom hbig)
    rw [hik] at h
    rw [hkk]
    exact h
  obtain ⟨G,hG⟩:∃ G,G=grownCap w (n+m) c 3:=⟨_,rfl⟩
  obtain ⟨ROW,hROW⟩:∃ ROW:Array Value,ROW=(cs.take (i)).toArray++Builtin.zeroCells c2m.cells (n+m - i)++Builtin.zeroCells c2m.cells (G - (n+m)):=⟨_,rfl⟩
  rw [← hG] at hrz ⊢
  rw [← hROW] at hrz ⊢
  have hRl:(n+m)≤ROW.size:=by
    rw [hROW]
    simp [Builtin.zeroCells,Value.cells,c2m]
    omega
  obtain ⟨W1,hW1⟩:∃ W1,W1=w.drew.alloc (.cells ROW 3):=⟨_,rfl⟩
  rw [← hW1] at hrz
  have hN:∀ j,j<(n+m)→(W1.cell? ⟨w.heap.size,j,none⟩).isSome=true:=fun j hj=>by
    rw [hW1,World.cell?_alloc_at (w:=w.drew) ROW _ w.heap.size j rfl,Array.getElem?_eq_getElem (by omega)];rfl
  have hNf:∀ j,W1.frozen? ⟨w.heap.size,j,none⟩=false:=fun j=>by rw [hW1];exact World.frozen?_alloc_at (w:=w.drew) ROW _ w.heap.size j rfl
  have hOb:∀ j v,w.cell? ⟨b,j,none⟩=some v→W1.cell? ⟨b,j,none⟩=some v:=fun j v h=>by rw [hW1,World.cell?_alloc_past (w:=w.drew) _ b j hbw];exact h
  have hOv:∀ j v,w.cell? ⟨vb,voff+j,none⟩=some v→W1.cell? ⟨vb,voff+j,none⟩=some v:=fun j v h=>by rw [hW1,World.cell?_alloc_past (w:=w.drew) _ vb (voff+j) hvw];exact h
  have hcpA:∀ (W:World),(∀ x,W.cell? x=W1.cell? x)→(∀ x,W.frozen? x=W1.frozen? x)→∀ ty dc,(Builtin.copy_ #[39,39] ty #[.slice (some ⟨w.heap.size,i,none⟩) (n+m - i) dc,.slice (some ⟨vb,voff,none⟩) m vc]).run Go.Proofs.Tryz.prog W = .ok (goInt (Nat.min m (n+m - i))) (W.setCells w.heap.size (i) vs):=fun W hWc hWf ty dc=>
    b5n W _ _ ty 3 1 w.heap.size (i) (n+m - i) dc ⟨vb,voff,none⟩ m vc vs Tryz.underlying39 hsz (by rw [hvl];simp only [Nat.min_def];split <;> omega)
      (fun j v hj=>by rw [Addr.add_lit,hWc];exact hOv _ v (hvs j v hj))
      (fun j hj=>by rw [hWc];exact hN _ (by omega)) (fun j hj=>by rw [hWf];exact hNf _) h1v
  have hGn:n+m≤G:=by rw [hG];exact grownCap_ge w _ _ _
  have hG63:G≤9223372036854775807:=by
    have:=grownCap_le_maxLen w (n+m) c 3 (by unfold maxLen;omega)
    rw [← hG] at this
    unfold maxLen at this
    omega
  have hGi:¬ (G=i):=by omega
  have hGim:¬ (G=i+m):=by omega
  have hci:¬ (c=i):=by omega
  have hbN:b≠w.heap.size:=by omega
  have hdl:(cs.drop (i)).length=(n - i):=by rw [List.length_drop];omega
  have hcpB:∀ (W:World),(∀ x,W.cell? x=(W1.setCells w.heap.size (i) vs).cell? x)→(∀ x,W.frozen? x=(W1.setCells w.heap.size (i) vs).frozen? x)→∀ ty dc sc,(Builtin.copy_ #[39,39] ty #[.slice (some ⟨w.heap.size,(i+m),none⟩) (n+m - (i+m)) dc,.slice (some ⟨b,i,none⟩) (n - i) sc]).run Go.Proofs.Tryz.prog W = .ok (goInt (Nat.min (n - i) (n+m - (i+m)))) (W.setCells w.heap.size ((i+m)) (cs.drop (i))):=fun W hWc hWf ty dc sc=>
    b5n W _ _ ty 3 1 w.heap.size ((i+m)) (n+m - (i+m)) dc ⟨b,i,none⟩ (n - i) sc (cs.drop (i)) Tryz.underlying39 hsz (by rw [hdl];simp only [Nat.min_def];split <;> omega)
      (fun j v hj=>by
        rw [Addr.add_lit,hWc,World.cell?_setCells_out _ _ _ _ _ (fun h _=>absurd h hbN)]
        exact hOb _ v (hcs (i+j) v (by rwa [List.getElem?_drop] at hj)))
      (fun j hj=>by rw [hWc];exact isSome_setCells _ vs (i) W1 (fun t ht=>hN _ (by omega)) _ (hN _ (by omega)))
      (fun j hj=>by rw [hWf,World.frozen?_setCells];exact hNf _) (fun v hv=>h1c v (List.mem_of_mem_drop hv))
  subst hW1
  have hE1:∀ x,((w.alloc (.cells ROW 3)).drew).cell? x=(w.drew.alloc (.cells ROW 3)).cell? x:=fun x=>rfl
  have hE2:∀ x,((w.alloc (.cells ROW 3)).drew).frozen? x=(w.drew.alloc (.cells ROW 3)).frozen? x:=fun x=>rfl
  have hF1:∀ x,(((w.alloc (.cells ROW 3)).drew.setCells w.heap.size (i) vs).drew).cell? x=((w.drew.alloc (.cells ROW 3)).setCells w.heap.size (i) vs).cell? x:=fun x=>rfl
  have hF2:∀ x,(((w.alloc (.cells ROW 3)).drew.setCells w.heap.size (i) vs).drew).frozen? x=((w.drew.alloc (.cells ROW 3)).setCells w.heap.size (i) vs).frozen? x:=fun x=>rfl
  have hw1:IntKind.i64.wrap ((i:Int)+(m:Int))=(i:Int)+(m:Int):=by rw [IntKind.wrap_i64];omega
  have hb1:(0:Int)≤(i:Int)+(m:Int):=by omega
  have hin:i≤n:=by omega
  have htn:((i:Int)+(m:Int)).toNat=i+m:=by omega
  have hb3:(i:Int)≤(n:Int):=by omega
  clear hkk hik hold hROW hG hRl
  go_enter Tryz.func106,Tryz.ntmps106
  go_wp2_with (first
    | (at_builtin;refine Lib.wpList_append_run _ rfl _ _ _ _ rfl _ _ rfl rfl _ _ (hrz _) ?_)
    | (at_builtin;refine wpList_copy_runI _ rfl _ _ 39 39 rfl _ _ rfl rfl (hcpA _ hE1 hE2 _ _) ?_)
    | (at_builtin;refine wpList_copy_runI _ rfl _ _ 39 39 rfl _ _ rfl rfl (hcpB _ (fun _=>rfl) (fun _=>rfl) _ _ _) ?_))
  go_region_law_o (refine step_copy_runI rfl _ _ 39 39 rfl (.slice (some ⟨w.heap.size,(i+m),none⟩) (n+m - (i+m)) (G - (i+m))) (.slice (some ⟨b,i,none⟩) (n - i) (c - i)) (by simp [Act.eval,Act.put]) (by simp [Act.eval,Act.put]) (hcpB _ hF1 hF2 3 (G - (i+m)) (c - i)) ?_)
  go_wp2
  go_ret
  exact ⟨rfl,rfl⟩
theorem h2l : d0p Go.Proofs.Tryz.prog 106 1 := by
  unfold d0p
  simp only [Nat.mul_one]
  intro A n cp i vb voff m vc cs vs w hi hm hnc hcm hbig hcl hvl h1c h1v hA hV
  have hvs:∀ j v,vs[j]? = some v→w.cell? ⟨vb,voff+j,none⟩=some v:=hV
  obtain ⟨tA,kA,hsa,hkA⟩:=c3t (hvs 0 _ (List.getElem?_eq_getElem (by omega)))
  have hmax:maxLen=9223372036854775807:=by decide
  by_cases hroom:n+m≤cp
  · rcases hA with ⟨h1,h2,h3⟩ | ⟨b,arr,e,rfl,hvb,hh,hsz,hcc⟩
    · omega
    have hcs:∀ j v,cs[j]? = some v→w.cell? ⟨b,j,none⟩=some v:=fun j v h=>(cell_of_row w b j arr e (0,0) hh).trans (hcc j v h)
    have hbw:b<w.heap.size:=(Array.getElem?_eq_some_iff.1 hh).1
    have hsp:∀ j,j<(n+m)→(w.cell? ⟨b,j,none⟩).isSome=true:=fun j hj=>by rw [cell_of_row w b j arr e (0,0) hh,Array.getElem?_eq_getElem (by omega)];rfl
    have hfz:∀ j,w.frozen? ⟨b,j,none⟩=false:=fun j=>by simp [World.frozen?,hh]
    by_cases hin:i<n
    · refine Calls.mono (g6m b n cp i vb voff m vc cs vs w hin hm hroom (by omega) hvb hcl hvl hcs hsp (fun j _=>hfz j) hvs h1c h1v tA e kA arr.size hsa (by simp [World.shape?,hh]) hkA hfz) (fun e' w' he => ?_)
      obtain ⟨rfl,rfl⟩:=he
      refine ⟨b,cp,rfl,hroom,hcm,.inl ⟨_,rfl,rfl⟩,by rw [b1o,b1o];exact hbw,Only.cells (.inl rfl) _ _ (Only.cells (.inl rfl) _ _ (Only.refl w _).drew),fun j v hj => ?_⟩
      have:=c2q (a:=i) (w:=w.drew) (b:=b) (by omega) hcs (fun j hj=>hsp j (by omega)) j v hj
      rw [hvl,show i+m=(i+m) by omega] at this
      exact this
    · have hin:i=n:=by omega
      subst hin
      refine Calls.mono (d4m b i cp vb voff m vc vs w hm hroom (by omega) hvl (fun j hj=>hsp _ (by omega)) (fun j _=>hfz _) hvs h1v) (fun e' w' he => ?_)
      obtain ⟨rfl,rfl⟩:=he
      refine ⟨b,cp,rfl,hroom,hcm,.inl ⟨_,rfl,rfl⟩,by rw [b1o];exact hbw,Only.cells (.inl rfl) _ _ (Only.refl w _),fun j v hj => ?_⟩
      rw [← hcl] at hj ⊢
      exact d8b hcs (fun j hj=>hsp j (by omega)) j v hj
  · have hge:=grownCap_ge w (n+m) cp 3
    have hcm2:=grownCap_le_maxLen w (n+m) cp 3 (by omega)
    by_cases hin:i<n
    · rcases hA with ⟨h1,h2,h3⟩ | ⟨b,arr,e,rfl,hvb,hh,hsz,hcc⟩
      · omega
      have hcs:∀ j v,cs[j]? = some v→w.cell? ⟨b,j,none⟩=some v:=fun j v h=>(cell_of_row w b j arr e (0,0) hh).trans (hcc j v h)
      refine Calls.mono (h2n b n cp i vb voff m vc cs vs w hin hm hnc (by omega) (by omega) hcl hvl hcs hvs h1c h1v) (fun e' w' he => ?_)
      obtain ⟨rfl,rfl⟩:=he
      generalize grownCap w (n+m) cp 3=G at *
      obtain ⟨ROW,hROW⟩:∃ ROW:Array Value,ROW=(cs.take (i)).toArray++Builtin.zeroCells c2m.cells (n+m - i)++Builtin.zeroCells c2m.cells (G - (n+m)):=⟨_,rfl⟩
      have hRl:(n+m)≤ROW.size:=by
        rw [hROW]
        simp [Builtin.zeroCells,Value.cells,c2m]
        omega
      have hRt:∀ j v,(cs.take (i))[j]? = some v→ROW[j]? = some v:=fun j v hj=>by
        have hlt:=(List.getElem?_eq_some_iff.1 hj).1
        rw [hROW,Array.getElem?_append_left (by simp at hlt ⊢;omega),Array.getElem?_append_left (by simpa using hlt)]
        simpa using hj
      rw [← hROW]
      have hN:∀ j,(w.alloc (.cells ROW 3)).drew.cell? ⟨w.heap.size,j,none⟩=ROW[j]? := fun j=>World.cell?_alloc_at (w:=w) ROW _ w.heap.size j rfl
      refine ⟨w.heap.size,G,rfl,hge,hcm2,.inr (Nat.le_refl _),by rw [b1o];show w.heap.size<(World.setCells _ _ _ _).heap.size;rw [b1o];show w.heap.size<(w.alloc _).heap.size;simp,Only.cells (.inr (Nat.le_refl _)) _ _ (Only.cells (.inr (Nat.le_refl _)) _ _ ((Only.refl w _).alloc _).drew).drew,fun j v hj => ?_⟩
      have:=d2i (a:=i) (vs:=vs) (w:=(w.alloc (.cells ROW 3)).drew) (w':=((w.alloc (.cells ROW 3)).drew.setCells w.heap.size (i) vs).drew) (b:=w.heap.size) (by omega) (fun j v hj=>(hN j).trans (hRt j v hj)) (fun j hj=>by rw [hN,Array.getElem?_eq_getElem (by omega)];rfl) (fun _=>rfl) j v hj
      rw [hvl,show i+m=(i+m) by omega] at this
      exact this
    · have hin:i=n:=by omega
      subst hin
      have hnil:A=none→i=0:=fun h=>by
        rcases hA with ⟨_,h2,_⟩ | ⟨b,arr,e,h2,_⟩
        · exact h2
        · rw [h2] at h;cases h
      have hcsA:∀ a,A=some a→∀ j v,cs[j]? = some v→w.cell? (a.add j)=some v:=by
        intro a ha j v hj
        rcases hA with ⟨h,_⟩ | ⟨b,arr,e,h,hvb,hh,hsz,hcc⟩
        · rw [h] at ha;cases ha
        · rw [h] at ha;cases ha
          rw [Addr.add_lit,Nat.zero_add]
          exact (cell_of_row w b j arr e (0,0) hh).trans (hcc j v hj)
      refine Calls.mono (d4o A i cp vb voff m vc cs vs w hm hnc (by omega) (by omega) hcl hvl hnil hcsA hvs h1v) (fun e' w' he => ?_)
      obtain ⟨rfl,rfl⟩:=he
      generalize grownCap w (i+m) cp 3=G at *
      refine ⟨w.heap.size,G,rfl,hge,hcm2,.inr (Nat.le_refl _),by show w.heap.size<(w.drew.alloc _).heap.size;simp,((Only.refl w _).drew).alloc _,fun j v hj => ?_⟩
      rw [← hcl,List.take_length,List.drop_length,List.append_nil] at hj
      have hlt:=(List.getElem?_eq_some_iff.1 hj).1
      rw [World.cell?_alloc_at (w:=w.drew) _ _ w.heap.size j rfl,Array.getElem?_append_left (by simpa using hlt)]
      simpa using hj
end Go.TA.Tryz


end
section
/- slices.Insert at api.Attr: its roads, and what it is. -/
namespace Go.TA.Tryz
open Go.Shelf Go.RowKit Go.Lib Go.Proofs
def c2n:Value:=.agg #[.string ⟨#[]⟩,.string ⟨#[]⟩]
set_option maxHeartbeats 4000000 in
set_option maxRecDepth 100000 in
theorem g6n (b n c i vb voff m vc : Nat) (cs vs : List Value) (w : World) (hi : i < n) (hm : 0 < m) (hroom : n + m ≤ c) (hc63 : c ≤ 9223372036854775807) (hvb : vb ≠ b)
    (hcl:cs.length=n*2) (hvl:vs.length=m*2)
    (hcs:∀ j v,cs[j]? = some v→w.cell? ⟨b,j,none⟩=some v) (hsp:∀ j,j<(n+m)*2→(w.cell? ⟨b,j,none⟩).isSome=true) (hfz:∀ j,j<(n+m)*2→w.frozen? ⟨b,j,none⟩=false)
    (hvs:∀ j v,vs[j]? = some v→w.cell? ⟨vb,voff+j,none⟩=some v) (h1c:∀ v ∈ cs,v.oneCell'=true) (h1v:∀ v ∈ vs,v.oneCell'=true)
    (tA tB:TypeId) (kA kB:Nat) (hsa:w.shape? vb=some (tA,kA)) (hsb:w.shape? b=some (tB,kB)) (hkA:kA≠0) (hfb:∀ j,w.frozen? ⟨b,j,none⟩=false) :
    Calls Go.Proofs.Tryz.prog 109 #[.slice (some ⟨b,0,none⟩) n c,.int .i64 i,.slice (some ⟨vb,voff,none⟩) m vc] w fun e w'=>
      e = .returned (.slice (some ⟨b,0,none⟩) (n+m) c)∧w'=(w.drew.setCells b ((i+m)*2) (cs.drop (i*2))).setCells b (i*2) vs:=by
  have c2d:Go.Proofs.Tryz.prog.follows .mixedOrders=true:=by kernel_rfl
  have hz1:¬ ((m:Int)=0):=by omega
  have hz2:¬ ((i:Int)=(n:Int)):=by omega
  have hov:∀ lb cb,(callFunc 125 #[.slice (some ⟨vb,voff,none⟩) m vc,.slice (some ⟨b,(i+m)*2,none⟩) lb cb]).run Go.Proofs.Tryz.prog w = .ok (.value (.bool false)) w:=fun lb cb=>by
    rw [run_callFunc_extern Tryz.func125 (by kernel_rfl) (by kernel_rfl) (by kernel_rfl) (e:=Extern.SlicesOverlaps.overlaps #[35,35] #[4]) (by kernel_rfl),
      b9z w 35 4 70 Tryz.underlying35 2 (fun w=>by kernel_rfl) ⟨vb,voff,none⟩ ⟨b,(i+m)*2,none⟩ m vc lb cb hvb tA tB kA kB hsa hsb hkA (hfb _) (hfb _)]
    rfl
  have hsz:(Go.Proofs.Tryz.prog.info? 70).map (·.size)=some 2:=by kernel_rfl
  have hw1:IntKind.i64.wrap ((i:Int)+(m:Int))=(i:Int)+(m:Int):=by rw [IntKind.wrap_i64];omega
  have hb1:(0:Int)≤(i:Int)+(m:Int):=by omega
  have hin:i≤n:=by omega
  have htn:((i:Int)+(m:Int)).toNat=i+m:=by omega
  have hb2:¬ (c=i+m):=by omega
  have hb3:(i:Int)≤(n:Int)+(m:Int):=by omega
  have hb4:¬ (c=i):=by omega
  have hdl:(cs.drop (i*2)).length=(n - i)*2:=by rw [List.length_drop];omega
  have hcp1:∀ ty dc sc,(Builtin.copy_ #[35,35] ty #[.slice (some ⟨b,(i+m)*2,none⟩) (n+m - (i+m)) dc,.slice (some ⟨b,i*2,none⟩) (n+m - i) sc]).run Go.Proofs.Tryz.prog w.drew = .ok (goInt (Nat.min (n+m - i) (n+m - (i+m)))) (w.drew.setCells b ((i+m)*2) (cs.drop (i*2))):=fun ty dc sc=>
    b5n w.drew _ _ ty 70 2 b ((i+m)*2) (n+m - (i+m)) dc ⟨b,i*2,none⟩ (n+m - i) sc (cs.drop (i*2)) Tryz.underlying35 hsz (by rw [hdl];simp only [Nat.min_def];split <;> omega)
      (fun j v hj=>by rw [Addr.add_lit];exact hcs (i*2+j) v (by rwa [List.getElem?_drop] at hj))
      (fun j hj=>hsp _ (by omega)) (fun j hj=>hfz _ (by omega)) (fun v hv=>h1c v (List.mem_of_mem_drop hv))
  obtain ⟨W1,hW1⟩:∃ W1,W1=w.drew.setCells b ((i+m)*2) (cs.drop (i*2)):=⟨_,rfl⟩
  have hsp1:∀ k,k<(n+m)*2→(W1.cell? ⟨b,k,none⟩).isSome=true:=fun k hk=>by
    rw [hW1]
    exact isSome_setCells b (cs.drop (i*2)) ((i+m)*2) w.drew (fun j hj=>hsp ((i+m)*2+j) (by rw [hdl] at hj;omega)) k (hsp k hk)
  have hcp2:∀ (W:World),(∀ x,W.cell? x=W1.cell? x)→(∀ x,W.frozen? x=W1.frozen? x)→∀ ty dc,(Builtin.copy_ #[35,35] ty #[.slice (some ⟨b,i*2,none⟩) (n+m - i) dc,.slice (some ⟨vb,voff,none⟩) m vc]).run Go.Proofs.Tryz.prog W = .ok (goInt (Nat.min m (n+m - i))) (W.setCells b (i*2) vs):=fun W hWc hWf ty dc=>
    b5n W _ _ ty 70 2 b (i*2) (n+m - i) dc ⟨vb,voff,none⟩ m vc vs Tryz.underlying35 hsz (by rw [hvl];simp only [Nat.min_def];split <;> omega)
      (fun j v hj=>by
        rw [Addr.add_lit,hWc,hW1,World.cell?_setCells_out b _ _ _ _ (fun h _=>absurd h hvb)]
        exact hvs j v hj)
      (fun j hj=>by rw [hWc];exact hsp1 _ (by omega)) (fun j hj=>by rw [hWf,hW1,World.frozen?_setCells];exact hfz _ (by omega)) h1v
  rw [← hW1] at hcp1
  go_enter Tryz.func109,Tryz.ntmps109
  go_wp2_with (simp only [hov])
  go_region_law_o (refine step_copy_runI rfl _ _ 35 35 rfl _ _ (by simp [Act.eval,Act.put]) (by simp [Act.eval,Act.put]) (hcp1 _ _ _) ?_)
  go_wp2_with (at_builtin;refine wpList_copy_runI _ rfl _ _ 35 35 rfl _ _ rfl rfl (hcp2 _ (fun _=>rfl) (fun _=>rfl) _ _) ?_)
  go_ret
  first | exact ⟨rfl,rfl⟩ | exact ⟨rfl,by rw [hW1]⟩
set_option maxHeartbeats 4000000 in
set_option maxRecDepth 100000 in
theorem d4n (b n c vb voff m vc:Nat) (vs:List Value) (w:World) (hm:0<m) (hroom:n+m≤c) (hc63:c≤9223372036854775807) (hvl:vs.length=m*2)
  (hsp:∀ j,j<m*2→(w.cell? ⟨b,n*2+j,none⟩).isSome=true) (hfz:∀ j,j<m*2→w.frozen? ⟨b,n*2+j,none⟩=false)
  (hvs:∀ j v,vs[j]? = some v→w.cell? ⟨vb,voff+j,none⟩=some v) (h1v:∀ v ∈ vs,v.oneCell'=true) :
  Calls Go.Proofs.Tryz.prog 109 #[.slice (some ⟨b,0,none⟩) n c,.int .i64 n,.slice (some ⟨vb,voff,none⟩) m vc] w fun e w'=>
   e = .returned (.slice (some ⟨b,0,none⟩) (n+m) c)∧w'=w.setCells b (n*2) vs:=by
 have c2d:Go.Proofs.Tryz.prog.follows .mixedOrders=true:=by kernel_rfl
 have hz1:¬ ((m:Int)=0):=by omega
 obtain ⟨i0,hi0,hs0⟩:∃ i,Go.Proofs.Tryz.prog.info? 70=some i∧i.size=2:=⟨_,rfl,rfl⟩
 have hsrc:Src Go.Proofs.Tryz.prog i0.size 35 (.slice (some ⟨vb,voff,none⟩) m vc) m vs w:=Src.ofSlice w Tryz.underlying35 ⟨vb,voff,none⟩ m vc vs (by rw [hs0];omega) (fun j u hj=>by rw [Addr.add_lit];exact hvs j u hj) h1v
 go_enter Tryz.func109,Tryz.ntmps109
 go_wp2_with (at_builtin;refine wpList_append_room_src _ rfl _ _ 35 35 rfl 70 i0 Tryz.underlying35 hi0 b 0 n c rfl _ rfl m vs hsrc hroom (by rw [hs0,Nat.zero_add,hvl];first | exact hsp | simpa using hsp) (by rw [hs0,Nat.zero_add,hvl];first | exact hfz | simpa using hfz) ?_)
 go_ret
 first | exact ⟨rfl,rfl⟩ | exact ⟨rfl,by rw [hs0,Nat.zero_add]⟩ | exact ⟨rfl,by rw [hs0,Nat.zero_add,Nat.mul_one]⟩
set_option maxHeartbeats 4000000 in
set_option maxRecDepth 100000 in
theorem d4p (base:Option Addr) (n c vb voff m vc:Nat) (cs vs:List Value) (w:World) (hm:0<m) (hnc:n≤c) (hroom:c<n+m) (hbig:(n+m)*32≤140737488355328)
    (hcl:cs.length=n*2) (hvl:vs.length=m*2) (hnil:base=none→n=0)
    (hcs:∀ a,base=some a→∀ j v,cs[j]? = some v→w.cell? (a.add j)=some v)
    (hvs:∀ j v,vs[j]? = some v→w.cell? ⟨vb,voff+j,none⟩=some v) (h1v:∀ v ∈ vs,v.oneCell'=true) :
    Calls Go.Proofs.Tryz.prog 109 #[.slice base n c,.int .i64 n,.slice (some ⟨vb,voff,none⟩) m vc] w fun e w'=>
      e = .returned (.slice (some ⟨w.heap.size,0,none⟩) (n+m) (grownCap w (n+m) c 70)) ∧
      w'=w.drew.alloc (.cells ((cs++vs).toArray++Builtin.zeroCells c2n.cells (grownCap w (n+m) c 70 - (n+m))) 70):=by
  have c2d:Go.Proofs.Tryz.prog.follows .mixedOrders=true:=by kernel_rfl
  have hz1:¬ ((m:Int)=0):=by omega
  obtain ⟨i0,hi0,hs0,hz0,hb0⟩:∃ i,Go.Proofs.Tryz.prog.info? 70=some i∧i.size=2∧i.zero=some c2n∧i.bytes=32:=⟨_,rfl,rfl,rfl,rfl⟩
  have hsrc:Src Go.Proofs.Tryz.prog i0.size 35 (.slice (some ⟨vb,voff,none⟩) m vc) m vs w:=Src.ofSlice w Tryz.underlying35 ⟨vb,voff,none⟩ m vc vs (by rw [hs0];omega) (fun j u hj=>by rw [Addr.add_lit];exact hvs j u hj) h1v
  have hold:(Builtin.firstCells i0.size n (.slice base n c)).run Go.Proofs.Tryz.prog w.drew = .ok cs.toArray w.drew:=by
    rw [hs0]
    cases base with
    | none =>
      have h0:=hnil rfl
      subst h0
      have hc0:cs=[]:=List.length_eq_zero_iff.1 (by simpa using hcl)
      rw [hc0]
      exact run_firstCells_none w.drew 2 0 0 c
    | some a=>exact run_firstCells_some w.drew 2 n a n c cs (by omega) (fun j v hj=>hcs a rfl j v hj)
  have hrun:∀ ty,(Builtin.append_ #[35,35] ty #[.slice base n c,.slice (some ⟨vb,voff,none⟩) m vc]).run Go.Proofs.Tryz.prog w=_:=fun ty=>
    run_append_grow_src w 35 35 ty 70 i0 c2n Tryz.underlying35 hi0 hz0 base n c cs hold _ m vs hsrc hroom (by omega) (by rw [hb0];exact growslice_fits hroom hbig)
  go_enter Tryz.func109,Tryz.ntmps109
  cases base with
  | none =>
    have h0:=hnil rfl
    subst h0
    go_wp2_with (at_builtin;refine Lib.wpList_append_run _ rfl _ _ _ _ rfl _ _ rfl rfl _ _ (hrun _) ?_)
    go_ret
    exact ⟨rfl,rfl⟩
  | some a =>
    obtain ⟨ab,ao,asp⟩:=a
    go_wp2_with (at_builtin;refine Lib.wpList_append_run _ rfl _ _ _ _ rfl _ _ rfl rfl _ _ (hrun _) ?_)
    all_goals (go_ret;exact ⟨rfl,rfl⟩)
set_option maxHeartbeats 4000000 in
set_option maxRecDepth 100000 in
theorem h2o (b n c i vb voff m vc : Nat) (cs vs : List Value) (w : World) (hi : i < n) (hm : 0 < m) (hnc : n ≤ c) (hroom : c < n + m) (hbig : (n + m) * 32 ≤ 140737488355328)
    (hcl:cs.length=n*2) (hvl:vs.length=m*2)
    (hcs:∀ j v,cs[j]? = some v→w.cell? ⟨b,j,none⟩=some v)
    (hvs:∀ j v,vs[j]? = some v→w.cell? ⟨vb,voff+j,none⟩=some v) (h1c:∀ v ∈ cs,v.oneCell'=true) (h1v:∀ v ∈ vs,v.oneCell'=true) :
    Calls Go.Proofs.Tryz.prog 109 #[.slice (some ⟨b,0,none⟩) n c,.int .i64 i,.slice (some ⟨vb,voff,none⟩) m vc] w fun e w'=>
      e = .returned (.slice (some ⟨w.heap.size,0,none⟩) (n+m) (grownCap w (n+m) c 70)) ∧
      w'=(((w.alloc (.cells ((cs.take (i*2)).toArray++Builtin.zeroCells c2n.cells (n+m - i)++Builtin.zeroCells c2n.cells (grownCap w (n+m) c 70 - (n+m))) 70)).drew.setCells w.heap.size (i*2) vs).drew).setCells w.heap.size ((i+m)*2) (cs.drop (i*2)):=by
  have c2d:Go.Proofs.Tryz.prog.follows .mixedOrders=true:=by kernel_rfl
  obtain ⟨i0,hi0,hzs,hz0,hzb⟩:∃ i,Go.Proofs.Tryz.prog.info? 70=some i∧i.size=2∧i.zero=some c2n∧i.bytes=32:=⟨_,rfl,rfl,rfl,rfl⟩
  have hz1:¬ ((m:Int)=0):=by omega
  have hz2:¬ ((i:Int)=(n:Int)):=by omega
  have hz3:(c:Int)<(n:Int)+(m:Int):=by omega
  have hsz:(Go.Proofs.Tryz.prog.info? 70).map (·.size)=some 2:=by kernel_rfl
  have hbw:b<w.heap.size:=block_lt_of_cell (hcs 0 _ (List.getElem?_eq_getElem (by omega)))
  have hvw:vb<w.heap.size:=block_lt_of_cell (hvs 0 _ (List.getElem?_eq_getElem (by omega)))
  have hkk:(n:Int)+(m:Int) - (i:Int)=((n+m - i:Nat):Int):=by omega
  have hik:i+(n+m - i)=n+m:=by omega
  have hold:(Builtin.firstCells i0.size i (.slice (some ⟨b,0,none⟩) i c)).run Go.Proofs.Tryz.prog w.drew = .ok (cs.take (i*2)).toArray w.drew:=by
    rw [hzs]
    exact run_firstCells_some w.drew 2 i ⟨b,0,none⟩ i c (cs.take (i*2)) (by rw [List.length_take];omega) (fun j v hj=>by
      rw [Addr.add_lit,Nat.zero_add]
      rw [List.getElem?_take] at hj
      split at hj
      · exact hcs j v hj
      · cases hj)
  have hrz:∀ ty,(Builtin.append_ #[35,3] ty #[.slice (some ⟨b,0,none⟩) i c,.int .i64 ((n:Int)+(m:Int) - (i:Int))]).run Go.Proofs.Tryz.prog w =
      .ok (.slice (some ⟨w.heap.size,0,none⟩) (n+m) (grownCap w (n+m) c 70)) (w.drew.alloc (.cells ((cs.take (i*2)).toArray++Builtin.zeroCells c2n.cells (n+m - i)++Builtin.zeroCells c2n.cells (grownCap w (n+m) c 70 - (n+m))) 70)):=fun ty=>by
    have h:=Lib.run_append_grow_zeros w 35 3 ty 70 i0 c2n .i64 .i64 Tryz.underlying35 Tryz.underlying3 hi0 hz0 (some ⟨b,0,none⟩) i c (cs.take (i*2)) hold (n+m - i) (by omega) (by omega) (by omega) (by omega) (by rw [hzb];omega) (by rw [hzb,hik];exact growslice_fits hroom hbig)
    rw [hik] at h
    rw [hkk]
    exact h
  obtain ⟨G,hG⟩:∃ G,G=grownCap w (n+m) c 70:=⟨_,rfl⟩
  obtain ⟨ROW,hROW⟩:∃ ROW:Array Value,ROW=(cs.take (i*2)).toArray++Builtin.zeroCells c2n.cells (n+m - i)++Builtin.zeroCells c2n.cells (G - (n+m)):=⟨_,rfl⟩
  rw [← hG] at hrz ⊢
  rw [← hROW] at hrz ⊢
  have hRl:(n+m)*2≤ROW.size:=by
    rw [hROW]
    simp [Builtin.zeroCells,Value.cells,c2n]
    omega
  obtain ⟨W1,hW1⟩:∃ W1,W1=w.drew.alloc (.cells ROW 70):=⟨_,rfl⟩
  rw [← hW1] at hrz
  have hN:∀ j,j<(n+m)*2→(W1.cell? ⟨w.heap.size,j,none⟩).isSome=true:=fun j hj=>by
    rw [hW1,World.cell?_alloc_at (w:=w.drew) ROW _ w.heap.size j rfl,Array.getElem?_eq_getElem (by omega)];rfl
  have hNf:∀ j,W1.frozen? ⟨w.heap.size,j,none⟩=false:=fun j=>by rw [hW1];exact World.frozen?_alloc_at (w:=w.drew) ROW _ w.heap.size j rfl
  have hOb:∀ j v,w.cell? ⟨b,j,none⟩=some v→W1.cell? ⟨b,j,none⟩=some v:=fun j v h=>by rw [hW1,World.cell?_alloc_past (w:=w.drew) _ b j hbw];exact h
  have hOv:∀ j v,w.cell? ⟨vb,voff+j,none⟩=some v→W1.cell? ⟨vb,voff+j,none⟩=some v:=fun j v h=>by rw [hW1,World.cell?_alloc_past (w:=w.drew) _ vb (voff+j) hvw];exact h
  have hcpA:∀ (W:World),(∀ x,W.cell? x=W1.cell? x)→(∀ x,W.frozen? x=W1.frozen? x)→∀ ty dc,(Builtin.copy_ #[35,35] ty #[.slice (some ⟨w.heap.size,i*2,none⟩) (n+m - i) dc,.slice (some ⟨vb,voff,none⟩) m vc]).run Go.Proofs.Tryz.prog W = .ok (goInt (Nat.min m (n+m - i))) (W.setCells w.heap.size (i*2) vs):=fun W hWc hWf ty dc=>
    b5n W _ _ ty 70 2 w.heap.size (i*2) (n+m - i) dc ⟨vb,voff,none⟩ m vc vs Tryz.underlying35 hsz (by rw [hvl];simp only [Nat.min_def];split <;> omega)
      (fun j v hj=>by rw [Addr.add_lit,hWc];exact hOv _ v (hvs j v hj))
      (fun j hj=>by rw [hWc];exact hN _ (by omega)) (fun j hj=>by rw [hWf];exact hNf _) h1v
  have hGn:n+m≤G:=by rw [hG];exact grownCap_ge w _ _ _
  have hG63:G≤9223372036854775807:=by
    have:=grownCap_le_maxLen w (n+m) c 70 (by unfold maxLen;omega)
    rw [← hG] at this
    unfold maxLen at this
    omega
  have hGi:¬ (G=i):=by omega
  have hGim:¬ (G=i+m):=by omega
  have hci:¬ (c=i):=by omega
  have hbN:b≠w.heap.size:=by omega
  have hdl:(cs.drop (i*2)).length=(n - i)*2:=by rw [List.length_drop];omega
  have hcpB:∀ (W:World),(∀ x,W.cell? x=(W1.setCells w.heap.size (i*2) vs).cell? x)→(∀ x,W.frozen? x=(W1.setCells w.heap.size (i*2) vs).frozen? x)→∀ ty dc sc,(Builtin.copy_ #[35,35] ty #[.slice (some ⟨w.heap.size,(i+m)*2,none⟩) (n+m - (i+m)) dc,.slice (some ⟨b,i*2,none⟩) (n - i) sc]).run Go.Proofs.Tryz.prog W = .ok (goInt (Nat.min (n - i) (n+m - (i+m)))) (W.setCells w.heap.size ((i+m)*2) (cs.drop (i*2))):=fun W hWc hWf ty dc sc=>
    b5n W _ _ ty 70 2 w.heap.size ((i+m)*2) (n+m - (i+m)) dc ⟨b,i*2,none⟩ (n - i) sc (cs.drop (i*2)) Tryz.underlying35 hsz (by rw [hdl];simp only [Nat.min_def];split <;> omega)
      (fun j v hj=>by
        rw [Addr.add_lit,hWc,World.cell?_setCells_out _ _ _ _ _ (fun h _=>absurd h hbN)]
        exact hOb _ v (hcs (i*2+j) v (by rwa [List.getElem?_drop] at hj)))
      (fun j hj=>by rw [hWc];exact isSome_setCells _ vs (i*2) W1 (fun t ht=>hN _ (by omega)) _ (hN _ (by omega)))
      (fun j hj=>by rw [hWf,World.frozen?_setCells];exact hNf _) (fun v hv=>h1c v (List.mem_of_mem_drop hv))
  subst hW1
  have hE1:∀ x,((w.alloc (.cells ROW 70)).drew).cell? x=(w.drew.alloc (.cells ROW 70)).cell? x:=fun x=>rfl
  have hE2:∀ x,((w.alloc (.cells ROW 70)).drew).frozen? x=(w.drew.alloc (.cells ROW 70)).frozen? x:=fun x=>rfl
  have hF1:∀ x,(((w.alloc (.cells ROW 70)).drew.setCells w.heap.size (i*2) vs).drew).cell? x=((w.drew.alloc (.cells ROW 70)).setCells w.heap.size (i*2) vs).cell? x:=fun x=>rfl
  have hF2:∀ x,(((w.alloc (.cells ROW 70)).drew.setCells w.heap.size (i*2) vs).drew).frozen? x=((w.drew.alloc (.cells ROW 70)).setCells w.heap.size (i*2) vs).frozen? x:=fun x=>rfl
  have hw1:IntKind.i64.wrap ((i:Int)+(m:Int))=(i:Int)+(m:Int):=by rw [IntKind.wrap_i64];omega
  have hb1:(0:Int)≤(i:Int)+(m:Int):=by omega
  have hin:i≤n:=by omega
  have htn:((i:Int)+(m:Int)).toNat=i+m:=by omega
  have hb3:(i:Int)≤(n:Int):=by omega
  clear hkk hik hold hROW hG hRl
  go_enter Tryz.func109,Tryz.ntmps109
  go_wp2_with (first
    | (at_builtin;refine Lib.wpList_append_run _ rfl _ _ _ _ rfl _ _ rfl rfl _ _ (hrz _) ?_)
    | (at_builtin;refine wpList_copy_runI _ rfl _ _ 35 35 rfl _ _ rfl rfl (hcpA _ hE1 hE2 _ _) ?_)
    | (at_builtin;refine wpList_copy_runI _ rfl _ _ 35 35 rfl _ _ rfl rfl (hcpB _ (fun _=>rfl) (fun _=>rfl) _ _ _) ?_))
  go_region_law_o (refine step_copy_runI rfl _ _ 35 35 rfl (.slice (some ⟨w.heap.size,(i+m)*2,none⟩) (n+m - (i+m)) (G - (i+m))) (.slice (some ⟨b,i*2,none⟩) (n - i) (c - i)) (by simp [Act.eval,Act.put]) (by simp [Act.eval,Act.put]) (hcpB _ hF1 hF2 3 (G - (i+m)) (c - i)) ?_)
  go_wp2
  go_ret
  exact ⟨rfl,rfl⟩
theorem h2m : d0p Go.Proofs.Tryz.prog 109 2 := by
  unfold d0p
  intro A n cp i vb voff m vc cs vs w hi hm hnc hcm hbig hcl hvl h1c h1v hA hV
  have hvs:∀ j v,vs[j]? = some v→w.cell? ⟨vb,voff+j,none⟩=some v:=hV
  obtain ⟨tA,kA,hsa,hkA⟩:=c3t (hvs 0 _ (List.getElem?_eq_getElem (by omega)))
  have hmax:maxLen=9223372036854775807:=by decide
  by_cases hroom:n+m≤cp
  · rcases hA with ⟨h1,h2,h3⟩ | ⟨b,arr,e,rfl,hvb,hh,hsz,hcc⟩
    · omega
    have hcs:∀ j v,cs[j]? = some v→w.cell? ⟨b,j,none⟩=some v:=fun j v h=>(cell_of_row w b j arr e (0,0) hh).trans (hcc j v h)
    have hbw:b<w.heap.size:=(Array.getElem?_eq_some_iff.1 hh).1
    have hsp:∀ j,j<(n+m)*2→(w.cell? ⟨b,j,none⟩).isSome=true:=fun j hj=>by rw [cell_of_row w b j arr e (0,0) hh,Array.getElem?_eq_getElem (by omega)];rfl
    have hfz:∀ j,w.frozen? ⟨b,j,none⟩=false:=fun j=>by simp [World.frozen?,hh]
    by_cases hin:i<n
    · refine Calls.mono (g6n b n cp i vb voff m vc cs vs w hin hm hroom (by omega) hvb hcl hvl hcs hsp (fun j _=>hfz j) hvs h1c h1v tA e kA arr.size hsa (by simp [World.shape?,hh]) hkA hfz) (fun e' w' he => ?_)
      obtain ⟨rfl,rfl⟩:=he
      refine ⟨b,cp,rfl,hroom,hcm,.inl ⟨_,rfl,rfl⟩,by rw [b1o,b1o];exact hbw,Only.cells (.inl rfl) _ _ (Only.cells (.inl rfl) _ _ (Only.refl w _).drew),fun j v hj => ?_⟩
      have:=c2q (a:=i*2) (w:=w.drew) (b:=b) (by omega) hcs (fun j hj=>hsp j (by omega)) j v hj
      rw [hvl,show i*2+m*2=(i+m)*2 by omega] at this
      exact this
    · have hin:i=n:=by omega
      subst hin
      refine Calls.mono (d4n b i cp vb voff m vc vs w hm hroom (by omega) hvl (fun j hj=>hsp _ (by omega)) (fun j _=>hfz _) hvs h1v) (fun e' w' he => ?_)
      obtain ⟨rfl,rfl⟩:=he
      refine ⟨b,cp,rfl,hroom,hcm,.inl ⟨_,rfl,rfl⟩,by rw [b1o];exact hbw,Only.cells (.inl rfl) _ _ (Only.refl w _),fun j v hj => ?_⟩
      rw [← hcl] at hj ⊢
      exact d8b hcs (fun j hj=>hsp j (by omega)) j v hj
  · have hge:=grownCap_ge w (n+m) cp 70
    have hcm2:=grownCap_le_maxLen w (n+m) cp 70 (by omega)
    by_cases hin:i<n
    · rcases hA with ⟨h1,h2,h3⟩ | ⟨b,arr,e,rfl,hvb,hh,hsz,hcc⟩
      · omega
      have hcs:∀ j v,cs[j]? = some v→w.cell? ⟨b,j,none⟩=some v:=fun j v h=>(cell_of_row w b j arr e (0,0) hh).trans (hcc j v h)
      refine Calls.mono (h2o b n cp i vb voff m vc cs vs w hin hm hnc (by omega) (by omega) hcl hvl hcs hvs h1c h1v) (fun e' w' he => ?_)
      obtain ⟨rfl,rfl⟩:=he
      generalize grownCap w (n+m) cp 70=G at *
      obtain ⟨ROW,hROW⟩:∃ ROW:Array Value,ROW=(cs.take (i*2)).toArray++Builtin.zeroCells c2n.cells (n+m - i)++Builtin.zeroCells c2n.cells (G - (n+m)):=⟨_,rfl⟩
      have hRl:(n+m)*2≤ROW.size:=by
        rw [hROW]
        simp [Builtin.zeroCells,Value.cells,c2n]
        omega
      have hRt:∀ j v,(cs.take (i*2))[j]? = some v→ROW[j]? = some v:=fun j v hj=>by
        have hlt:=(List.getElem?_eq_some_iff.1 hj).1
        rw [hROW,Array.getElem?_append_left (by simp at hlt ⊢;omega),Array.getElem?_append_left (by simpa using hlt)]
        simpa using hj
      rw [← hROW]
      have hN:∀ j,(w.alloc (.cells ROW 70)).drew.cell? ⟨w.heap.size,j,none⟩=ROW[j]? := fun j=>World.cell?_alloc_at (w:=w) ROW _ w.heap.size j rfl
      refine ⟨w.heap.size,G,rfl,hge,hcm2,.inr (Nat.le_refl _),by rw [b1o];show w.heap.size<(World.setCells _ _ _ _).heap.size;rw [b1o];show w.heap.size<(w.alloc _).heap.size;simp,Only.cells (.inr (Nat.le_refl _)) _ _ (Only.cells (.inr (Nat.le_refl _)) _ _ ((Only.refl w _).alloc _).drew).drew,fun j v hj => ?_⟩
      have:=d2i (a:=i*2) (vs:=vs) (w:=(w.alloc (.cells ROW 70)).drew) (w':=((w.alloc (.cells ROW 70)).drew.setCells w.heap.size (i*2) vs).drew) (b:=w.heap.size) (by omega) (fun j v hj=>(hN j).trans (hRt j v hj)) (fun j hj=>by rw [hN,Array.getElem?_eq_getElem (by omega)];rfl) (fun _=>rfl) j v hj
      rw [hvl,show i*2+m*2=(i+m)*2 by omega] at this
      exact this
    · have hin:i=n:=by omega
      subst hin
      have hnil:A=none→i=0:=fun h=>by
        rcases hA with ⟨_,h2,_⟩ | ⟨b,arr,e,h2,_⟩
        · exact h2
        · rw [h2] at h;cases h
      have hcsA:∀ a,A=some a→∀ j v,cs[j]? = some v→w.cell? (a.add j)=some v:=by
        intro a ha j v hj
        rcases hA with ⟨h,_⟩ | ⟨b,arr,e,h,hvb,hh,hsz,hcc⟩
        · rw [h] at ha;cases ha
        · rw [h] at ha;cases ha
          rw [Addr.add_lit,Nat.zero_add]
          exact (cell_of_row w b j arr e (0,0) hh).trans (hcc j v hj)
      refine Calls.mono (d4p A i cp vb voff m vc cs vs w hm hnc (by omega) (by omega) hcl hvl hnil hcsA hvs h1v) (fun e' w' he => ?_)
      obtain ⟨rfl,rfl⟩:=he
      generalize grownCap w (i+m) cp 70=G at *
      refine ⟨w.heap.size,G,rfl,hge,hcm2,.inr (Nat.le_refl _),by show w.heap.size<(w.drew.alloc _).heap.size;simp,((Only.refl w _).drew).alloc _,fun j v hj => ?_⟩
      rw [← hcl,List.take_length,List.drop_length,List.append_nil] at hj
      have hlt:=(List.getElem?_eq_some_iff.1 hj).1
      rw [World.cell?_alloc_at (w:=w.drew) _ _ w.heap.size j rfl,Array.getElem?_append_left (by simpa using hlt)]
      simpa using hj
end Go.TA.Tryz


end
section
/- The table of functions, and that it is sound. -/
namespace Go.TA.Tryz
theorem c2d:Go.Proofs.Tryz.prog.follows .mixedOrders=true:=by kernel_rfl
def tab:List (Nat × LFn):=[(8,.code F8),
 (9,.code F9),
 (10,.code F10),
 (12,.code F12),
 (13,.code F13),
 (14,.code F14),
 (15,.code F15),
 (16,.code F16),
 (17,.code F17),
 (19,.code F19),
 (20,.code F20),
 (22,.code F22),
 (24,.code F24),
 (25,.code F25),
 (27,.code F27),
 (28,.code F28),
 (29,.code F29),
 (30,.code F30),
 (31,.code F31),
 (32,.code F32),
 (33,.code F33),
 (34,.code F34),
 (35,.code F35),
 (36,.code F36),
 (37,.prim (b7f 2)),
 (38,.code F38),
 (39,.code F39),
 (40,.code F40),
 (41,.code F41),
 (42,.code F42),
 (43,.code F43),
 (44,.code F44),
 (45,.code F45),
 (46,.code F46),
 (47,.code F47),
 (48,.code F48),
 (49,.code F49),
 (50,.code F50),
 (51,.code F51),
 (52,.code F52),
 (53,.code F53),
 (54,.code F54),
 (55,.code F55),
 (56,.code F56),
 (57,.code F57),
 (58,.code F58),
 (59,.code F59),
 (60,.code F60),
 (61,.code F61),
 (62,.code F62),
 (63,.code F63),
 (64,.code F64),
 (65,.code F65),
 (66,.code F66),
 (67,.code F67),
 (68,.code F68),
 (69,.code F69),
 (70,.code F70),
 (71,.code F71),
 (72,.code F72),
 (73,.code F73),
 (74,.code F74),
 (75,.prim (b8n 107 b6z 1)),
 (76,.prim (b7f 1)),
 (77,.code F77),
 (78,.code F78),
 (79,.code F79),
 (80,.code F80),
 (81,.code F81),
 (82,.code F82),
 (83,.code F83),
 (84,.code F84),
 (85,.code F85),
 (86,.code F86),
 (87,.code F87),
 (88,.code F88),
 (89,.code F89),
 (90,.code F90),
 (91,.code F91),
 (92,.code F92),
 (93,.code F93),
 (94,.code F94),
 (95,.code F95),
 (96,.code F96),
 (97,.code F97),
 (98,.code F98),
 (99,.code F99),
 (100,.code F100),
 (101,.code F101),
 (102,.code F102),
 (103,.prim (g5t)),
 (104,.code F104),
 (105,.code F105),
 (106,.prim (b8m 1)),
 (107,.code F107),
 (108,.code F108),
 (109,.prim (b8m 2)),
 (110,.prim (b8n 127 b6y 2)),
 (111,.code F111),
 (112,.code F112),
 (113,.code F113),
 (114,.code F114),
 (115,.code F115),
 (116,.code F116),
 (117,.code F117),
 (118,.code F118),
 (119,.code F119),
 (121,.code F121),
 (122,.prim (b7u)),
 (127,.code F127),
 (128,.code F128),
 (129,.code F129),
 (130,.code F130)]
def T (k:Nat):Option LFn:=lk tab k
theorem T8:T 8=some (.code F8):=rfl
theorem T9:T 9=some (.code F9):=rfl
theorem T10:T 10=some (.code F10):=rfl
theorem T12:T 12=some (.code F12):=rfl
theorem T13:T 13=some (.code F13):=rfl
theorem T14:T 14=some (.code F14):=rfl
theorem T15:T 15=some (.code F15):=rfl
theorem T16:T 16=some (.code F16):=rfl
theorem T17:T 17=some (.code F17):=rfl
theorem T19:T 19=some (.code F19):=rfl
theorem T20:T 20=some (.code F20):=rfl
theorem T22:T 22=some (.code F22):=rfl
theorem T24:T 24=some (.code F24):=rfl
theorem T25:T 25=some (.code F25):=rfl
theorem T27:T 27=some (.code F27):=rfl
theorem T28:T 28=some (.code F28):=rfl
theorem T29:T 29=some (.code F29):=rfl
theorem T32:T 32=some (.code F32):=rfl
theorem T33:T 33=some (.code F33):=rfl
theorem T34:T 34=some (.code F34):=rfl
theorem T35:T 35=some (.code F35):=rfl
theorem T36:T 36=some (.code F36):=rfl
theorem T37:T 37=some (.prim (b7f 2)):=rfl
theorem T38:T 38=some (.code F38):=rfl
theorem T39:T 39=some (.code F39):=rfl
theorem T40:T 40=some (.code F40):=rfl
theorem T41:T 41=some (.code F41):=rfl
theorem T42:T 42=some (.code F42):=rfl
theorem T43:T 43=some (.code F43):=rfl
theorem T44:T 44=some (.code F44):=rfl
theorem T45:T 45=some (.code F45):=rfl
theorem T46:T 46=some (.code F46):=rfl
theorem T47:T 47=some (.code F47):=rfl
theorem T48:T 48=some (.code F48):=rfl
theorem T49:T 49=some (.code F49):=rfl
theorem T50:T 50=some (.code F50):=rfl
theorem T51:T 51=some (.code F51):=rfl
theorem T52:T 52=some (.code F52):=rfl
theorem T53:T 53=some (.code F53):=rfl
theorem T54:T 54=some (.code F54):=rfl
theorem T55:T 55=some (.code F55):=rfl
theorem T56:T 56=some (.code F56):=rfl
theorem T57:T 57=some (.code F57):=rfl
theorem T58:T 58=some (.code F58):=rfl
theorem T59:T 59=some (.code F59):=rfl
theorem T60:T 60=some (.code F60):=rfl
theorem T61:T 61=some (.code F61):=rfl
theorem T62:T 62=some (.code F62):=rfl
theorem T63:T 63=some (.code F63):=rfl
theorem T64:T 64=some (.code F64):=rfl
theorem T65:T 65=some (.code F65):=rfl
theorem T66:T 66=some (.code F66):=rfl
theorem T67:T 67=some (.code F67):=rfl
theorem T68:T 68=some (.code F68):=rfl
theorem T69:T 69=some (.code F69):=rfl
theorem T70:T 70=some (.code F70):=rfl
theorem T71:T 71=some (.code F71):=rfl
theorem T72:T 72=some (.code F72):=rfl
theorem T73:T 73=some (.code F73):=rfl
theorem T74:T 74=some (.code F74):=rfl
theorem T75:T 75=some (.prim (b8n 107 b6z 1)):=rfl
theorem T76:T 76=some (.prim (b7f 1)):=rfl
theorem T77:T 77=some (.code F77):=rfl
theorem T78:T 78=some (.code F78):=rfl
theorem T79:T 79=some (.code F79):=rfl
theorem T80:T 80=some (.code F80):=rfl
theorem T81:T 81=some (.code F81):=rfl
theorem T82:T 82=some (.code F82):=rfl
theorem T83:T 83=some (.code F83):=rfl
theorem T84:T 84=some (.code F84):=rfl
theorem T85:T 85=some (.code F85):=rfl
theorem T86:T 86=some (.code F86):=rfl
theorem T87:T 87=some (.code F87):=rfl
theorem T88:T 88=some (.code F88):=rfl
theorem T89:T 89=some (.code F89):=rfl
theorem T90:T 90=some (.code F90):=rfl
theorem T91:T 91=some (.code F91):=rfl
theorem T92:T 92=some (.code F92):=rfl
theorem T93:T 93=some (.code F93):=rfl
theorem T94:T 94=some (.code F94):=rfl
theorem T95:T 95=some (.code F95):=rfl
theorem T96:T 96=some (.code F96):=rfl
theorem T97:T 97=some (.code F97):=rfl
theorem T98:T 98=some (.code F98):=rfl
theorem T99:T 99=some (.code F99):=rfl
theorem T100:T 100=some (.code F100):=rfl
theorem T101:T 101=some (.code F101):=rfl
theorem T102:T 102=some (.code F102):=rfl
theorem T103:T 103=some (.prim (g5t)):=rfl
theorem T104:T 104=some (.code F104):=rfl
theorem T105:T 105=some (.code F105):=rfl
theorem T106:T 106=some (.prim (b8m 1)):=rfl
theorem T107:T 107=some (.code F107):=rfl
theorem T108:T 108=some (.code F108):=rfl
theorem T109:T 109=some (.prim (b8m 2)):=rfl
theorem T110:T 110=some (.prim (b8n 127 b6y 2)):=rfl
theorem T111:T 111=some (.code F111):=rfl
theorem T112:T 112=some (.code F112):=rfl
theorem T113:T 113=some (.code F113):=rfl
theorem T114:T 114=some (.code F114):=rfl
theorem T115:T 115=some (.code F115):=rfl
theorem T116:T 116=some (.code F116):=rfl
theorem T117:T 117=some (.code F117):=rfl
theorem T118:T 118=some (.code F118):=rfl
theorem T119:T 119=some (.code F119):=rfl
theorem T121:T 121=some (.code F121):=rfl
theorem T122:T 122=some (.prim (b7u)):=rfl
theorem T127:T 127=some (.code F127):=rfl
theorem T128:T 128=some (.code F128):=rfl
theorem T129:T 129=some (.code F129):=rfl
theorem T130:T 130=some (.code F130):=rfl
theorem j2z {Γ : b1e}:b6j Go.Proofs.Tryz.prog Γ 37 (b7f 2):=d2a (d6v c2d (sz:=2) (bytes:=32) (by decide +kernel))
theorem j2y {Γ : b1e}:b6j Go.Proofs.Tryz.prog Γ 75 (b8n 107 b6z 1):=d1z c2d (by decide +kernel)
theorem j2x {Γ : b1e}:b6j Go.Proofs.Tryz.prog Γ 76 (b7f 1):=d2a (d6v c2d (sz:=1) (bytes:=8) (by decide +kernel))
theorem j0k {Γ : b1e} (hΓ : ∀ w, Γ.holds w→Lib.TabIs Go.Proofs.Tryz.prog w "internal/strconv.uint64pow10" .u64 Lib.pow10Tab):b6j Go.Proofs.Tryz.prog Γ 103 (g5t):=h6h (by decide +kernel) hΓ (fun n w h0 h1 ht=>Go.Proofs.Tryz.strconv_Itoa n h0 h1 w ht)
theorem j0j {Γ : b1e}:b6j Go.Proofs.Tryz.prog Γ 106 (b8m 1):=d1y (by decide +kernel) (by decide) h2l
theorem j0i {Γ : b1e}:b6j Go.Proofs.Tryz.prog Γ 109 (b8m 2):=d1y (by decide +kernel) (by decide) h2m
theorem j0h {Γ : b1e}:b6j Go.Proofs.Tryz.prog Γ 110 (b8n 127 b6y 2):=d1z c2d (by decide +kernel)
theorem j0g {Γ : b1e}:b6j Go.Proofs.Tryz.prog Γ 122 (b7u):=d3q (by decide +kernel) Go.Proofs.Tryz.strings_IndexByte
theorem j2p {Γ : b1e} (hΓ : ∀ w, Γ.holds w→Lib.TabIs Go.Proofs.Tryz.prog w "internal/strconv.uint64pow10" .u64 Lib.pow10Tab):∀ e ∈ tab,j4e Go.Proofs.Tryz.prog Γ e:=by
 unfold tab
 refine List.forall_mem_cons.2 ⟨b0c ok8, ?_⟩
 refine List.forall_mem_cons.2 ⟨b0c ok9, ?_⟩
 refine List.forall_mem_cons.2 ⟨b0c ok10, ?_⟩
 refine List.forall_mem_cons.2 ⟨b0c ok12, ?_⟩
 refine List.forall_mem_cons.2 ⟨b0c ok13, ?_⟩
 refine List.forall_mem_cons.2 ⟨b0c ok14, ?_⟩
 refine List.forall_mem_cons.2 ⟨b0c ok15, ?_⟩
 refine List.forall_mem_cons.2 ⟨b0c ok16, ?_⟩
 refine List.forall_mem_cons.2 ⟨b0c ok17, ?_⟩
 refine List.forall_mem_cons.2 ⟨b0c ok19, ?_⟩
 refine List.forall_mem_cons.2 ⟨b0c ok20, ?_⟩
 refine List.forall_mem_cons.2 ⟨b0c ok22, ?_⟩
 refine List.forall_mem_cons.2 ⟨b0c ok24, ?_⟩
 refine List.forall_mem_cons.2 ⟨b0c ok25, ?_⟩
 refine List.forall_mem_cons.2 ⟨b0c ok27, ?_⟩
 refine List.forall_mem_cons.2 ⟨b0c ok28, ?_⟩
 refine List.forall_mem_cons.2 ⟨b0c ok29, ?_⟩
 refine List.forall_mem_cons.2 ⟨b0c ok30, ?_⟩
 refine List.forall_mem_cons.2 ⟨b0c ok31, ?_⟩
 refine List.forall_mem_cons.2 ⟨b0c ok32, ?_⟩
 refine List.forall_mem_cons.2 ⟨b0c ok33, ?_⟩
 refine List.forall_mem_cons.2 ⟨b0c ok34, ?_⟩
 refine List.forall_mem_cons.2 ⟨b0c ok35, ?_⟩
 refine List.forall_mem_cons.2 ⟨b0c ok36, ?_⟩
 refine List.forall_mem_cons.2 ⟨j2z, ?_⟩
 refine List.forall_mem_cons.2 ⟨b0c ok38, ?_⟩
 refine List.forall_mem_cons.2 ⟨b0c ok39, ?_⟩
 refine List.forall_mem_cons.2 ⟨b0c ok40, ?_⟩
 refine List.forall_mem_cons.2 ⟨b0c ok41, ?_⟩
 refine List.forall_mem_cons.2 ⟨b0c ok42, ?_⟩
 refine List.forall_mem_cons.2 ⟨b0c ok43, ?_⟩
 refine List.forall_mem_cons.2 ⟨b0c ok44, ?_⟩
 refine List.forall_mem_cons.2 ⟨b0c ok45, ?_⟩
 refine List.forall_mem_cons.2 ⟨b0c ok46, ?_⟩
 refine List.forall_mem_cons.2 ⟨b0c ok47, ?_⟩
 refine List.forall_mem_cons.2 ⟨b0c ok48, ?_⟩
 refine List.forall_mem_cons.2 ⟨b0c ok49, ?_⟩
 refine List.forall_mem_cons.2 ⟨b0c ok50, ?_⟩
 refine List.forall_mem_cons.2 ⟨b0c ok51, ?_⟩
 refine List.forall_mem_cons.2 ⟨b0c ok52, ?_⟩
 refine List.forall_mem_cons.2 ⟨b0c ok53, ?_⟩
 refine List.forall_mem_cons.2 ⟨b0c ok54, ?_⟩
 refine List.forall_mem_cons.2 ⟨b0c ok55, ?_⟩
 refine List.forall_mem_cons.2 ⟨b0c ok56, ?_⟩
 refine List.forall_mem_cons.2 ⟨b0c ok57, ?_⟩
 refine List.forall_mem_cons.2 ⟨b0c ok58, ?_⟩
 refine List.forall_mem_cons.2 ⟨b0c ok59, ?_⟩
 refine List.forall_mem_cons.2 ⟨b0c ok60, ?_⟩
 refine List.forall_mem_cons.2 ⟨b0c ok61, ?_⟩
 refine List.forall_mem_cons.2 ⟨b0c ok62, ?_⟩
 refine List.forall_mem_cons.2 ⟨b0c ok63, ?_⟩
 refine List.forall_mem_cons.2 ⟨b0c ok64, ?_⟩
 refine List.forall_mem_cons.2 ⟨b0c ok65, ?_⟩
 refine List.forall_mem_cons.2 ⟨b0c ok66, ?_⟩
 refine List.forall_mem_cons.2 ⟨b0c ok67, ?_⟩
 refine List.forall_mem_cons.2 ⟨b0c ok68, ?_⟩
 refine List.forall_mem_cons.2 ⟨b0c ok69, ?_⟩
 refine List.forall_mem_cons.2 ⟨b0c ok70, ?_⟩
 refine List.forall_mem_cons.2 ⟨b0c ok71, ?_⟩
 refine List.forall_mem_cons.2 ⟨b0c ok72, ?_⟩
 refine List.forall_mem_cons.2 ⟨b0c ok73, ?_⟩
 refine List.forall_mem_cons.2 ⟨b0c ok74, ?_⟩
 refine List.forall_mem_cons.2 ⟨j2y, ?_⟩
 refine List.forall_mem_cons.2 ⟨j2x, ?_⟩
 refine List.forall_mem_cons.2 ⟨b0c ok77, ?_⟩
 refine List.forall_mem_cons.2 ⟨b0c ok78, ?_⟩
 refine List.forall_mem_cons.2 ⟨b0c ok79, ?_⟩
 refine List.forall_mem_cons.2 ⟨b0c ok80, ?_⟩
 refine List.forall_mem_cons.2 ⟨b0c ok81, ?_⟩
 refine List.forall_mem_cons.2 ⟨b0c ok82, ?_⟩
 refine List.forall_mem_cons.2 ⟨b0c ok83, ?_⟩
 refine List.forall_mem_cons.2 ⟨b0c ok84, ?_⟩
 refine List.forall_mem_cons.2 ⟨b0c ok85, ?_⟩
 refine List.forall_mem_cons.2 ⟨b0c ok86, ?_⟩
 refine List.forall_mem_cons.2 ⟨b0c ok87, ?_⟩
 refine List.forall_mem_cons.2 ⟨b0c ok88, ?_⟩
 refine List.forall_mem_cons.2 ⟨b0c ok89, ?_⟩
 refine List.forall_mem_cons.2 ⟨b0c ok90, ?_⟩
 refine List.forall_mem_cons.2 ⟨b0c ok91, ?_⟩
 refine List.forall_mem_cons.2 ⟨b0c ok92, ?_⟩
 refine List.forall_mem_cons.2 ⟨b0c ok93, ?_⟩
 refine List.forall_mem_cons.2 ⟨b0c ok94, ?_⟩
 refine List.forall_mem_cons.2 ⟨b0c ok95, ?_⟩
 refine List.forall_mem_cons.2 ⟨b0c ok96, ?_⟩
 refine List.forall_mem_cons.2 ⟨b0c ok97, ?_⟩
 refine List.forall_mem_cons.2 ⟨b0c ok98, ?_⟩
 refine List.forall_mem_cons.2 ⟨b0c ok99, ?_⟩
 refine List.forall_mem_cons.2 ⟨b0c j5j, ?_⟩
 refine List.forall_mem_cons.2 ⟨b0c j5i, ?_⟩
 refine List.forall_mem_cons.2 ⟨b0c j5h, ?_⟩
 refine List.forall_mem_cons.2 ⟨j0k hΓ, ?_⟩
 refine List.forall_mem_cons.2 ⟨b0c j5g, ?_⟩
 refine List.forall_mem_cons.2 ⟨b0c j5f, ?_⟩
 refine List.forall_mem_cons.2 ⟨j0j, ?_⟩
 refine List.forall_mem_cons.2 ⟨b0c j5e, ?_⟩
 refine List.forall_mem_cons.2 ⟨b0c j5d, ?_⟩
 refine List.forall_mem_cons.2 ⟨j0i, ?_⟩
 refine List.forall_mem_cons.2 ⟨j0h, ?_⟩
 refine List.forall_mem_cons.2 ⟨b0c j5c, ?_⟩
 refine List.forall_mem_cons.2 ⟨b0c j5b, ?_⟩
 refine List.forall_mem_cons.2 ⟨b0c j5a, ?_⟩
 refine List.forall_mem_cons.2 ⟨b0c j4z, ?_⟩
 refine List.forall_mem_cons.2 ⟨b0c j4y, ?_⟩
 refine List.forall_mem_cons.2 ⟨b0c j4x, ?_⟩
 refine List.forall_mem_cons.2 ⟨b0c j4w, ?_⟩
 refine List.forall_mem_cons.2 ⟨b0c j4v, ?_⟩
 refine List.forall_mem_cons.2 ⟨b0c j4u, ?_⟩
 refine List.forall_mem_cons.2 ⟨b0c j4t, ?_⟩
 refine List.forall_mem_cons.2 ⟨j0g, ?_⟩
 refine List.forall_mem_cons.2 ⟨b0c j4s, ?_⟩
 refine List.forall_mem_cons.2 ⟨b0c j4r, ?_⟩
 refine List.forall_mem_cons.2 ⟨b0c j4q, ?_⟩
 refine List.forall_mem_cons.2 ⟨b0c j4p, ?_⟩
 simp
theorem j5u (W:World):TOk Go.Proofs.Tryz.prog (ΓW Go.Proofs.Tryz.prog W) T:=j2q (j2p h9p)
end Go.TA.Tryz


end
section
/- Tags and names: what the program says of them. -/
set_option maxHeartbeats 1000000
namespace Go.TA.Tryz
def b3m (c:UInt8):Bool:=decide ((97:Int)≤c.toNat) && decide ((c.toNat:Int)≤122)
def b5d (c:UInt8):Bool:=decide ((48:Int)≤c.toNat) && decide ((c.toNat:Int)≤57)
def b2u (more:Bool) (c:UInt8):Bool:=b3m c || (b5d c || (((c.toNat:Int)==45) || (more && (((c.toNat:Int)==58) || ((c.toNat:Int)==46)))))
def b2i (more:Bool) (s:Bs):Bool:=match s with
 | []=>false
 | c::r=>decide (s.length≤32) && b3m c && r.all (b2u more)
theorem c6o {more:Bool} {c:UInt8} (h:b3m c=true):b2u more c=true:=by simp [b2u,h]
theorem b5y (c:UInt8) (g:List AObj) (n:Nat):b0f T (n+1) 121 [.p (.int .u8 c.toNat)] g=some (.p (.bool (b3m c)),g):=by
 rw [b0a T121,run_pure rfl rfl rfl]
 by_cases h1:(97:Int)≤c.toNat
 ·by_cases h2:(c.toNat:Int)≤122
  ·simp -implicitDefEqProofs (disch:=omega) only [Rx,simprocAttr,F121,b3m,h1,h2]
  ·simp -implicitDefEqProofs (disch:=omega) only [Rx,simprocAttr,F121,b3m,h1,h2]
 ·simp -implicitDefEqProofs (disch:=omega) only [Rx,simprocAttr,F121,b3m,h1]
theorem c7x {s:Bs} {i:Nat} {c:UInt8} (h:s[i]? = some c):s.getD i 0=c:=by rw [List.getD_eq_getElem?_getD,h];rfl
theorem b9f {α : Type} {l:List α} {i:Nat} {x : α} (h:l[i]? = some x):l.drop i=x::l.drop (i+1):=by rw [List.drop_eq_getElem?_toList_append,h];rfl
def outB (r:Bool):Ex × St:=if r=true then (.exit 0,⟨[],[],[]⟩) else (.ret,⟨[(4,.p (.bool false))],[],[]⟩)
def b4u (more:Bool):Bs:=if more=true then [45,58,46] else [45]
theorem j4i {c:UInt8} {k:UInt8}:((k==c)=true)↔c.toNat=k.toNat:=by
 rw [beq_iff_eq]
 exact ⟨fun h=>by rw [h],fun h=>(UInt8.toNat_inj.1 h).symm⟩
theorem c8z (more:Bool) (c:UInt8) (hn:(b3m c || b5d c)=false):(Lib.indexByte (b4u more) c<0)=((b2u more c)=false):=by
 have e:b2u more c=(((c.toNat:Int)==45) || (more && (((c.toNat:Int)==58) || ((c.toNat:Int)==46)))):=by
  simp only [Bool.or_eq_false_iff] at hn
  simp [b2u,hn.1,hn.2]
 rw [e]
 have q:∀ k:UInt8,(k==c)=((c.toNat:Int)==(k.toNat:Int)):=fun k=>by
  rw [Bool.eq_iff_iff,j4i,beq_iff_eq]
  omega
 cases more
 ·have e0:b4u false=[45]:=rfl
  have:((45:UInt8).toNat:Int)=45:=rfl
  simp only [e0,Lib.indexByte,q,this]
  cases h:((c.toNat:Int)==45) <;> simp
 ·have e0:b4u true=[45,58,46]:=rfl
  have e1:((45:UInt8).toNat:Int)=45:=rfl
  have e2:((58:UInt8).toNat:Int)=58:=rfl
  have e3:((46:UInt8).toNat:Int)=46:=rfl
  simp only [e0,Lib.indexByte,q,e1,e2,e3]
  cases h:((c.toNat:Int)==45) <;> cases h':((c.toNat:Int)==58) <;> cases h'':((c.toNat:Int)==46) <;> simp
theorem c4o (s:Bs) (c:UInt8) (g:List AObj) (n:Nat):b0f T (n+1) 122 [.p (.str s),.p (.int .u8 c.toNat)] g=some (.p (.int .i64 (Lib.indexByte s c)),g):=by
 rw [b5t T122]
 simp [b7u]
theorem g6g {n N : Nat} (s : Bs) (more : Bool) (hs : s.length ≤ 32) (hN : 32 < N) (i : Nat) (hi : i ≤ s.length) :
    b0t (b0f T (n+1)) N (.loop c2l) ⟨[(0,.p (.str s)),(1,.p (.str (b4u more))),(21,.p (.int .i64 s.length)),(22,.p (.int .i64 i))],[],[]⟩=some (outB ((s.drop i).all (b2u more))):=by
  refine b1k (σ := Nat) (S:=fun i=>⟨[(0,.p (.str s)),(1,.p (.str (b4u more))),(21,.p (.int .i64 s.length)),(22,.p (.int .i64 i))],[],[]⟩) (I:=fun i=>i≤s.length) (μ := fun i=>s.length - i)
    (Φ := fun i=>outB ((s.drop i).all (b2u more))) ?_ i hi (by omega)
  intro i hi
  by_cases h:i<s.length
  · obtain ⟨c,hc⟩:=b0m h
    have hg:=c7x hc
    have k1:(i:Int)<(s.length:Int):=by omega
    rw [b9f hc]
    have good:b2u more c=true→b0t (b0f T (n+1)) N c2l ⟨[(0,.p (.str s)),(1,.p (.str (b4u more))),(21,.p (.int .i64 s.length)),(22,.p (.int .i64 i))],[],[]⟩=some (.normal,⟨[(0,.p (.str s)),(1,.p (.str (b4u more))),(21,.p (.int .i64 s.length)),(22,.p (.int .i64 ((i+1:Nat):Int)))],[],[]⟩):=fun hb=>by
      cases hsm:b3m c with
      | true=>simp -implicitDefEqProofs (disch:=omega) only [Rx,simprocAttr,c2l,k1,hg,b5y,hsm]
      | false =>
        by_cases h48:(c.toNat:Int)<48
        · have hd:(b3m c || b5d c)=false:=by simp [hsm,b5d];omega
          have ho:¬ (Lib.indexByte (b4u more) c<0):=by rw [c8z more c hd,hb];simp
          simp -implicitDefEqProofs (disch:=omega) only [Rx,simprocAttr,c2l,k1,hg,b5y,hsm,h48,c4o,ho]
        · by_cases h57:57<(c.toNat:Int)
          · have hd:(b3m c || b5d c)=false:=by simp [hsm,b5d];omega
            have ho:¬ (Lib.indexByte (b4u more) c<0):=by rw [c8z more c hd,hb];simp
            simp -implicitDefEqProofs (disch:=omega) only [Rx,simprocAttr,c2l,k1,hg,b5y,hsm,h48,h57,c4o,ho]
          · simp -implicitDefEqProofs (disch:=omega) only [Rx,simprocAttr,c2l,k1,hg,b5y,hsm,h48,h57]
    cases hb:b2u more c with
    | true=>exact .inl ⟨i+1,good hb,by omega,by omega,by simp [hb]⟩
    | false =>
      refine .inr ⟨?_,by simp [hb,outB]⟩
      have hsm:b3m c=false:=by
        cases h:b3m c
        · rfl
        · rw [c6o h] at hb;cases hb
      have hdg:b5d c=false:=by
        cases h:b5d c
        · rfl
        · simp [b2u,h] at hb
      have hd:(b3m c || b5d c)=false:=by simp [hsm,hdg]
      have ho:Lib.indexByte (b4u more) c<0:=by rw [c8z more c hd,hb]
      have eF:outB ((c::s.drop (i+1)).all (b2u more))=(.ret,⟨[(4,.p (.bool false))],[],[]⟩):=by simp [outB,hb]
      by_cases h48:(c.toNat:Int)<48
      · rw [eF]
        simp -implicitDefEqProofs (disch:=omega) only [Rx,simprocAttr,c2l,k1,hg,b5y,hsm,h48,c4o,ho]
      · have h57:57<(c.toNat:Int):=by simp [b5d] at hdg;omega
        rw [eF]
        simp -implicitDefEqProofs (disch:=omega) only [Rx,simprocAttr,c2l,k1,hg,b5y,hsm,h48,h57,c4o,ho]
  · refine .inr ⟨?_,by rw [List.drop_eq_nil_of_le (by omega)];simp [outB]⟩
    have k1:¬ (i:Int)<(s.length:Int):=by omega
    rw [List.drop_eq_nil_of_le (by omega)]
    simp -implicitDefEqProofs (disch:=omega) only [Rx,simprocAttr,c2l,k1,outB]
theorem d7a (s : Bs) (more : Bool) (g : List AObj) (n : Nat) : b0f T (n + 35) 104 [.p (.str s), .p (.str (b4u more))] g = some (.p (.bool (b2i more s)), g) := by
  rw [b0a T104,run_pure rfl rfl rfl]
  cases s with
  | nil=>simp -implicitDefEqProofs (disch:=omega) only [Rx,simprocAttr,F104,b2i]
  | cons c r =>
    have k0:((c::r)==([]:Bs))=false:=rfl
    by_cases h32:(c::r).length≤32
    · have k1:¬ (32<(r.length:Int)+1):=by simp at h32;omega
      have hl:=g6g (n:=n+33) (N:=n+34) (c::r) more h32 (by omega) 0 (by simp)
      simp only [List.length_cons,Int.natCast_add,Int.natCast_one,Int.natCast_zero] at hl
      cases hsm:b3m c with
      | true =>
        have e:b2i more (c::r)=((c::r).drop 0).all (b2u more):=by
          simp only [b2i,hsm,List.drop_zero,List.all_cons,c6o hsm,Bool.true_and,Bool.and_true]
          simp at h32 ⊢
          omega
        rw [e]
        cases hb:((c::r).drop 0).all (b2u more) with
        | true =>
          have hl':outB (((c::r).drop 0).all (b2u more))=(.exit 0,⟨[],[],[]⟩):=by simp only [outB,hb];rfl
          rw [hl'] at hl
          simp -implicitDefEqProofs (disch:=omega) only [Rx,simprocAttr,F104,k0,k1,b5y,hsm,hl]
        | false =>
          have hl':outB (((c::r).drop 0).all (b2u more))=(.ret,⟨[(4,.p (.bool false))],[],[]⟩):=by simp only [outB,hb];rfl
          rw [hl'] at hl
          simp -implicitDefEqProofs (disch:=omega) only [Rx,simprocAttr,F104,k0,k1,b5y,hsm,hl]
      | false =>
        have e:b2i more (c::r)=false:=by simp [b2i,hsm]
        rw [e]
        simp -implicitDefEqProofs (disch:=omega) only [Rx,simprocAttr,F104,k0,k1,b5y,hsm]
    · have k1:32<(r.length:Int)+1:=by simp at h32;omega
      have e:b2i more (c::r)=false:=by simp [b2i];simp at h32;omega
      rw [e]
      simp -implicitDefEqProofs (disch:=omega) only [Rx,simprocAttr,F104,k0,k1]
theorem c8l (s:Bs) (g:List AObj) (n:Nat):b0f T (n+36) 68 [.p (.str s)] g=some (.p (.bool (b2i false s)),g):=by
 rw [b0a T68,run_pure rfl rfl rfl]
 have h:=d7a s false [] n
 simp only [b4u,Bool.false_eq_true,if_false] at h
 simp -implicitDefEqProofs (disch:=omega) only [Rx,simprocAttr,F68,h]
theorem b9n (s:Bs) (g:List AObj) (n:Nat):b0f T (n+36) 69 [.p (.str s)] g=some (.p (.bool (b2i true s)),g):=by
 rw [b0a T69,run_pure rfl rfl rfl]
 have h:=d7a s true [] n
 simp only [b4u,if_true] at h
 simp -implicitDefEqProofs (disch:=omega) only [Rx,simprocAttr,F69,h]
theorem b7q (s:Bs) (g:List AObj) (n:Nat):b0f T (n+1) 70 [.p (.str s)] g=some (.p (.bool (decide ((s.length:Int)≤65536))),g):=by
 rw [b0a T70,run_pure rfl rfl rfl]
 simp -implicitDefEqProofs (disch:=omega) only [Rx,simprocAttr,F70]
end Go.TA.Tryz


end
section
/- Rows that stand as a tree's do: the document's answer. -/
namespace Go.TA.Tryz
def j5v (l:List GRow):AV:=.p (.list (l.map GRow.pv))
def b7t (r:Bool):Ex × St:=if r=true then (.ret,⟨[(6,.p (.bool true))],[],[]⟩) else (.exit 0,⟨[],[],[]⟩)
theorem d1i {l:List GRow} {i x:Nat} (h:b1r l i) (hi:i≤l.length) (hx:x<i):∃ r,l[x]? = some r∧r.up=(upAt l (x+1):Int):=by
 obtain ⟨r,hr⟩:=b0m (show x<l.length by omega)
 refine ⟨r,hr, ?_⟩
 have:=h x r hx hr
 simp [upAt,hr]
 omega
theorem g8l {n N : Nat} (l : List GRow) (h : Int) (i : Nat) (hs : b1r l i) (hi : i ≤ l.length) (hl : l.length ≤ 1048576) (hN : i < N) :
    b0t (b0f T n) N (.loop g8t) ⟨[(0,.p (.list (l.map GRow.pv))),(2,.p (.int .i64 h)),(7,.p (.int .i64 (i:Int)))],[],[]⟩=some (b7t (b3s l i h)):=by
  refine b1k (C:=b0f T n) (N:=N) (B:=g8t) (σ := Nat) (S:=fun x=>⟨[(0,.p (.list (l.map GRow.pv))),(2,.p (.int .i64 h)),(7,.p (.int .i64 x))],[],[]⟩) (I:=fun x=>x≤i) (μ := fun x=>x)
    (Φ := fun x=>b7t (b3s l x h)) ?_ i (Nat.le_refl _) hN
  intro x hx
  cases x with
  | zero =>
    refine .inr ⟨?_,by simp [b3s,b4x,b7t]⟩
    have e:b7t (b3s l 0 h)=(.exit 0,⟨[],[],[]⟩):=by simp [b3s,b4x,b7t]
    rw [e]
    simp -implicitDefEqProofs (disch:=omega) only [Rx,simprocAttr,g8t,Int.natCast_zero]
  | succ x =>
    obtain ⟨r,hr,hu⟩:=d1i hs hi (show x<i by omega)
    have hg:=b0s (f:=GRow.pv) hr
    have k1:(0:Int)<(x:Int)+1:=by omega
    have k2:(x:Int)<(l.length:Int):=by omega
    have hc:=b3l hs hi (show x<i by omega)
    by_cases he:((x:Int)+1)=h
    · have e:b3s l (x+1) h=true:=by
        simp only [b3s,hc,List.any_cons,Bool.or_eq_true,beq_iff_eq]
        left;push_cast;exact he
      have he':((x:Int)+1==h)=true:=by simpa using he
      refine .inr ⟨?_,by rw [e];simp [b7t]⟩
      rw [e]
      simp -implicitDefEqProofs (disch:=omega) only [Rx,simprocAttr,g8t,k1,he',b7t]
    · have e:b3s l (x+1) h=b3s l (upAt l (x+1)) h:=by
        simp only [b3s,hc,List.any_cons]
        have:(((x+1:Nat):Int)==h)=false:=by simp;omega
        rw [this,Bool.false_or]
      have he':((x:Int)+1==h)=false:=by simpa using he
      have hle:=b5w hs (show x<i by omega) (by omega)
      refine .inl ⟨upAt l (x+1), ?_,by omega,by omega,by rw [e]⟩
      simp -implicitDefEqProofs (disch:=omega) only [Rx,simprocAttr,g8t,k1,k2,he',hg,GRow.pv,hu]
theorem h4l (l:List GRow) (h:Int) (i:Nat) (hs:b1r l i) (hi:i≤l.length) (hl:l.length≤1048576) (g:List AObj) {n:Nat} (hn:i<n) :
    b0f T (n+1) 62 [.p (.list (l.map GRow.pv)),.p (.int .i64 i),.p (.int .i64 h)] g=some (.p (.bool (b3s l i h)),g):=by
  rw [b0a T62,run_pure rfl rfl rfl]
  have hloop:=g8l (n:=n) (N:=n) l h i hs hi hl hn
  cases hb:b3s l i h with
  | true =>
    rw [hb] at hloop
    simp only [b7t,if_true] at hloop
    simp -implicitDefEqProofs (disch:=omega) only [Rx,simprocAttr,F62,hloop]
  | false =>
    rw [hb] at hloop
    simp only [b7t,Bool.false_eq_true,if_false] at hloop
    simp -implicitDefEqProofs (disch:=omega) only [Rx,simprocAttr,F62,hloop]
theorem g7r {n N:Nat} (l:List GRow) (i:Nat) (hs:b1r l i) (hi:i≤l.length) (hl:l.length≤1048576) (hN:i<N) :
    b0t (b0f T n) N (.loop h4y) ⟨[(0,.p (.list (l.map GRow.pv))),(1,.p (.int .i64 (i:Int))),(5,.p (.int .i64 ((0:Nat):Int)))],[],[]⟩=some (.exit 0,⟨[(5,.p (.int .i64 ((b3o l i).length:Int)))],[],[]⟩):=by
  have:=b1k (C:=b0f T n) (N:=N) (B:=h4y) (σ := Nat × Nat) (S:=fun s=>⟨[(0,.p (.list (l.map GRow.pv))),(1,.p (.int .i64 s.1)),(5,.p (.int .i64 s.2))],[],[]⟩) (I:=fun s=>s.1≤i∧s.2+s.1≤i) (μ := fun s=>s.1)
    (Φ := fun s=>(.exit 0,⟨[(5,.p (.int .i64 ((s.2+(b3o l s.1).length:Nat):Int)))],[],[]⟩)) ?_ (i,0) ⟨Nat.le_refl _,by simp⟩ hN
  · simpa using this
  rintro ⟨x,d⟩ ⟨hx,hd⟩
  simp only at hx hd ⊢
  cases x with
  | zero =>
    refine .inr ⟨?_,by simp⟩
    simp only [b4x,List.length_nil,Nat.add_zero]
    simp -implicitDefEqProofs (disch:=omega) only [Rx,simprocAttr,h4y,Int.natCast_zero]
  | succ x =>
    obtain ⟨r,hr,hu⟩:=d1i hs hi (show x<i by omega)
    have hg:=b0s (f:=GRow.pv) hr
    have k1:(0:Int)<(x:Int)+1:=by omega
    have k2:(x:Int)<(l.length:Int):=by omega
    have hc:=b3l hs hi (show x<i by omega)
    have hle:=b5w hs (show x<i by omega) (by omega)
    refine .inl ⟨(upAt l (x+1),d+1), ?_,⟨by omega,by simp only;omega⟩,by simp only;omega, ?_⟩
    · simp -implicitDefEqProofs (disch:=omega) only [Rx,simprocAttr,h4y,k1,k2,hg,GRow.pv,hu]
    · rw [hc,List.length_cons];congr 6;simp only;omega
theorem h3l (l:List GRow) (i:Nat) (hs:b1r l i) (hi:i≤l.length) (hl:l.length≤1048576) (g:List AObj) {n:Nat} (hn:i<n) :
  b0f T (n+1) 39 [.p (.list (l.map GRow.pv)),.p (.int .i64 i)] g=some (.p (.int .i64 (b3o l i).length),g):=by
 rw [b0a T39,run_pure rfl rfl rfl]
 have hloop:=g7r (n:=n) (N:=n) l i hs hi hl hn
 simp only [Int.natCast_zero] at hloop
 simp -implicitDefEqProofs (disch:=omega) only [Rx,simprocAttr,F39,hloop]
def b3u (k:Nat) (r:Bool):Ex × St:=if r=true then (.exit 0,⟨[],[],[]⟩) else (.ret,⟨[(k,.p (.bool false))],[],[]⟩)
theorem g1l {n N : Nat} (l : List GRow) (hl : l.length ≤ 1048576) (hN : l.length < N) (hn : l.length < n) :
    b0t (b0f T (n+1)) N (.loop d5l) ⟨[(0,.p (.list (l.map GRow.pv))),(5,.p (.int .i64 l.length)),(6,.p (.int .i64 ((0:Nat):Int)))],[],[]⟩=some (b3u 2 (b4h l)):=by
  have:=b1k (C:=b0f T (n+1)) (N:=N) (B:=d5l) (σ := Nat) (S:=fun i=>⟨[(0,.p (.list (l.map GRow.pv))),(5,.p (.int .i64 l.length)),(6,.p (.int .i64 i))],[],[]⟩) (I:=fun i=>i≤l.length∧b1r l i) (μ := fun i=>l.length - i)
    (Φ := fun i=>b3u 2 (b1l l i (l.drop i))) ?_ 0 ⟨by omega,c0j l⟩ (by omega)
  · simpa [b4h] using this
  rintro i ⟨hi,hs⟩
  by_cases h:i<l.length
  · have k1:(i:Int)<(l.length:Int):=by omega
    obtain ⟨x,hx⟩:=b0m h
    have hg:=b0s (f:=GRow.pv) hx
    have hd:l.drop i=x::l.drop (i+1):=by rw [List.drop_eq_getElem?_toList_append,hx];rfl
    rw [hd]
    have bad:b3q l i x=false→b3u 2 (b1l l i (x::l.drop (i+1)))=(.ret,⟨[(2,.p (.bool false))],[],[]⟩):=fun h=>by simp [b1l,h,b3u]
    have good:b3q l i x=true→b3u 2 (b1l l i (x::l.drop (i+1)))=b3u 2 (b1l l (i+1) (l.drop (i+1))):=fun h=>by simp [b1l,h]
    cases i with
    | zero =>
      by_cases hu:x.up=0
      · have hr:b3q l 0 x=true:=by simp [b3q,hu]
        refine .inl ⟨1, ?_,⟨by omega,b8v hs (by omega) hx hr⟩,by omega,good hr⟩
        have hu':(x.up==0)=true:=by simp [hu]
        simp only [Int.natCast_zero,Int.natCast_one] at k1 ⊢
        have hg0:(l.map GRow.pv).getD 0 []=x.pv:=hg
        have e0:Int.toNat 0=0:=rfl
        simp -implicitDefEqProofs (disch:=omega) only [Rx,simprocAttr,d5l,k1,hg0,e0,GRow.pv,hu']
      · have hr:b3q l 0 x=false:=by simp [b3q,hu]
        refine .inr ?_
        rw [bad hr]
        refine ⟨?_,by simp⟩
        have hu':(x.up==0)=false:=by simp [hu]
        simp only [Int.natCast_zero,Int.natCast_one] at k1 ⊢
        have hg0:(l.map GRow.pv).getD 0 []=x.pv:=hg
        have e0:Int.toNat 0=0:=rfl
        simp -implicitDefEqProofs (disch:=omega) only [Rx,simprocAttr,d5l,k1,hg0,e0,GRow.pv,hu']
    | succ j =>
      have k0:((j:Int)+1==0)=false:=by simp;omega
      have k3:(0:Int)<(j:Int)+1:=by omega
      have k5:((j:Int)+1).toNat=j+1:=by omega
      simp only [Int.natCast_add,Int.natCast_one] at k1
      by_cases hu:x.up<1
      · have hr:b3q l (j+1) x=false:=by simp [b3q];intro h;omega
        refine .inr ?_
        rw [bad hr]
        refine ⟨?_,by simp⟩
        simp -implicitDefEqProofs (disch:=omega) only [Rx,simprocAttr,d5l,k0,k1,k3,k5,hg,GRow.pv,hu]
      · have hab:=h4l (n:=n) l x.up (j+1) hs (by omega) hl [] (by omega)
        simp only [Int.natCast_add,Int.natCast_one] at hab
        cases hb:b3s l (j+1) x.up with
        | true =>
          have hr:b3q l (j+1) x=true:=by simp [b3q,hb];omega
          refine .inl ⟨j+1+1, ?_,⟨by omega,b8v hs (by omega) hx hr⟩,by omega,good hr⟩
          simp -implicitDefEqProofs (disch:=omega) only [Rx,simprocAttr,d5l,k0,k1,k3,k5,hg,GRow.pv,hu,hab,hb]
        | false =>
          have hr:b3q l (j+1) x=false:=by simp [b3q,hb]
          refine .inr ?_
          rw [bad hr]
          refine ⟨?_,by simp⟩
          simp -implicitDefEqProofs (disch:=omega) only [Rx,simprocAttr,d5l,k0,k1,k3,k5,hg,GRow.pv,hu,hab,hb]
  · have k1:¬ (i:Int)<(l.length:Int):=by omega
    have e:l.drop i=[]:=List.drop_eq_nil_of_le (by omega)
    refine .inr ⟨?_,by rw [e];simp [b1l,b3u]⟩
    rw [e]
    simp -implicitDefEqProofs (disch:=omega) only [Rx,simprocAttr,d5l,k1,b1l,b3u]
theorem g6s (l:List GRow) (hl:l.length≤1048576) (g:List AObj) {n:Nat} (hn:l.length<n):b0f T (n+2) 38 [.p (.list (l.map GRow.pv))] g=some (.p (.bool (b4h l)),g):=by
  rw [b0a T38,run_pure rfl rfl rfl]
  have hloop:=g1l (n:=n) (N:=n+1) l hl (by omega) hn
  simp only [Int.natCast_zero] at hloop
  cases hb:b4h l with
  | true =>
    rw [hb] at hloop
    simp only [b3u,if_true] at hloop
    simp -implicitDefEqProofs (disch:=omega) only [Rx,simprocAttr,F38,hloop]
  | false =>
    rw [hb] at hloop
    simp only [b3u,Bool.false_eq_true,if_false] at hloop
    simp -implicitDefEqProofs (disch:=omega) only [Rx,simprocAttr,F38,hloop]
end Go.TA.Tryz


end
