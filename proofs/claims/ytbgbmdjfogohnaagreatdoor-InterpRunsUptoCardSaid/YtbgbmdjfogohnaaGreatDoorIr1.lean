/- Part 1 of 15 of a proof; joined from LibA, Sym, Data, Loop, SymB. The equations of a run, all in one. -/
import GoSem.Step
set_option linter.unusedSimpArgs false
set_option linter.unusedVariables false
set_option linter.defProp false
set_option maxRecDepth 100000
set_option maxHeartbeats 8000000
section
/- The abstract machine: its definitions, and the check of lowered code. -/
namespace Go.TA
inductive PV where
 | bool (b:Bool)
 | int (k:IntKind) (n:Int)
 | str (s:List UInt8)
 | nilp
 | nilm
 | nilf
 | nili
 | list (xs:List (List PV))
 | agg (cs:List PV)
 deriving Inhabited
inductive AV where
 | bot
 | p (v:PV)
 | rop (cs:List PV)
 | ptr (z:Bool) (k sz n i j:Nat)
 | own (z:Bool) (k n:Nat)
 | nils
 | lit (xs:List (List AV))
 | map (z:Bool) (k:Nat)
 | func (fn:Nat) (caps:List AV)
 | agg (cs:List AV)
 | tuple (vs:List AV)
 /-- a function that is bound to its first arguments -/
 | bound (fn:Nat) (first:List AV)
 deriving Inhabited
inductive AObj where
 | dead
 | pcells (sz:Nat) (xs:List (List PV))
 | cells (sz:Nat) (xs:List (List AV))
 | map (es:List (PV × AV))
 | siter (s:List UInt8) (pos:Nat)
 deriving Inhabited
inductive LOpd where
 | t (n:Nat)
 | c (v:PV)
 | f (fn:Nat)
 deriving Inhabited
structure St where
 fr:List (Nat × AV)
 l:List (Nat × AObj)
 g:List AObj
 deriving Inhabited
inductive Ex where
 | normal
 | exit (id:Nat)
 | ret
 deriving DecidableEq,Inhabited
def bk {α β : Type} (x:Option α) (f : α → Option β):Option β := x.bind f
@[congr] theorem bk_congr {α β : Type} {x y:Option α} (f : α → Option β) (h:x=y):bk x f=bk y f:=by rw [h]
theorem bk_some {α β : Type} (a : α) (f : α → Option β):bk (some a) f=f a:=rfl
theorem bk_none {α β : Type} (f : α → Option β):bk none f=none:=rfl
theorem bk_ite {α β : Type} (c:Prop) [Decidable c] (x y:Option α) (f : α → Option β):bk (if c then x else y) f=if c then bk x f else bk y f:=by split <;> rfl
def lk {α : Type} : List (Nat × α) → Nat → Option α
  | [],_=>none
  | (a, v) :: l, k => match a == k with
    | true=>some v
    | false=>lk l k
def dl {α : Type} : List (Nat × α) → Nat → List (Nat × α)
  | [],_=>[]
  | (a, v) :: l, k => match a == k with
    | true=>l
    | false=>(a,v)::dl l k
def up {α : Type} : List (Nat × α) → Nat → α → List (Nat × α)
  | [],k,x=>[(k,x)]
  | (a, v) :: l, k, x => match a == k with
    | true=>(a,x)::l
    | false=>(a,v)::up l k x
def orBot:Option AV→AV
 | some v=>v
 | none => .bot
def St.get (s:St) (t:Nat):AV:=orBot (lk s.fr t)
def St.set (s:St) (t:Nat) (v:AV):St:=⟨(t,v)::s.fr,s.l,s.g⟩
def St.arg (s:St):LOpd→AV
 | .t n=>s.get n
 | .c v => .p v
 | .f n => .func n []
def St.obj (s:St) (z:Bool) (k:Nat):Option AObj:=if z then s.g[k]? else lk s.l k
def St.putObj (s:St) (z:Bool) (k:Nat) (o:AObj):St:=if z then ⟨s.fr,s.l,s.g.set k o⟩ else ⟨s.fr,up s.l k o,s.g⟩
def St.newObj (s : St) (z : Bool) (k : Nat) (o : AObj) : Option (Nat × St) :=
  if z then some (s.g.length,⟨s.fr,s.l,s.g++[o]⟩) else match lk s.l k with
    | none=>some (k,⟨s.fr,(k,o)::s.l,s.g⟩)
    | some _=>none
def pures:List AV→Option (List PV)
 | []=>some []
 | .p v::l=>(pures l).map (v :: ·)
 | _::_=>none
def puress : List (List AV) → Option (List (List PV))
  | []=>some []
  | c :: l => match pures c, puress l with
    | some c,some l=>some (c::l)
    | _,_=>none
def ofCells (cs:List AV):AV:=match pures cs with
 | some ps => .p (.agg ps)
 | none => .agg cs
def AV.cells:AV→Option (List AV)
 | .p (.agg cs)=>some (cs.map .p)
 | .agg cs=>some cs
 | .bot=>none
 | .tuple _=>none
 | v=>some [v]
def objOf (sz:Nat) (xs:List (List AV)):AObj:=match puress xs with
 | some ps => .pcells sz ps
 | none => .cells sz xs
def sub {α : Type} (j sz:Nat) (c:List α):List α := if j=0∧sz=c.length then c else (c.drop j).take sz
def AObj.rd (sz n i j bs:Nat) (agg:Bool):AObj→Option AV
 | .pcells b xs=>if b=bs∧xs.length=n∧i<n∧j+sz≤bs then some (.p (if agg then .agg (sub j sz (xs.getD i [])) else ((xs.getD i []).getD j .nilp))) else none
 | .cells b xs=>if b=bs∧xs.length=n∧i<n∧j+sz≤bs then some (if agg then ofCells (sub j sz (xs.getD i [])) else ((xs.getD i []).getD j .bot)) else none
 | _=>none
def over {α : Type} (j:Nat) (new old:List α):List α := if j=0∧new.length=old.length then new else old.take j++new++old.drop (j+new.length)
def AObj.wr (n i j bs:Nat) (new:List AV):AObj→Option AObj
 | .pcells b xs=>if b=bs∧xs.length=n∧i<n∧j+new.length≤bs then match pures new with
   | some ps=>some (.pcells b (xs.set i (over j ps (xs.getD i []))))
   | none=>some (.cells b ((xs.map (fun c=>c.map AV.p)).set i (over j new ((xs.getD i []).map .p)))) else none
 | .cells b xs=>if b=bs∧xs.length=n∧i<n∧j+new.length≤bs then some (.cells b (xs.set i (over j new (xs.getD i [])))) else none
 | _=>none
def allM {α β : Type} (f : α → Option β):List α → Option (List β)
 | []=>some []
 | a::l=>bk (f a) fun b=>bk (allM f l) fun r=>some (b::r)
def view (s : St) : Nat → AV → Option PV
  | 0,_=>none
  | _,.p v=>some v
  | _,.nils=>some (.list [])
  | d+1,.agg cs=>(allM (view s d) cs).map .agg
  | d+1,.lit xs=>(allM (allM (view s d)) xs).map .list
  | d + 1, .own z k n => match s.obj z k with
    | some (.pcells _ xs)=>if xs.length=n then some (.list xs) else none
    | some (.cells _ xs)=>if xs.length=n then (allM (allM (view s d)) xs).map .list else none
    | _=>none
  | _,_=>none
inductive TK where
 | b | i | s | ptr | sl | mp | fn
 | st (l:List Nat)
 deriving Inhabited
def PV.scalarEq:PV→PV→Option Bool
 | .bool a,.bool b=>some (a==b)
 | .int k a,.int k' b=>if k=k' then some (a==b) else none
 | .str a,.str b=>some (a==b)
 | _,_=>none
def scalarEqK:Nat→PV→PV→Option Bool
 | 0,.bool a,.bool b=>some (a==b)
 | 1,.int k a,.int k' b=>if k=k' then some (a==b) else none
 | 2,.str a,.str b=>some (a==b)
 | _,_,_=>none
def cellsEq : List Nat → List PV → List PV → Option Bool
  | [],[],[]=>some true
  | k :: ks, a :: l, b :: r => match scalarEqK k a b, cellsEq ks l r with
    | some x,some y=>some (x && y)
    | _,_=>none
  | _,_,_=>none
def St.one (s:St) (z:Bool) (k:Nat):Bool:=match s.obj z k with
 | some (.pcells _ [_])=>true
 | some (.cells _ [_])=>true
 | _=>false
def ptrEq (s:St):AV→AV→Option Bool
 | .p .nilp,.p .nilp=>some true
 | .p .nilp,.rop _=>some false
 | .p .nilp,.ptr .. => some false
 | .rop _,.p .nilp=>some false
 | .ptr ..,.p .nilp=>some false
 | .ptr z k _ n i j,.ptr z' k' _ n' i' j'=>if n=1∧n'=1∧i=0∧i'=0∧j=0∧j'=0∧s.one z k=true∧s.one z' k'=true then some (z==z' && k==k') else none
 | _,_=>none
def isNil (s : St) : TK → AV → Option Bool
  | .mp,.p .nilm=>some true
  | .fn,.p .nilf=>some true
  | .sl,.nils=>some true
  | .sl,.p (.list (_::_))=>some false
  | .fn,.func .. => some false
  | .mp, .map z k => match s.obj z k with
    | some (.map _)=>some false
    | _=>none
  | .fn,.bound .. => some false
  | _,_=>none
def isNilC:TK→LOpd→Bool
 | .sl,.c (.list [])=>true
 | .mp,.c .nilm=>true
 | .fn,.c .nilf=>true
 | _,_=>false
def avEq (s : St) (k : TK) (x y : LOpd) : Option Bool :=
  match k with
  | .b => match s.arg x, s.arg y with
    | .p a,.p b=>scalarEqK 0 a b
    | _,_=>none
  | .i => match s.arg x, s.arg y with
    | .p a,.p b=>scalarEqK 1 a b
    | _,_=>none
  | .s => match s.arg x, s.arg y with
    | .p a,.p b=>scalarEqK 2 a b
    | _,_=>none
  | .ptr=>ptrEq s (s.arg x) (s.arg y)
  | .st l => match s.arg x, s.arg y with
    | .p (.agg a),.p (.agg b)=>cellsEq l a b
    | _,_=>none
  | k=>if isNilC k y=true then isNil s k (s.arg x) else if isNilC k x=true then isNil s k (s.arg y) else none
def strLess:List UInt8→List UInt8→Bool
 | _,[]=>false
 | [],_::_=>true
 | a::x,b::y=>a<b || (a==b && strLess x y)
def binI (op:BinOp) (k:IntKind) (x y:Int):Option PV :=
 match op with
 | .add=>some (.int k (k.wrap (x+y)))
 | .sub=>some (.int k (k.wrap (x - y)))
 | .mul=>some (.int k (k.wrap (x*y)))
 | .quo=>if y=0 then none else some (.int k (k.wrap (x.tdiv y)))
 | .rem=>if y=0 then none else some (.int k (x.tmod y))
 | .and=>some (.int k (k.wrap (BitVec.ofInt k.bits x &&& BitVec.ofInt k.bits y).toNat))
 | .or=>some (.int k (k.wrap (BitVec.ofInt k.bits x ||| BitVec.ofInt k.bits y).toNat))
 | .xor=>some (.int k (k.wrap (BitVec.ofInt k.bits x ^^^ BitVec.ofInt k.bits y).toNat))
 | .lss=>some (.bool (x<y))
 | .leq=>some (.bool (x≤y))
 | .gtr=>some (.bool (x > y))
 | .geq=>some (.bool (x ≥ y))
 | _=>none
def binS (op:BinOp) (x y:List UInt8):Option PV :=
 match op with
 | .add=>if x.length+y.length≤140737488355328 then some (.str (x++y)) else none
 | .lss=>some (.bool (strLess x y))
 | .leq=>some (.bool (strLess x y || x==y))
 | .gtr=>some (.bool !(strLess x y || x==y))
 | .geq=>some (.bool !(strLess x y))
 | _=>none
def bin (op : BinOp) (x y : AV) : Option AV :=
  match op with
  | .eql=>none
  | .neq=>none
  | .shl => match x, y with
    | .p (.int k a),.p (.int _ b)=>if b<0 then none else some (.p (.int k (k.wrap (a*2 ^ (min b.toNat k.bits)))))
    | _,_=>none
  | .shr => match x, y with
    | .p (.int k a),.p (.int _ b)=>if b<0 then none else some (.p (.int k (a.fdiv (2 ^ (min b.toNat k.bits)))))
    | _,_=>none
  | _ => match x, y with
    | .p (.int k a),.p (.int k' b)=>if k=k' then (binI op k a b).map .p else none
    | .p (.str a),.p (.str b)=>(binS op a b).map .p
    | _,_=>none
def una (op:UnOp) (x:AV):Option AV :=
 match op,x with
 | .not,.p (.bool b)=>some (.p (.bool !b))
 | .neg,.p (.int k n)=>some (.p (.int k (k.wrap (0 - n))))
 | _,_=>none
def fillK (off sz:Nat) (cells:List AV) (v:List AV):Option (List AV):=if v.length=sz∧off+sz≤cells.length then some (over off v cells) else none
def fill (cells:List AV):List (Nat × Nat × AV)→Option (List AV)
 | []=>some cells
 | (off,sz,v)::rest=>bk (bk v.cells (fillK off sz cells)) fun cs=>fill cs rest
def cellsAll:List AV→Option (List (List AV))
 | []=>some []
 | v::l=>bk v.cells fun c=>bk (cellsAll l) fun r=>some (c::r)
def sameLen (sz:Nat):List (List AV)→Bool
 | []=>true
 | c::l=>c.length==sz && sameLen sz l
def mlk (kk:Nat):List (PV × AV)→PV→Option AV
 | [],_=>none
 | (a,v)::l,k=>if scalarEqK kk a k=some true then some v else mlk kk l k
def mput (kk:Nat):List (PV × AV)→PV→AV→List (PV × AV)
 | [],k,x=>[(k,x)]
 | (a,v)::l,k,x=>if scalarEqK kk a k=some true then (k,x)::l else (a,v)::mput kk l k x
def mdel (kk:Nat):List (PV × AV)→PV→List (PV × AV)
 | [],_=>[]
 | (a,v)::l,k=>if scalarEqK kk a k=some true then l else (a,v)::mdel kk l k
inductive How where
 | as
 | freeze
 | look
 /-- a nil row, to which the callee will append -/
 | fresh (sz:Nat)
 deriving DecidableEq,Inhabited
inductive LOp where
 | move (x:LOpd)
 | nilown (z:Bool) (k sz:Nat)
 | pick (c a b:LOpd)
 | alloc (z:Bool) (k:Nat) (zero:List AV) (owns:List (Nat × Nat × Nat))
 | box (z:Bool) (k:Nat) (x:LOpd)
 | build (zero:List AV) (parts:List (Nat × Nat × LOpd))
 | row (sz:Nat) (parts:List LOpd)
 | rowOwn (z:Bool) (k sz:Nat) (parts:List LOpd)
 | load (sz:Nat) (agg:Bool) (a:LOpd)
 | store (sz:Nat) (agg:Bool) (a v:LOpd)
 | nilCheck (x:LOpd)
 | bin (op:BinOp) (x y:LOpd)
 | eq (k:TK) (neg:Bool) (x y:LOpd)
 | un (op:UnOp) (x:LOpd)
 | toInt (k:IntKind) (x:LOpd)
 | toBytes (x:LOpd)
 | toStr (isStr:Bool) (x:LOpd)
 | makeFunc (f:Nat) (caps:List LOpd)
 | makeMap (z:Bool) (k:Nat)
 | makeRow (z:Bool) (k sz bytes:Nat) (zero:List PV) (len cap:LOpd)
 | slice (isStr:Bool) (sz:Nat) (x:LOpd) (lo hi:Option LOpd)
 | fieldAddr (off:Nat) (x:LOpd)
 | field (off sz:Nat) (agg:Bool) (x:LOpd)
 | indexAddr (sz:Nat) (x i:LOpd)
 | indexArr (len sz:Nat) (x i:LOpd)
 | index (x i:LOpd)
 | lookup (kk:Nat) (zero:PV) (ok:Bool) (m key:LOpd)
 | mapUpdate (kk:Nat) (m key v:LOpd)
 | extract (x:LOpd) (ix:Nat)
 | len (k:Nat) (x:LOpd)
 | append (z:Bool) (k sz bytes:Nat) (s x:LOpd)
 | copy (sz:Nat) (d x:LOpd)
 | minI (x y:LOpd)
 | maxI (x y:LOpd)
 | delete (kk:Nat) (m key:LOpd)
 | call (f:Nat) (args:List (LOpd × How))
 | callv (f:LOpd) (args:List (LOpd × How))
 | pcall (f:Nat) (args:List (LOpd × How))
 /-- a call that leaves what is shared as it is -/
 | rcall (f:Nat) (args:List LOpd)
 /-- What is not lowered: no run of ours goes on here. -/
 | stuck
 | makeBound (f:Nat) (first:List LOpd)
 deriving Inhabited
structure LOper where
 dst:Option Nat
 op:LOp
 guard:Option (Nat × Bool):=none
 /-- The place in the text's own order. -/
 ix:Nat:=0
 /-- Reads whose order against this operation is open: they are looked at once more behind it. -/
 again:List Nat:=[]
 deriving Inhabited
def iC (n:Int):LOpd:=.c (.int .i64 n)
def oM (d s i:Nat):LOper:=⟨some d,.move (.t s),none,i,[]⟩
def oN (d:Nat) (o:LOp) (i:Nat):LOper:=⟨some d,o,none,i,[]⟩
def oG (d:Nat) (o:LOp) (g:Nat) (b:Bool) (i:Nat):LOper:=⟨some d,o,some (g,b),i,[]⟩
def byteOf:List PV→Option UInt8
 | [.int .u8 n]=>some (UInt8.ofNat n.toNat)
 | _=>none
def asInt:AV→Option (IntKind × Int)
 | .p (.int k n)=>some (k,n)
 | _=>none
mutual
def noLocal:AV→Bool
 | .ptr z .. | .own z .. | .map z _=>z
 | .func _ caps=>noLocals caps
 | .agg cs=>noLocals cs
 | .lit _=>false
 | .tuple cs=>noLocals cs
 | .bound _ cs=>noLocals cs
 | _=>true
def noLocals:List AV→Bool
 | []=>true
 | a::l=>noLocal a && noLocals l
end
def okFor (z:Bool) (xs:List (List AV)):Bool := !z || xs.all noLocals
def flat:PV→Bool
 | .list _ | .agg _=>false
 | _=>true
def frz (s : St) : AV → Option (PV × St)
  | .own z k n => match s.obj z k with
    | some (.pcells _ xs)=>if xs.length=n then some (.list xs,s.putObj z k .dead) else none
    | _=>none
  | v=>(view ⟨[],[],[]⟩ 8 v).map fun v=>(v,s)
abbrev Calls':=Nat→List AV→List AObj→Option (AV × List AObj)
def tupleOf:List PV→AV
 | [v] => .p v
 | vs => .tuple (vs.map .p)
def hand (s : St) : List (LOpd × How) → Option (List AV × St × Bool)
  | []=>some ([],s,false)
  | (x, h) :: r =>
    match h with
    | .as=>bk (hand s r) fun (l,s',b)=>some (s.arg x::l,s',b)
    | .freeze=>bk (frz s (s.arg x)) fun (v,s1)=>bk (hand s1 r) fun (l,s',b)=>some (.p v::l,s',b)
    | .look=>bk (view s 8 (s.arg x)) fun v=>bk (hand s r) fun (l,s',_)=>some (.p v::l,s',true)
    | .fresh sz => match s.arg x with
      | .p (.list [])=>bk (hand ⟨s.fr,s.l,s.g++[.pcells sz []]⟩ r) fun (l,s',b)=>some (.own true s.g.length 0::l,s',b)
      | _=>none
def pureArg:AV→Bool
 | .p _ | .rop _=>true
 | .func _ []=>true
 | _=>false
def viewT (s:St):AV→Option AV
 | .tuple vs=>(allM (view s 8) vs).map fun ps => .tuple (ps.map .p)
 | v=>(view s 8 v).map .p
def allFlat:AV→Bool
 | .p v=>flat v
 | .tuple vs=>vs.all fun | .p v=>flat v | _=>false
 | _=>false
def newOwns (z:Bool):St→List AV→List (Nat × Nat × Nat)→Option (St × List AV)
 | s,cs,[]=>some (s,cs)
 | s,cs,(c,k,sz)::r=>bk (s.newObj z k (.pcells sz [])) fun (k,s')=>newOwns z s' (cs.set c (.own z k 0)) r
def asLit (s : St) : AV → AV
  | .own z k n => match s.obj z k with
    | some (.pcells _ xs)=>if xs.length=n then .p (.list xs) else .bot
    | _ => .bot
  | v=>v
def appendTo (s : St) (z : Bool) (k n sz bytes : Nat) (o : AObj) (y : AV) : Option (AV × St) :=
  match o with
  | .pcells b xs => if b = sz ∧ xs.length = n then match y with
      | .lit ys => if (n + ys.length) * bytes ≤ 140737488355328 ∧ n + ys.length ≤ 140737488355328 ∧ ys.all (·.length == sz) then match puress ys with
          | some ps=>some (.own z k (xs++ps).length,s.putObj z k (.pcells b (xs++ps)))
          | none=>if okFor z ys=true then some (.own z k (xs.map (fun c=>c.map AV.p)++ys).length,s.putObj z k (.cells b (xs.map (fun c=>c.map AV.p)++ys))) else none
        else none
      | .p (.list ps)=>if (n+ps.length)*bytes≤140737488355328∧n+ps.length≤140737488355328∧ps.all (·.length==sz) then some (.own z k (xs++ps).length,s.putObj z k (.pcells b (xs++ps))) else none
      | .p (.str bs)=>if (n+bs.length)*bytes≤140737488355328∧n+bs.length≤140737488355328∧sz=1 then some (.own z k (xs++bs.map fun c=>[PV.int .u8 c.toNat]).length,s.putObj z k (.pcells b (xs++bs.map fun c=>[.int .u8 c.toNat]))) else none
      | _=>none
    else none
  | .cells b xs => if b = sz ∧ xs.length = n then match y with
      | .lit ys=>if (n+ys.length)*bytes≤140737488355328∧n+ys.length≤140737488355328∧ys.all (·.length==sz)∧okFor z ys=true then some (.own z k (xs++ys).length,s.putObj z k (.cells b (xs++ys))) else none
      | _=>none
    else none
  | _=>none
mutual
def PV.same:PV→PV→Bool
 | .bool a,.bool b=>a==b
 | .int k a,.int k' b=>decide (k=k') && a==b
 | .str a,.str b=>a==b
 | .nilp,.nilp=>true
 | .nilm,.nilm=>true
 | .nilf,.nilf=>true
 | .nili,.nili=>true
 | .list a,.list b=>PV.sameLL a b
 | .agg a,.agg b=>PV.sameL a b
 | _,_=>false
def PV.sameL:List PV→List PV→Bool
 | [],[]=>true
 | a::l,b::r=>PV.same a b && PV.sameL l r
 | _,_=>false
def PV.sameLL:List (List PV)→List (List PV)→Bool
 | [],[]=>true
 | a::l,b::r=>PV.sameL a b && PV.sameLL l r
 | _,_=>false
end
mutual
def AV.same:AV→AV→Bool
 | .bot,.bot=>true
 | .p a,.p b=>PV.same a b
 | .rop a,.rop b=>PV.sameL a b
 | .ptr z k sz n i j,.ptr z' k' sz' n' i' j'=>z==z' && k==k' && sz==sz' && n==n' && i==i' && j==j'
 | .own z k n,.own z' k' n'=>z==z' && k==k' && n==n'
 | .nils,.nils=>true
 | .lit a,.lit b=>AV.sameLL a b
 | .map z k,.map z' k'=>z==z' && k==k'
 | .func f a,.func f' b=>f==f' && AV.sameL a b
 | .agg a,.agg b=>AV.sameL a b
 | .tuple a,.tuple b=>AV.sameL a b
 | .bound f a,.bound f' b=>f==f' && AV.sameL a b
 | _,_=>false
def AV.sameL:List AV→List AV→Bool
 | [],[]=>true
 | a::l,b::r=>AV.same a b && AV.sameL l r
 | _,_=>false
def AV.sameLL:List (List AV)→List (List AV)→Bool
 | [],[]=>true
 | a::l,b::r=>AV.sameL a b && AV.sameLL l r
 | _,_=>false
end
def sameP:List (PV × AV)→List (PV × AV)→Bool
 | [],[]=>true
 | (a,v)::l,(b,w)::r=>PV.same a b && AV.same v w && sameP l r
 | _,_=>false
def AObj.same:AObj→AObj→Bool
 | .dead,.dead=>true
 | .pcells a x,.pcells b y=>a==b && PV.sameLL x y
 | .cells a x,.cells b y=>a==b && AV.sameLL x y
 | .map x,.map y=>sameP x y
 | .siter x a,.siter y b=>x==y && a==b
 | _,_=>false
def sameG:List AObj→List AObj→Bool
 | [],[]=>true
 | a::l,b::r=>AObj.same a b && sameG l r
 | _,_=>false
def idxAt (s:St) (z:Bool) (k sz n:Nat) (i:Int):AObj→Option (AV × St)
 | .pcells b xs=>if b=sz∧xs.length=n∧0≤i∧i<n then some (.ptr z k sz n i.toNat 0,s) else none
 | .cells b xs=>if b=sz∧xs.length=n∧0≤i∧i<n then some (.ptr z k sz n i.toNat 0,s) else none
 | _=>none
def ropRd (sz : Nat) (cs : List PV) : Bool → Option PV
  | true=>if sz≤cs.length then some (.agg (sub 0 sz cs)) else none
  | false => match cs with
    | c::_=>some c
    | []=>none
def bound (s:St) (x:Option LOpd) (d:Int):Option Int :=
 match x with
 | some l=>bk (asInt (s.arg l)) fun (_,n)=>some n
 | none=>some d
def evalOp (C : Calls') (s : St) : LOp → Option (AV × St)
  | .move x=>some (s.arg x,s)
  | .nilown z k sz=>bk (s.newObj z k (.pcells sz [])) fun (k,s)=>some (.own z k 0,s)
  | .pick c a b => match s.arg c with
    | .p (.bool c)=>some (if c then s.arg a else s.arg b,s)
    | _=>none
  | .alloc z k zero owns=>bk (newOwns z s zero owns) fun (s,zero)=>bk (s.newObj z k (objOf zero.length [zero])) fun (k,s)=>some (.ptr z k zero.length 1 0 0,s)
  | .box z k x=>bk (s.arg x).cells fun cs=>if okFor z [cs]=true then bk (s.newObj z k (objOf cs.length [cs])) fun (k,s')=>some (.ptr z k cs.length 1 0 0,s') else none
  | .build zero parts=>bk (fill zero (parts.map fun (o,n,x)=>(o,n,s.arg x))) fun cs=>some (ofCells cs,s)
  | .row sz parts=>bk (cellsAll (parts.map s.arg)) fun xs=>if sameLen sz xs=true then some (.lit xs,s) else none
  | .rowOwn z k sz parts=>bk (cellsAll (parts.map s.arg)) fun xs=>if sameLen sz xs=true∧okFor z xs=true then bk (s.newObj z k (objOf sz xs)) fun (k,s')=>some (.own z k xs.length,s') else none
  | .load sz agg a => match s.arg a with
    | .rop cs=>bk (ropRd sz cs agg) fun v=>some (.p v,s)
    | .ptr z k bs n i j=>bk (s.obj z k) fun o=>bk (o.rd sz n i j bs agg) fun v=>some (v,s)
    | _=>none
  | .store sz agg a v => match s.arg a with
    | .ptr z k bs n i j =>
      bk (s.arg v).cells fun cs=>if cs.length=sz∧okFor z [cs]=true then bk (s.obj z k) fun o=>bk (o.wr n i j bs cs) fun o=>some (.tuple [],s.putObj z k o) else none
    | _=>none
  | .nilCheck x => match s.arg x with
    | .rop cs=>some (.rop cs,s)
    | .ptr z k sz n i j=>some (.ptr z k sz n i j,s)
    | _=>none
  | .bin op x y=>bk (bin op (s.arg x) (s.arg y)) fun v=>some (v,s)
  | .eq k neg x y=>bk (avEq s k x y) fun b=>some (.p (.bool (if neg then !b else b)),s)
  | .un op x=>bk (una op (s.arg x)) fun v=>some (v,s)
  | .toInt k x=>bk (asInt (s.arg x)) fun (_,n)=>some (.p (.int k (k.wrap n)),s)
  | .toBytes x => match s.arg x with
    | .p (.str b)=>if b.length≤140737488355328 then some (.p (.list (b.map fun c=>[.int .u8 c.toNat])),s) else none
    | _=>none
  | .toStr true x => match s.arg x with
    | .p (.str b)=>some (.p (.str b),s)
    | _=>none
  | .toStr false x => match s.arg x with
    | .p (.list xs)=>bk (allM byteOf xs) fun b=>some (.p (.str b),s)
    | _=>none
  | .makeFunc f caps=>some (.func f (caps.map s.arg),s)
  | .makeMap z k=>bk (s.newObj z k (.map [])) fun (k,s)=>some (.map z k,s)
  | .makeRow z k sz bytes zero len cap=>bk (asInt (s.arg len)) fun (_,n)=>bk (asInt (s.arg cap)) fun (_,c)=>
      if 0≤n∧n≤c∧c*bytes≤140737488355328∧c≤140737488355328 then
        bk (s.newObj z k (.pcells sz (List.replicate n.toNat zero))) fun (k,s)=>some (.own z k n.toNat,s)
      else none
  | .slice true _ x lo hi => match s.arg x with
    | .p (.str b)=>bk (bound s lo 0) fun l=>bk (bound s hi b.length) fun h=>
        if 0≤l∧l≤h∧h≤b.length then some (.p (.str ((b.take h.toNat).drop l.toNat)),s) else none
    | _=>none
  | .slice false sz x lo hi => match s.arg x with
    | .p (.list xs)=>bk (bound s lo 0) fun l=>bk (bound s hi xs.length) fun h=>
        if 0≤l∧l≤h∧h≤xs.length∧(l=0∨h≤l∨(xs.getD 0 []).length=sz) then some (.p (.list ((xs.take h.toNat).drop l.toNat)),s) else none
    | .own z k n => match s.obj z k with
      | some (.pcells b xs) => bk (bound s lo 0) fun l => bk (bound s hi xs.length) fun h =>
        if b=sz∧xs.length=n∧0≤l∧l≤h∧h≤xs.length then some (.p (.list ((xs.take h.toNat).drop l.toNat)),s.putObj z k .dead) else none
      | _=>none
    | .lit ys=>bk (puress ys) fun xs=>bk (bound s lo 0) fun l=>bk (bound s hi xs.length) fun h=>
        if 0≤l∧l≤h∧h≤xs.length∧(l=0∨h≤l∨(xs.getD 0 []).length=sz) then some (.p (.list ((xs.take h.toNat).drop l.toNat)),s) else none
    | _=>none
  | .fieldAddr off x => match s.arg x with
    | .rop cs=>if off≤cs.length then some (.rop (cs.drop off),s) else none
    | .ptr z k sz n i j=>some (.ptr z k sz n i (j+off),s)
    | _=>none
  | .field off sz agg x => match s.arg x with
    | .p (.agg cs)=>if off+sz≤cs.length then some (.p (if agg then .agg (sub off sz cs) else cs.getD off .nilp),s) else none
    | .agg cs=>if off+sz≤cs.length then some (if agg then ofCells (sub off sz cs) else cs.getD off .bot,s) else none
    | _=>none
  | .indexAddr sz x i => bk (asInt (s.arg i)) fun (_, i) =>
    match s.arg x with
    | .p (.list xs)=>if 0≤i∧i<xs.length∧(xs.getD i.toNat []).length=sz then some (.rop (xs.getD i.toNat []),s) else none
    | .own z k n=>bk (s.obj z k) (idxAt s z k sz n i)
    | .lit xs => match puress xs with
      | some ps=>if 0≤i∧i<ps.length∧(ps.getD i.toNat []).length=sz then some (.rop (ps.getD i.toNat []),s) else none
      | none=>none
    | _=>none
  | .indexArr len sz x i => bk (asInt (s.arg i)) fun (_, i) =>
    if 0≤i∧i<len then match s.arg x with
      | .rop cs=>if i.toNat*sz≤cs.length then some (.rop (cs.drop (i.toNat*sz)),s) else none
      | .ptr z k b n e j=>some (.ptr z k b n e (j+i.toNat*sz),s)
      | _=>none
    else none
  | .index x i => bk (asInt (s.arg i)) fun (_, i) =>
    match s.arg x with
    | .p (.str b)=>if 0≤i∧i<b.length then some (.p (.int .u8 (b.getD i.toNat 0).toNat),s) else none
    | _=>none
  | .lookup kk zero ok m key => match s.arg key with
    | .p key=>bk (match s.arg m with | .p .nilm=>some [] | .map z k=>(match s.obj z k with | some (.map es)=>some es | _=>none) | _=>none) fun es=>
        if es.all (fun e=>(scalarEqK kk e.1 key).isSome) then
          let r:=mlk kk es key
          some (if ok then .tuple [r.getD (.p zero),.p (.bool r.isSome)] else r.getD (.p zero),s)
        else none
    | _=>none
  | .mapUpdate kk m key v => match s.arg m, s.arg key with
    | .map z k, .p key => match s.obj z k with
      | some (.map es)=>if es.all (fun e=>(scalarEqK kk e.1 key).isSome)∧(scalarEqK kk key key).isSome∧okFor z [[s.arg v]]=true then some (.tuple [],s.putObj z k (.map (mput kk es key (s.arg v)))) else none
      | _=>none
    | _,_=>none
  | .extract x ix => match s.arg x with
    | .tuple vs=>if ix<vs.length then some (vs.getD ix .bot,s) else none
    | _=>none
  | .len 0 x => match s.arg x with
    | .p (.str b)=>some (.p (.int .i64 b.length),s)
    | _=>none
  | .len 1 x => match s.arg x with
    | .p (.list xs)=>some (.p (.int .i64 xs.length),s)
    | .lit xs=>some (.p (.int .i64 xs.length),s)
    | .own z k n=>some (.p (.int .i64 n),s)
    | .nils=>some (.p (.int .i64 0),s)
    | _=>none
  | .len _ x => match s.arg x with
    | .p .nilm=>some (.p (.int .i64 0),s)
    | .map z k => match s.obj z k with
      | some (.map es)=>some (.p (.int .i64 es.length),s)
      | _=>none
    | _=>none
  | .append z k sz bytes x y => match s.arg x with
    | .own z k n=>bk (s.obj z k) fun o=>appendTo s z k n sz bytes o (asLit s (s.arg y))
    | .nils=>bk (s.newObj z k (.pcells sz [])) fun (k,s')=>appendTo s' z k 0 sz bytes (.pcells sz []) (asLit s (s.arg y))
    | _=>none
  | .copy sz d x => match s.arg d, s.arg x with
    | .own z k n, .p (.list ys) => bk (s.obj z k) fun
      | .pcells b xs=>if b=sz∧xs.length=n∧ys.all (·.length==b) then some (.p (.int .i64 (min ys.length n:Nat)),s.putObj z k (.pcells b (ys.take (min ys.length n)++xs.drop (min ys.length n)))) else none
      | _=>none
    | _,_=>none
  | .minI x y => match s.arg x, s.arg y with
    | .p (.int k a),.p (.int _ b)=>some (.p (.int k (if b<a then b else a)),s)
    | _,_=>none
  | .maxI x y => match s.arg x, s.arg y with
    | .p (.int k a),.p (.int _ b)=>some (.p (.int k (if b > a then b else a)),s)
    | _,_=>none
  | .delete kk m key => match s.arg m, s.arg key with
    | .map z k, .p key => match s.obj z k with
      | some (.map es)=>if es.all (fun e=>(scalarEqK kk e.1 key).isSome) then some (.tuple [],s.putObj z k (.map (mdel kk es key))) else none
      | _=>none
    | _,_=>none
  | .call f args=>bk (hand s args) fun (l,s',b)=>if b=false∧noLocals l=true then bk (C f l s'.g) fun (r,g)=>some (r,⟨s'.fr,s'.l,g⟩) else none
  | .callv f args => match s.arg f with
    | .func f caps=>bk (hand s args) fun (l,s',b)=>if b=false∧noLocals (l++caps)=true then bk (C f (l++caps) s'.g) fun (r,g)=>some (r,⟨s'.fr,s'.l,g⟩) else none
    | .bound f fs=>bk (hand s args) fun (l,s',b)=>if b=false∧noLocals (fs++l)=true then bk (C f (fs++l) s'.g) fun (r,g)=>some (r,⟨s'.fr,s'.l,g⟩) else none
    | _=>none
  | .pcall f args=>bk (hand s args) fun (l,s',b)=>if l.all pureArg then bk (C f l []) fun (r,g)=>bk (viewT ⟨[],[],g⟩ r) fun r=>if b=true→allFlat r=true then some (r,s') else none else none
  | .rcall f args=>if noLocals (args.map s.arg)=true then bk (C f (args.map s.arg) s.g) fun (r,g)=>if sameG g s.g=true then some (r,s) else none else none
  | .stuck=>none
  | .makeBound f fs=>some (.bound f (fs.map s.arg),s)
def opt' (s:St) (dst:Option Nat) (v:AV):St:=match dst with
 | some d=>s.set d v
 | none=>s
def putK (dst:Option Nat) (x:AV × St):Option St:=some (opt' x.2 dst x.1)
def be (x:Option (AV × St)) (dst:Option Nat):Option St:=x.bind (putK dst)
def guardK (C:Calls') (s:St) (t:Nat) (b:Bool) (o:LOper):AV→Option St
 | .p (.bool c)=>if c=b then be (evalOp C (s.set t (.p (.bool b))) o.op) o.dst else some (opt' (s.set t (.p (.bool !b))) o.dst (.tuple []))
 | .tuple _=>some (opt' s o.dst (.tuple []))
 | _=>none
def stepOp (C:Calls') (o:LOper) (s:St):Option St :=
 match o.guard with
 | none=>be (evalOp C s o.op) o.dst
 | some (t,b)=>guardK C s t b o (s.get t)
def findIx : List LOper → Nat → Option LOper
  | [],_=>none
  | x :: l, j => match x.ix == j with
    | true=>some x
    | false=>findIx l j
def sameAt (s:St):Option Nat→AV→Bool
 | some d,v=>AV.same v (s.get d)
 | none,_=>true
def againEv (s:St) (d:Option Nat):Option (AV × St)→Bool
 | some (v,_)=>sameAt s d v
 | none=>false
def againG (C : Calls') (s : St) (x : LOper) : AV → Bool
  | .p (.bool c) => match x.guard with
    | some (_,b)=>if c=b then againEv s x.dst (evalOp C s x.op) else sameAt s x.dst (.tuple [])
    | none=>false
  | .tuple _=>sameAt s x.dst (.tuple [])
  | _=>false
def againX (C:Calls') (s:St) (x:LOper):Bool:=match x.guard with
 | none=>againEv s x.dst (evalOp C s x.op)
 | some (t,_)=>againG C s x (s.get t)
def againOne (C:Calls') (done:List LOper) (s:St) (j:Nat):Bool:=match findIx done j with
 | some x=>againX C s x
 | none=>false
def againK (C:Calls') (done:List LOper) (l:List Nat) (s:St):Option St:=if l.all (againOne C done s)=true then some s else none
def stepD (C:Calls') (done:List LOper) (o:LOper) (s:St):Option St:=(stepOp C o s).bind (againK C done o.again)
def runD (C:Calls'):List LOper→List LOper→St→Option St
 | _,[],s=>some s
 | done,o::r,s=>(stepD C done o s).bind fun s'=>runD C (o::done) r s'
def runOps (C:Calls'):List LOper→St→Option St
 | [],s=>some s
 | o::r,s=>(stepOp C o s).bind fun s'=>runOps C r s'
def bo (C:Calls') (x:Option St) (r:List LOper):Option St:=x.bind fun s'=>runOps C r s'
inductive LCode where
 | skip
 /-- The operations; then all but these values and blocks is forgotten. -/
 | region (ops:List LOper) (draw:Bool) (ts ks:List Nat)
 | draw (ops:List LOper) (ts ks:List Nat)
 | seq (a b:LCode)
 | cond (c:LOpd) (a b:LCode)
 | block (id:Nat) (c:LCode)
 | loop (c:LCode)
 | exit (id:Nat)
 | ret
 /-- Forget all but these. -/
 | keep (ts ks:List Nat) (c:LCode)
 | scope (c:LCode)
 | stuck
 deriving Inhabited
def kS (ts:List Nat):LCode:=.keep ts [] .skip
def kB (ts:List Nat) (c:LCode):LCode:=.keep ts [] c
def rN (ops:List LOper) (ts:List Nat):LCode:=.region ops false ts []
def lD (x:Nat):LOp:=.load 1 false (.t x)
def fA (k x:Nat):LOp:=.fieldAddr k (.t x)
mutual
def mentions (ks:List Nat):AV→Bool
 | .ptr z k .. | .own z k _ | .map z k => !(z || ks.contains k)
 | .func _ caps=>mentionsL ks caps
 | .agg cs=>mentionsL ks cs
 | .tuple cs=>mentionsL ks cs
 | .lit xs=>mentionsLL ks xs
 | .bound _ cs=>mentionsL ks cs
 | _=>false
def mentionsL (ks:List Nat):List AV→Bool
 | []=>false
 | a::l=>mentions ks a || mentionsL ks l
def mentionsLL (ks:List Nat):List (List AV)→Bool
 | []=>false
 | a::l=>mentionsL ks a || mentionsLL ks l
end
def AObj.mentions (ks:List Nat):AObj→Bool
 | .cells _ xs=>xs.any (mentionsL ks)
 | .map es=>es.any fun e=>TA.mentions ks e.2
 | _=>false
def pickL {α : Type} [Inhabited α] (l : List (Nat × α)) : List Nat → List (Nat × α)
  | []=>[]
  | k :: r => match lk l k with
    | some v=>(k,v)::pickL l r
    | none=>pickL l r
def St.keep (s:St) (ts ks:List Nat):Option St :=
 let fr:=ts.map fun t=>(t,s.get t)
 let l:=pickL s.l ks
 if fr.any (fun e=>TA.mentions (l.map (·.1)) e.2) || l.any (fun e=>e.2.mentions (l.map (·.1))) then none else some ⟨fr,l,s.g⟩
def St.know (s:St):LOpd→Bool→St
 | .t n,b=>s.set n (.p (.bool b))
 | _,_=>s
def thenK (again:St→Option (Ex × St)):Ex × St→Option (Ex × St)
 | (.normal,s')=>again s'
 | r=>some r
def loopN (body:St→Option (Ex × St)):Nat→St→Option (Ex × St)
 | 0,_=>none
 | n+1,s=>(body s).bind (thenK (loopN body n))
def bn' (x:Option St):Option (Ex × St):=x.bind fun s=>some (.normal,s)
def bn (x:Option St) (ts ks:List Nat):Option (Ex × St):=x.bind fun s=>bn' (s.keep ts ks)
def blockK (id:Nat):Ex × St→Option (Ex × St)
 | (.exit i,s')=>if i=id then some (.normal,s') else some (.exit i,s')
 | r=>some r
def bb (x:Option (Ex × St)) (id:Nat):Option (Ex × St):=x.bind (blockK id)
def aexec (C : Calls') (n : Nat) : LCode → St → Option (Ex × St)
  | .skip,s=>some (.normal,s)
  | .region ops _ ts ks,s=>bn (runOps C ops s) ts ks
  | .draw ops ts ks,s=>bn (runD C [] ops s) ts ks
  | .seq a b,s=>(aexec C n a s).bind (thenK fun s=>aexec C n b s)
  | .cond c a b, s => match s.arg c with
    | .p (.bool x)=>if x=true then aexec C n a (s.know c true) else aexec C n b (s.know c false)
    | _=>none
  | .block id c,s=>bb (aexec C n c s) id
  | .loop c,s=>loopN (fun s=>aexec C n c s) n s
  | .exit id,s=>some (.exit id,s)
  | .ret,s=>some (.ret,s)
  | .keep ts ks c,s=>(s.keep ts ks).bind fun s=>aexec C n c s
  | .scope c,s=>aexec C n c s
  | .stuck,_=>none
def condK (C:Calls') (n:Nat) (s:St) (c:LOpd) (a b:LCode):AV→Option (Ex × St)
 | .p (.bool x)=>if x=true then aexec C n a (s.know c true) else aexec C n b (s.know c false)
 | _=>none
def bs (C:Calls') (n:Nat) (x:Option (Ex × St)) (b:LCode):Option (Ex × St):=x.bind (thenK fun s=>aexec C n b s)
def bkp (C:Calls') (n:Nat) (x:Option St) (b:LCode):Option (Ex × St):=x.bind fun s=>aexec C n b s
def aloop (C:Calls') (n:Nat) (c:LCode) (m:Nat) (s:St):Option (Ex × St):=loopN (fun s=>aexec C n c s) m s
def bl (C:Calls') (n:Nat) (c:LCode) (m:Nat) (x:Option (Ex × St)):Option (Ex × St):=x.bind (thenK fun s=>aloop C n c m s)
inductive LRes where
 | tmp (t:Nat)
 | cell (t:Nat) (sz:Nat) (agg:Bool)
 deriving Inhabited
structure LFunc where
 nparams:Nat
 results:List LRes
 /-- Are the results handed out as rows that nobody writes any more? -/
 pure:Bool
 body:LCode
 deriving Inhabited
def result1 (C:Calls') (s:St):LRes→Option AV
 | .tmp t=>some (s.get t)
 | .cell t sz agg=>bk (evalOp C s (.load sz agg (.t t))) fun (v,_)=>some v
def oneTup:List AV→AV
 | [v]=>v
 | vs => .tuple vs
def resultsOf (C : Calls') (F : LFunc) (s : St) : Option AV :=
  bk (allM (result1 C s) F.results) fun vs=>
    if F.pure then bk (allM (view s 8) vs) fun ps=>some (tupleOf ps)
    else if noLocals vs=true then some (oneTup vs) else none
def enterSt (args:List AV) (g:List AObj):St:=⟨(List.range args.length).zip args,[],g⟩
def rr (x:Option AV) (g:List AObj):Option (AV × List AObj):=x.map fun r=>(r,g)
def retK (C:Calls') (F:LFunc):Ex × St→Option (AV × List AObj)
 | (.normal,s) | (.ret,s)=>rr (resultsOf C F s) s.g
 | _=>none
def br (C:Calls') (F:LFunc) (x:Option (Ex × St)):Option (AV × List AObj):=x.bind (retK C F)
def runFn (C : Calls') (n : Nat) (F : LFunc) (args : List AV) (g : List AObj) : Option (AV × List AObj) :=
  if args.length=F.nparams then
    if F.pure=true then
      if args.all pureArg=true then (br C F (aexec C n F.body (enterSt args []))).map fun r=>(r.1,g) else none
    else br C F (aexec C n F.body (enterSt args g))
  else none
inductive LFn where
 | code (F:LFunc)
 | prim (p:Calls'→List AV→List AObj→Option (AV × List AObj))
def acallK (C:Calls') (n:Nat) (args:List AV) (g:List AObj):Option LFn→Option (AV × List AObj)
 | some (.code F)=>runFn C n F args g
 | some (.prim p)=>p C args g
 | none=>none
def acall (T:Nat→Option LFn):Nat→Calls'
 | 0,_,_,_=>none
 | n+1,f,args,g=>acallK (acall T n) n args g (T f)
end Go.TA
namespace Go.TA
def constOk:PV→Value→Bool
 | .bool a,.bool b=>a==b
 | .int k a,.int k' b=>k==k' && a==b
 | .str s,.string b=>s==b.data.toList
 | .nilp,.pointer none=>true
 | .nilm,.map none=>true
 | .nilf,.nilFunc=>true
 | .nili,.nilIface=>true
 | .list [],.slice none 0 0=>true
 | _,_=>false
def constsOk:List PV→List Value→Bool
 | [],[]=>true
 | a::l,b::r=>constOk a b && constsOk l r
 | _,_=>false
def const1:PV→Value→Bool
 | .agg cs,.agg vs=>constsOk cs vs.toList
 | a,v=>constOk a v
def opdOk:LOpd→Operand→Bool
 | .t n,.tmp m=>n==m
 | .c v,.const x=>const1 v x
 | .f f,.func f'=>f==f'
 | _,_=>false
def opdsOk:List LOpd→List Operand→Bool
 | [],[]=>true
 | a::l,b::r=>opdOk a b && opdsOk l r
 | _,_=>false
def isNilSlice:Operand→Bool
 | .const (.slice none 0 0)=>true
 | _=>false
section
variable (P:Program)
def tsize (t:TypeId):Option Nat:=(P.info? t).map (·.size)
def tbytes (t:TypeId):Option Nat:=(P.info? t).map (·.bytes)
def tzero (t:TypeId):Option (List Value):=((P.info? t).bind (·.zero)).map fun v=>v.cells.toList
def aggOk (t:TypeId) (agg:Bool):Bool:=match P.underlying t with
 | some (.struct _)=>agg
 | some (.array ..)=>agg
 | some _ => !agg
 | none=>false
def szOk (t:TypeId) (sz:Nat) (agg:Bool):Bool:=tsize P t==some sz && aggOk P t agg && (agg || sz==1)
def zeroOk (t:TypeId) (zs:List PV):Bool:=match tzero P t with
 | some vs=>constsOk zs vs && tsize P t==some zs.length
 | none=>false
def zeroAV:List AV→List Value→Bool
 | [],[]=>true
 | .p v::l,b::r=>constOk v b && zeroAV l r
 | .nils::l,.slice none 0 0::r=>zeroAV l r
 | _,_=>false
def scalarT (t:TypeId):Bool:=match P.underlying t with
 | some .bool=>true
 | some (.int _)=>true
 | some .string=>true
 | _=>false
def kindT (t:TypeId) (k:Nat):Bool:=match P.underlying t,k with
 | some .bool,0=>true
 | some (.int _),1=>true
 | some .string,2=>true
 | _,_=>false
def flatFields:List Field→Nat→List Nat→Bool
 | [],_,[]=>true
 | f::r,j,k::ks=>f.name != "_" && kindT P f.type k && f.offset==j && flatFields r (j+1) ks
 | _,_,_=>false
def eqOk (t : TypeId) : TK → Bool
  | .b=>kindT P t 0
  | .i=>kindT P t 1
  | .s=>kindT P t 2
  | .ptr=>match P.underlying t with | some (.pointer e)=>(match tsize P e with | some n=>n != 0 | none=>false) | _=>false
  | .sl=>match P.underlying t with | some (.slice _)=>true | _=>false
  | .mp=>match P.underlying t with | some (.map ..)=>true | _=>false
  | .fn=>match P.underlying t with | some (.func ..)=>true | _=>false
  | .st l => match P.underlying t with
    | some (.struct fs)=>flatFields P fs.toList 0 l && !P.stoodInHeld t && !P.eqGuardType P.depth t
    | some (.array n e)=>kindT P e (l.headD 0) && l==List.replicate n (l.headD 0) && (P.info? e).isSome && P.cellsOf e==1 && !P.eqGuardType P.depth t
    | _=>false
def calleeOk (f:Nat):Bool:=match P.funcs[f]? with
 | some fn=>fn.name != "runtime.NumGoroutine" && fn.body.isSome
 | none=>false
def partsOk (P:Program) (place:Nat→Option (Nat × Nat)):List (Nat × Nat × LOpd)→List (Nat × Operand)→Bool
 | [],[]=>true
 | (off,sz,x)::l,(i,y)::r=>place i==some (off,sz) && opdOk x y && partsOk P place l r
 | _,_=>false
def rowOk:Nat→List LOpd→List (Nat × Operand)→Bool
 | _,[],[]=>true
 | j,x::l,(i,y)::r=>i==j && opdOk x y && rowOk (j+1) l r
 | _,_,_=>false
def optOk:Option LOpd→Option Operand→Bool
 | none,none=>true
 | some x,some y=>opdOk x y
 | _,_=>false
def argsOk:List (LOpd × How)→List Operand→Bool
 | [],[]=>true
 | (x,.fresh _)::l,y::r=>isNilSlice y && opdOk x y && argsOk l r
 | (x,_)::l,y::r=>opdOk x y && argsOk l r
 | _,_=>false
def keyT (t:TypeId):Bool:=scalarT P t
def ok_move (x:LOpd):Op→Bool
 | .move y=>opdOk x y
 | .assign y=>opdOk x y
 | _=>false
def ok_nilown (z:Bool) (k sz:Nat):Op→Bool
 | .assign y=>isNilSlice y
 | .move y=>isNilSlice y
 | _=>false
def ok_pick (c a b:LOpd):Op→Bool
 | .pick c' a' b'=>opdOk c c' && opdOk a a' && opdOk b b'
 | _=>false
def ok_alloc (z:Bool) (k:Nat) (zero:List AV) (owns:List (Nat × Nat × Nat)):Op→Bool
 | .alloc t=>(match tzero P t with | some vs=>zeroAV zero vs | none=>false) && owns.all fun o=>match zero[o.1]? with | some (.p (.list []))=>true | _=>false
 | _=>false
def ok_box (z:Bool) (k:Nat) (x:LOpd):Op→Bool
 | .box t y=>opdOk x y
 | _=>false
def ok_build (zero:List AV) (parts:List (Nat × Nat × LOpd)):Op→Bool
 | .build t ps=>(match tzero P t with | some vs=>zeroAV zero vs | none=>false) && (match P.underlying t with
   | some (.struct fs)=>partsOk P (fun i=>(fs[i]?).bind fun f=>(tsize P f.type).map fun n=>(f.offset,n)) parts ps.toList && fs.all fun f=>(tsize P f.type).isSome
   | some (.array _ e)=>(match tsize P e with | some n=>partsOk P (fun i=>some (i*n,n)) parts ps.toList | none=>false)
   | _=>false)
 | _=>false
def ok_row (sz:Nat) (parts:List LOpd):Op→Bool
 | .buildSlice t n ps=>(match P.underlying t with | some (.slice e)=>tsize P e==some sz && (tzero P e).isSome && n*sz≤16777216 && n≤16777216 && parts.length==n && rowOk 0 parts ps.toList | _=>false)
 | _=>false
def ok_rowOwn (z:Bool) (k sz:Nat) (parts:List LOpd):Op→Bool
 | .buildSlice t n ps=>(match P.underlying t with | some (.slice e)=>tsize P e==some sz && (tzero P e).isSome && n*sz≤16777216 && n≤16777216 && parts.length==n && rowOk 0 parts ps.toList | _=>false)
 | _=>false
def ok_load (sz:Nat) (agg:Bool) (a:LOpd):Op→Bool
 | .load t b=>szOk P t sz agg && opdOk a b
 | _=>false
def ok_store (sz:Nat) (agg:Bool) (a v:LOpd):Op→Bool
 | .store t b u=>szOk P t sz agg && opdOk a b && opdOk v u
 | _=>false
def ok_nilCheck (x:LOpd):Op→Bool
 | .nilCheck y=>opdOk x y
 | _=>false
def ok_bin (op:BinOp) (x y:LOpd):Op→Bool
 | .binOp op' t x' y' t'=>op==op' && opdOk x x' && opdOk y y'
 | _=>false
def ok_eq (k:TK) (neg:Bool) (x y:LOpd):Op→Bool
 | .binOp op t x' y' t'=>op==(if neg then .neq else .eql) && opdOk x x' && opdOk y y' && eqOk P t k
 | _=>false
def ok_un (op:UnOp) (x:LOpd):Op→Bool
 | .unOp op' t x'=>op==op' && opdOk x x'
 | _=>false
def ok_toInt (k:IntKind) (x:LOpd):Op→Bool
 | .convert s d y=>opdOk x y && (match P.underlying s,P.underlying d with | some (.int _),some (.int k')=>k==k' | _,_=>false)
 | _=>false
def ok_toBytes (x:LOpd):Op→Bool
 | .convert s d y=>opdOk x y && (match P.underlying s,P.underlying d with | some .string,some (.slice e)=>(match P.underlying e with | some (.int .u8)=>true | _=>false) | _,_=>false)
 | _=>false
def ok_toStr (isStr:Bool) (x:LOpd):Op→Bool
 | .convert s d y=>opdOk x y && (match P.underlying s,P.underlying d with | some .string,some .string=>isStr | some (.slice e),some .string => !isStr && (match P.underlying e with | some (.int .u8)=>true | _=>false) | _,_=>false)
 | _=>false
def ok_makeFunc (f:Nat) (caps:List LOpd):Op→Bool
 | .makeFunc (.func f') first caps'=>first.size==0 && f==f' && opdsOk caps caps'.toList
 | _=>false
def ok_makeBound (f:Nat) (fs:List LOpd):Op→Bool
 | .makeFunc (.func f') first caps'=>caps'.size==0 && f==f' && opdsOk fs first.toList
 | _=>false
def ok_makeMap (z:Bool) (k:Nat):Op→Bool
 | .makeMap t r=>(match r with | none=>true | some (.const (.int _ _))=>(match P.underlying t with | some (.map ..)=>true | _=>false) | _=>false)
 | _=>false
def ok_makeRow (z:Bool) (k sz bytes:Nat) (zero:List PV) (l c:LOpd):Op→Bool
 | .makeSlice t l' c'=>(match P.underlying t with | some (.slice e)=>tsize P e==some sz && tbytes P e==some bytes && zeroOk P e zero && sz != 0 | _=>false) && opdOk l l' && opdOk c c'
 | _=>false
def ok_slice (isStr:Bool) (sz:Nat) (x:LOpd) (lo hi:Option LOpd):Op→Bool
 | .slice t x' lo' hi' none=>(match P.underlying t with | some .string=>isStr | some (.slice e) => !isStr && (tsize P e==some sz && sz != 0) | _=>false) && opdOk x x' && optOk lo lo' && optOk hi hi'
 | _=>false
def ok_fieldAddr (off:Nat) (x:LOpd):Op→Bool
 | .fieldAddr t x' f=>(match P.underlying t with | some (.struct fs)=>(match fs[f]? with | some fd=>fd.offset==off && (match tsize P fd.type with | some n=>n != 0 | none=>false) | none=>false) | _=>false) && opdOk x x'
 | _=>false
def ok_field (off sz:Nat) (agg:Bool) (x:LOpd):Op→Bool
 | .field t x' f=>(match P.underlying t with | some (.struct fs)=>(match fs[f]? with | some fd=>fd.offset==off && szOk P fd.type sz agg | none=>false) | _=>false) && opdOk x x'
 | _=>false
def ok_indexAddr (sz:Nat) (x i:LOpd):Op→Bool
 | .indexAddr t x' i'=>(match P.underlying t with | some (.slice e)=>tsize P e==some sz && sz != 0 | _=>false) && opdOk x x' && opdOk i i'
 | _=>false
def ok_indexArr (n sz:Nat) (x i:LOpd):Op→Bool
 | .indexAddr t x' i'=>(match P.underlying t with | some (.array m e)=>n==m && tsize P e==some sz && sz != 0 | _=>false) && opdOk x x' && opdOk i i'
 | _=>false
def ok_index (x i:LOpd):Op→Bool
 | .index t x' i'=>(match P.underlying t with | some .string=>true | _=>false) && opdOk x x' && opdOk i i'
 | _=>false
def ok_lookup (kk:Nat) (zero:PV) (ok:Bool) (m key:LOpd):Op→Bool
 | .lookup t m' key' ok'=>ok==ok' && (match P.underlying t with | some (.map k e)=>kindT P k kk && (match (P.info? e).bind (·.zero) with | some v=>const1 zero v | none=>false) | _=>false) && opdOk m m' && opdOk key key'
 | _=>false
def ok_mapUpdate (kk:Nat) (m key v:LOpd):Op→Bool
 | .mapUpdate t m' key' v'=>(match P.underlying t with | some (.map k _)=>kindT P k kk | _=>false) && opdOk m m' && opdOk key key' && opdOk v v'
 | .insert t m' key' v'=>(match P.underlying t with | some (.map k _)=>kindT P k kk | _=>false) && opdOk m m' && opdOk key key' && opdOk v v'
 | _=>false
def ok_extract (x:LOpd) (i:Nat):Op→Bool
 | .extract x' i'=>opdOk x x' && i==i'
 | _=>false
def ok_len (k:Nat) (x:LOpd):Op→Bool
 | .call { callee:=.builtin .len,args,argTypes }=>(match argTypes[0]? with | some t=>(match P.underlying t with | some .string=>k==0 | some (.slice _)=>k==1 | some (.map ..)=>k==2 | _=>false) | none=>false) && opdsOk [x] args.toList
 | _=>false
def ok_append (z:Bool) (k sz bytes:Nat) (x y:LOpd):Op→Bool
 | .call { callee:=.builtin .append,args,argTypes }=>(match argTypes.toList with
   | [t,u]=>(match P.underlying t with | some (.slice e)=>tsize P e==some sz && tbytes P e==some bytes && sz != 0 && (match tzero P e with | some vs=>vs.length==sz | none=>false) && (match P.underlying u with | some (.slice _)=>true | some .string=>(match P.underlying e with | some (.int .u8)=>bytes==1 | _=>false) | _=>false) | _=>false)
   | _=>false) && opdsOk [x,y] args.toList
 | _=>false
def ok_copy (sz:Nat) (x y:LOpd):Op→Bool
 | .call { callee:=.builtin .copy,args,argTypes }=>(match argTypes.toList with
   | [t,u]=>(match P.underlying t,P.underlying u with | some (.slice e),some (.slice _)=>tsize P e==some sz && sz != 0 | _,_=>false)
   | _=>false) && opdsOk [x,y] args.toList
 | _=>false
def ok_minI (x y:LOpd):Op→Bool
 | .call { callee:=.builtin .min,args,.. }=>opdsOk [x,y] args.toList
 | _=>false
def ok_maxI (x y:LOpd):Op→Bool
 | .call { callee:=.builtin .max,args,.. }=>opdsOk [x,y] args.toList
 | _=>false
def ok_delete (kk:Nat) (m key:LOpd):Op→Bool
 | .call { callee:=.builtin .delete,args,argTypes }=>(match argTypes[0]? with | some t=>(match P.underlying t with | some (.map k _)=>kindT P k kk | _=>false) | none=>false) && opdsOk [m,key] args.toList
 | _=>false
def ok_call (f:Nat) (l:List (LOpd × How)):Op→Bool
 | .call { callee:=.value (.func f'),args,.. }=>f==f' && argsOk l args.toList
 | _=>false
def ok_pcall (f:Nat) (l:List (LOpd × How)):Op→Bool
 | .call { callee:=.value (.func f'),args,.. }=>f==f' && argsOk l args.toList
 | _=>false
def ok_rcall (f:Nat) (l:List LOpd) (o:Op):Bool:=ok_call f (l.map fun x=>(x,How.as)) o
def ok_callv (f:LOpd) (l:List (LOpd × How)):Op→Bool
 | .call { callee:=.value f',args,.. }=>opdOk f f' && argsOk l args.toList
 | _=>false
def opOk:LOp→Op→Bool
 | .move x=>ok_move x
 | .nilown z k sz=>ok_nilown z k sz
 | .pick c a b=>ok_pick c a b
 | .alloc z k zero owns=>ok_alloc P z k zero owns
 | .box z k x=>ok_box z k x
 | .build zero parts=>ok_build P zero parts
 | .row sz parts=>ok_row P sz parts
 | .rowOwn z k sz parts=>ok_rowOwn P z k sz parts
 | .load sz agg a=>ok_load P sz agg a
 | .store sz agg a v=>ok_store P sz agg a v
 | .nilCheck x=>ok_nilCheck x
 | .bin op x y=>ok_bin op x y
 | .eq k neg x y=>ok_eq P k neg x y
 | .un op x=>ok_un op x
 | .toInt k x=>ok_toInt P k x
 | .toBytes x=>ok_toBytes P x
 | .toStr b x=>ok_toStr P b x
 | .makeFunc f caps=>ok_makeFunc f caps
 | .makeMap z k=>ok_makeMap P z k
 | .makeRow z k sz bytes zero l c=>ok_makeRow P z k sz bytes zero l c
 | .slice b sz x lo hi=>ok_slice P b sz x lo hi
 | .fieldAddr off x=>ok_fieldAddr P off x
 | .field off sz agg x=>ok_field P off sz agg x
 | .indexAddr sz x i=>ok_indexAddr P sz x i
 | .indexArr n sz x i=>ok_indexArr P n sz x i
 | .index x i=>ok_index P x i
 | .lookup kk zero ok m key=>ok_lookup P kk zero ok m key
 | .mapUpdate kk m key v=>ok_mapUpdate P kk m key v
 | .extract x i=>ok_extract x i
 | .len k x=>ok_len P k x
 | .append z k sz bytes x y=>ok_append P z k sz bytes x y
 | .copy sz x y=>ok_copy P sz x y
 | .minI x y=>ok_minI x y
 | .maxI x y=>ok_maxI x y
 | .delete kk m key=>ok_delete P kk m key
 | .call f l=>ok_call f l
 | .pcall f l=>ok_pcall f l
 | .callv f l=>ok_callv f l
 | .rcall f l=>ok_rcall f l
 | .stuck=>fun _=>true
 | .makeBound f fs=>ok_makeBound f fs
end
end Go.TA


end
section
/- How the abstract machine is run on values that are not known whole: the equations, and how two ways become one again. -/
namespace Go.TA
def bod (C:Calls') (d:List LOper) (o:LOper) (r:List LOper) (x:Option St):Option St:=x.bind fun s'=>runD C (o::d) r s'
section
variable {C:Calls'} {n:Nat} {s:St}
theorem bod_some (d:List LOper) (o:LOper) (r:List LOper) (s:St):bod C d o r (some s)=runD C (o::d) r s:=rfl
theorem runOps_nil:runOps C [] s=some s:=rfl
theorem runOps_cons (o:LOper) (r:List LOper):runOps C (o::r) s=bo C (stepOp C o s) r:=rfl
theorem bo_some (s:St) (r:List LOper):bo C (some s) r=runOps C r s:=rfl
theorem bo_none (r:List LOper):bo C none r=none:=rfl
theorem bo_ite (c:Prop) [Decidable c] (x y:Option St) (r:List LOper):bo C (if c then x else y) r=if c then bo C x r else bo C y r:=by split <;> rfl
theorem be_some (v:AV) (s:St) (d:Option Nat):be (some (v,s)) d=some (opt' s d v):=rfl
theorem be_none (d:Option Nat):be none d=none:=rfl
theorem be_ite (c:Prop) [Decidable c] (x y:Option (AV × St)) (d:Option Nat):be (if c then x else y) d=if c then be x d else be y d:=by split <;> rfl
theorem bn_some (s:St) (ts ks:List Nat):bn (some s) ts ks=bn' (s.keep ts ks):=rfl
theorem bn_none (ts ks:List Nat):bn none ts ks=none:=rfl
theorem bn_ite (c:Prop) [Decidable c] (x y:Option St) (ts ks:List Nat):bn (if c then x else y) ts ks=if c then bn x ts ks else bn y ts ks:=by split <;> rfl
theorem bn'_some (s:St):bn' (some s)=some (.normal,s):=rfl
theorem aexec_skip:aexec C n .skip s=some (.normal,s):=rfl
theorem aexec_region (ops:List LOper) (d:Bool) (ts ks:List Nat):aexec C n (.region ops d ts ks) s=bn (runOps C ops s) ts ks:=rfl
theorem aexec_draw (ops:List LOper) (ts ks:List Nat):aexec C n (.draw ops ts ks) s=bn (runD C [] ops s) ts ks:=rfl
theorem runD_nil (d:List LOper):runD C d [] s=some s:=rfl
theorem runD_cons' (d:List LOper) (o:LOper) (r:List LOper):runD C d (o::r) s=bod C d o r (stepD C d o s):=rfl
theorem aexec_seq (a b:LCode):aexec C n (.seq a b) s=bs C n (aexec C n a s) b:=rfl
theorem aexec_block (id:Nat) (c:LCode):aexec C n (.block id c) s=bb (aexec C n c s) id:=rfl
theorem aexec_loop (c:LCode):aexec C n (.loop c) s=aloop C n c n s:=rfl
theorem aexec_exit (id:Nat):aexec C n (.exit id) s=some (.exit id,s):=rfl
theorem aexec_ret:aexec C n .ret s=some (.ret,s):=rfl
theorem aexec_keep (ts ks:List Nat) (c:LCode):aexec C n (.keep ts ks c) s=bkp C n (s.keep ts ks) c:=rfl
theorem aexec_cond (c:LOpd) (a b:LCode):aexec C n (.cond c a b) s=condK C n s c a b (s.arg c):=rfl
theorem condK_bool (c:LOpd) (a b:LCode) (x:Bool):condK C n s c a b (.p (.bool x))=if x=true then aexec C n a (s.know c true) else aexec C n b (s.know c false):=rfl
theorem bs_normal (s:St) (b:LCode):bs C n (some (.normal,s)) b=aexec C n b s:=rfl
theorem bs_ret (s:St) (b:LCode):bs C n (some (.ret,s)) b=some (.ret,s):=rfl
theorem bs_exit (i:Nat) (s:St) (b:LCode):bs C n (some (.exit i,s)) b=some (.exit i,s):=rfl
theorem bs_none (b:LCode):bs C n none b=none:=rfl
theorem bs_ite (c:Prop) [Decidable c] (x y:Option (Ex × St)) (b:LCode):bs C n (if c then x else y) b=if c then bs C n x b else bs C n y b:=by split <;> rfl
theorem bkp_some (s:St) (b:LCode):bkp C n (some s) b=aexec C n b s:=rfl
theorem bb_normal (s:St) (id:Nat):bb (some (.normal,s)) id=some (.normal,s):=rfl
theorem bb_ret (s:St) (id:Nat):bb (some (.ret,s)) id=some (.ret,s):=rfl
theorem bb_exit (i:Nat) (s:St) (id:Nat):bb (some (.exit i,s)) id=if i=id then some (.normal,s) else some (.exit i,s):=rfl
theorem bb_none (id:Nat):bb none id=none:=rfl
theorem bb_ite (c:Prop) [Decidable c] (x y:Option (Ex × St)) (id:Nat):bb (if c then x else y) id=if c then bb x id else bb y id:=by split <;> rfl
theorem aloop_succ (c:LCode) (m:Nat):aloop C n c (m+1) s=bl C n c m (aexec C n c s):=rfl
theorem bl_normal (c:LCode) (m:Nat) (s:St):bl C n c m (some (.normal,s))=aloop C n c m s:=rfl
theorem bl_ret (c:LCode) (m:Nat) (s:St):bl C n c m (some (.ret,s))=some (.ret,s):=rfl
theorem bl_exit (c:LCode) (m i:Nat) (s:St):bl C n c m (some (.exit i,s))=some (.exit i,s):=rfl
theorem bl_none (c:LCode) (m:Nat):bl C n c m none=none:=rfl
theorem bl_ite (c:Prop) [Decidable c] (x y:Option (Ex × St)) (b:LCode) (m:Nat):bl C n b m (if c then x else y)=if c then bl C n b m x else bl C n b m y:=by split <;> rfl
theorem br_ret (F:LFunc) (s:St):br C F (some (.ret,s))=rr (resultsOf C F s) s.g:=rfl
theorem br_normal (F:LFunc) (s:St):br C F (some (.normal,s))=rr (resultsOf C F s) s.g:=rfl
theorem br_none (F:LFunc):br C F none=none:=rfl
theorem br_ite (F:LFunc) (c:Prop) [Decidable c] (x y:Option (Ex × St)):br C F (if c then x else y)=if c then br C F x else br C F y:=by split <;> rfl
theorem rr_some (r:AV) (g:List AObj):rr (some r) g=some (r,g):=rfl
end
section
variable {T:Nat→Option LFn} {n f:Nat} {F:LFunc} {args:List AV} {g:List AObj} {C:Calls'}
theorem acall_code (h:T f=some (.code F)):acall T (n+1) f args g=runFn (acall T n) n F args g:=by rw [acall,h];rfl
theorem acall_prim {p:Calls'→List AV→List AObj→Option (AV × List AObj)} (h:T f=some (.prim p)):acall T (n+1) f args g=p (acall T n) args g:=by rw [acall,h];rfl
def rg (x:Option (AV × List AObj)) (g:List AObj):Option (AV × List AObj):=x.map fun r=>(r.1,g)
theorem rg_some (r:AV) (g0 g:List AObj):rg (some (r,g0)) g=some (r,g):=rfl
theorem rg_none (g:List AObj):rg none g=none:=rfl
theorem rg_ite (c:Prop) [Decidable c] (x y:Option (AV × List AObj)):rg (if c then x else y) g=if c then rg x g else rg y g:=by split <;> rfl
theorem run_pure (hp:F.pure=true) (hl:args.length=F.nparams) (ha:args.all pureArg=true):runFn C n F args g=rg (br C F (aexec C n F.body (enterSt args []))) g:=by
 unfold runFn;rw [if_pos hl,if_pos hp,if_pos ha];rfl
theorem run_code (hp:F.pure=false) (hl:args.length=F.nparams):runFn C n F args g=br C F (aexec C n F.body (enterSt args g)):=by
 unfold runFn;rw [if_pos hl,hp,if_neg (by simp)]
end
theorem idx_p (s:St) (z:Bool) (k sz n:Nat) (i:Int) (b:Nat) (xs:List (List PV)):idxAt s z k sz n i (.pcells b xs)=if b=sz∧xs.length=n∧0≤i∧i<n then some (.ptr z k sz n i.toNat 0,s) else none:=rfl
theorem idx_c (s:St) (z:Bool) (k sz n:Nat) (i:Int) (b:Nat) (xs:List (List AV)):idxAt s z k sz n i (.cells b xs)=if b=sz∧xs.length=n∧0≤i∧i<n then some (.ptr z k sz n i.toNat 0,s) else none:=rfl
theorem rd_p (sz n i j bs:Nat) (agg:Bool) (b:Nat) (xs:List (List PV)):AObj.rd sz n i j bs agg (.pcells b xs)=if b=bs∧xs.length=n∧i<n∧j+sz≤bs then some (.p (if agg then .agg (sub j sz (xs.getD i [])) else ((xs.getD i []).getD j .nilp))) else none:=rfl
theorem rd_c (sz n i j bs:Nat) (agg:Bool) (b:Nat) (xs:List (List AV)):AObj.rd sz n i j bs agg (.cells b xs)=if b=bs∧xs.length=n∧i<n∧j+sz≤bs then some (if agg then ofCells (sub j sz (xs.getD i [])) else ((xs.getD i []).getD j .bot)) else none:=rfl
theorem wr_p (n i j bs:Nat) (new:List AV) (b:Nat) (xs:List (List PV)):AObj.wr n i j bs new (.pcells b xs)=if b=bs∧xs.length=n∧i<n∧j+new.length≤bs then match pures new with
   | some ps=>some (.pcells b (xs.set i (over j ps (xs.getD i []))))
   | none=>some (.cells b ((xs.map (fun c=>c.map AV.p)).set i (over j new ((xs.getD i []).map .p)))) else none:=rfl
theorem wr_c (n i j bs:Nat) (new:List AV) (b:Nat) (xs:List (List AV)):AObj.wr n i j bs new (.cells b xs)=if b=bs∧xs.length=n∧i<n∧j+new.length≤bs then some (.cells b (xs.set i (over j new (xs.getD i [])))) else none:=rfl
theorem app_p (s : St) (z : Bool) (k n sz bytes b : Nat) (xs : List (List PV)) (y : AV) : appendTo s z k n sz bytes (.pcells b xs) y = if b = sz ∧ xs.length = n then match y with
      | .lit ys => if (n + ys.length) * bytes ≤ 140737488355328 ∧ n + ys.length ≤ 140737488355328 ∧ ys.all (·.length == sz) then match puress ys with
          | some ps=>some (.own z k (xs++ps).length,s.putObj z k (.pcells b (xs++ps)))
          | none=>if okFor z ys=true then some (.own z k (xs.map (fun c=>c.map AV.p)++ys).length,s.putObj z k (.cells b (xs.map (fun c=>c.map AV.p)++ys))) else none
        else none
      | .p (.list ps)=>if (n+ps.length)*bytes≤140737488355328∧n+ps.length≤140737488355328∧ps.all (·.length==sz) then some (.own z k (xs++ps).length,s.putObj z k (.pcells b (xs++ps))) else none
      | .p (.str bs)=>if (n+bs.length)*bytes≤140737488355328∧n+bs.length≤140737488355328∧sz=1 then some (.own z k (xs++bs.map fun c=>[PV.int .u8 c.toNat]).length,s.putObj z k (.pcells b (xs++bs.map fun c=>[.int .u8 c.toNat]))) else none
      | _=>none
    else none:=rfl
theorem app_c (s:St) (z:Bool) (k n sz bytes b:Nat) (xs:List (List AV)) (y:AV):appendTo s z k n sz bytes (.cells b xs) y=if b=sz∧xs.length=n then match y with
   | .lit ys=>if (n+ys.length)*bytes≤140737488355328∧n+ys.length≤140737488355328∧ys.all (·.length==sz)∧okFor z ys=true then some (.own z k (xs++ys).length,s.putObj z k (.cells b (xs++ys))) else none
   | _=>none
  else none:=rfl
section
variable {c:Prop} [Decidable c]
theorem m_none {α : Type}:(if c then (none:Option α) else none)=none:=by split <;> rfl
theorem m_some (e:Ex) (a b:St):(if c then some (e,a) else some (e,b))=some (e,if c then a else b):=by split <;> rfl
theorem m_st (f f' l l' g g'):(if c then (⟨f,l,g⟩:St) else ⟨f',l',g'⟩)=⟨if c then f else f',if c then l else l',if c then g else g'⟩:=by split <;> rfl
theorem m_fr (t:Nat) (a b:AV) (l m:List (Nat × AV)):(if c then (t,a)::l else (t,b)::m)=(t,if c then a else b)::(if c then l else m):=by split <;> rfl
theorem m_lo (t:Nat) (a b:AObj) (l m:List (Nat × AObj)):(if c then (t,a)::l else (t,b)::m)=(t,if c then a else b)::(if c then l else m):=by split <;> rfl
theorem m_p (a b:PV):(if c then AV.p a else AV.p b) = .p (if c then a else b):=by split <;> rfl
theorem m_own (z:Bool) (k a b:Nat):(if c then AV.own z k a else AV.own z k b) = .own z k (if c then a else b):=by split <;> rfl
theorem m_bool (a b:Bool):(if c then PV.bool a else PV.bool b) = .bool (if c then a else b):=by split <;> rfl
theorem m_int (k:IntKind) (a b:Int):(if c then PV.int k a else PV.int k b) = .int k (if c then a else b):=by split <;> rfl
theorem m_str (a b:List UInt8):(if c then PV.str a else PV.str b) = .str (if c then a else b):=by split <;> rfl
theorem m_list (a b:List (List PV)):(if c then PV.list a else PV.list b) = .list (if c then a else b):=by split <;> rfl
theorem m_pcells (k:Nat) (a b:List (List PV)):(if c then AObj.pcells k a else AObj.pcells k b) = .pcells k (if c then a else b):=by split <;> rfl
theorem m_length {α : Type} (a b:List α):(if c then a else b).length=if c then a.length else b.length:=by split <;> rfl
theorem m_and (x y:Bool):(if x=true then y else false)=(x && y):=by cases x <;> rfl
theorem m_or (x y:Bool):(if x=true then true else y)=(x || y):=by cases x <;> rfl
theorem seq_b (a b:Bool):scalarEqK 0 (.bool a) (.bool b)=some (a==b):=rfl
theorem seq_i (k:IntKind) (a b:Int):scalarEqK 1 (.int k a) (.int k b)=some (a==b):=by simp [scalarEqK]
theorem seq_s (a b:List UInt8):scalarEqK 2 (.str a) (.str b)=some (a==b):=rfl
end
end Go.TA


end
section
/- The program's data, as Lean has them. -/
namespace Go.TA
abbrev Bs:=List UInt8
structure Attr where
 name:Bs
 value:Bs
 deriving DecidableEq
def Attr.pv (a:Attr):List PV:=[.str a.name,.str a.value]
structure GOp where
 kind:Int
 node:Int
 up:Int
 before:Int
 tag:Bs
 key:Bs
 name:Bs
 text:Bs
 attrs:List Attr
 deriving DecidableEq
def attrsPV (l:List Attr):PV:=.list (l.map Attr.pv)
def GOp.pv (x:GOp):List PV:=[.int .i64 x.kind,.int .i64 x.node,.int .i64 x.up,.int .i64 x.before,.str x.tag,.str x.key,.str x.name,.str x.text,attrsPV x.attrs]
def attrsLeft:List Attr→Int→Int
 | [],left=>left
 | a::l,left=>attrsLeft l (left - ((a.value.length:Int)+a.name.length).tdiv 4096)
def fewOpsL : List GOp → Int → Option Int
  | [],left=>some left
  | x :: l, left => if left - 1 - x.attrs.length - ((x.text.length : Int) + x.key.length + x.tag.length + x.name.length).tdiv 4096 < 0 then none
    else fewOpsL l (attrsLeft x.attrs (left - 1 - x.attrs.length - ((x.text.length:Int)+x.key.length+x.tag.length+x.name.length).tdiv 4096))
def fewOps (l:List GOp) (most:Int):Bool:=match fewOpsL l most with
 | some n=>decide (n ≥ 0)
 | none=>false
theorem wrap_id {x:Int} (h1 : -9223372036854775808≤x) (h2:x≤9223372036854775807):IntKind.i64.wrap x=x:=by
 have:∀ y:Int,IntKind.i64.wrap y=if 9223372036854775808≤y % 18446744073709551616 then y % 18446744073709551616 - 18446744073709551616 else y % 18446744073709551616:=by
  intro y
  simp [IntKind.wrap,IntKind.signed,IntKind.bits]
 rw [this]
 split <;> omega
end Go.TA


end
section
/- Loops by a state, and small facts that all proofs use. -/
namespace Go.TA
theorem loop_rule {C:Calls'} {N:Nat} {B:LCode} {σ : Type} (S : σ → St) (I : σ → Prop) (μ : σ → Nat) (Φ : σ → Ex × St)
    (h:∀ s,I s→(∃ s',aexec C N B (S s)=some (.normal,S s')∧I s' ∧ μ s' < μ s ∧ Φ s = Φ s')∨(aexec C N B (S s)=some (Φ s)∧(Φ s).1 ≠ .normal)) :
    ∀ (m:Nat) (s : σ),I s → μ s<m→aloop C N B m (S s)=some (Φ s):=by
  intro m
  induction m with
  | zero=>intro s _ hm;omega
  | succ m ih =>
    intro s hI hm
    rw [aloop_succ]
    rcases h s hI with ⟨s',h1,h2,h3,h4⟩ | ⟨h1,h2⟩
    · rw [h1,bl_normal,ih s' h2 (by omega),h4]
    · rw [h1]
      generalize Φ s=r at h2
      obtain ⟨e,t⟩:=r
      cases e with
      | normal=>exact absurd rfl h2
      | exit i=>exact bl_exit B m i t
      | ret=>exact bl_ret B m t
theorem loop_rule' {C:Calls'} {N:Nat} {B:LCode} {σ : Type} (S : σ → St) (I : σ → Prop) (μ : σ → Nat) (Φ : σ → Ex × St)
  (h:∀ s,I s→(∃ s',aexec C N B (S s)=some (.normal,S s')∧I s' ∧ μ s' < μ s ∧ Φ s = Φ s')∨(aexec C N B (S s)=some (Φ s)∧(Φ s).1 ≠ .normal))
  (s : σ) (hI:I s) (hm : μ s<N):aexec C N (.loop B) (S s)=some (Φ s):=by
 rw [aexec_loop];exact loop_rule S I μ Φ h N s hI hm
theorem loop_inv {C : Calls'} {N : Nat} {B : LCode} {σ : Type} (S : σ → St) (I : σ → Prop) (μ : σ → Nat) (Q : Ex × St → Prop)
    (h:∀ s,I s→(∃ s',aexec C N B (S s)=some (.normal,S s')∧I s' ∧ μ s' < μ s)∨(∃ r,aexec C N B (S s)=some r∧r.1 ≠ .normal∧Q r))
    (s : σ) (hI:I s) (hm : μ s<N):∃ r,aexec C N (.loop B) (S s)=some r∧Q r:=by
  rw [aexec_loop]
  have key:∀ (m:Nat) (s : σ),I s → μ s<m→∃ r,aloop C N B m (S s)=some r∧Q r:=by
    intro m
    induction m with
    | zero=>intro s _ hm;omega
    | succ m ih =>
      intro s hI hm
      rw [aloop_succ]
      rcases h s hI with ⟨s',h1,h2,h3⟩ | ⟨⟨e,t⟩,h1,h2,h3⟩
      · rw [h1,bl_normal]
        exact ih s' h2 (by omega)
      · rw [h1]
        cases e with
        | normal=>exact absurd rfl h2
        | exit i=>exact ⟨_,bl_exit B m i t,h3⟩
        | ret=>exact ⟨_,bl_ret B m t,h3⟩
  exact key N s hI hm
theorem getD_map {α : Type} {f : α → List PV} {l:List α} {i:Nat} {x : α} (h:l[i]? = some x):(l.map f).getD i []=f x:=by
 rw [List.getD_eq_getElem?_getD,List.getElem?_map,h];rfl
theorem get_some {α : Type} {l:List α} {i:Nat} (h:i<l.length):∃ x,l[i]? = some x:=⟨l[i],by simp [h]⟩
end Go.TA


end
section
/- The equations of a run, all in one. -/
namespace Go.TA
theorem q0:∀ w,mentions w .bot=false:=by intros;rfl
theorem q1:noLocal .bot=true:=by intros;rfl
theorem q2:∀ w,∀ y0,mentions w (.p y0)=false:=by intros;rfl
theorem q3:∀ y0,noLocal (.p y0)=true:=by intros;rfl
theorem q4:∀ w,∀ y0,mentions w (.rop y0)=false:=by intros;rfl
theorem q5:∀ y0,noLocal (.rop y0)=true:=by intros;rfl
theorem q6:∀ w,mentions w .nils=false:=by intros;rfl
theorem q7:noLocal .nils=true:=by intros;rfl
theorem q8:∀ w ,AObj.mentions w (.dead)=false:=by intros;rfl
theorem q9:∀ w s x,AObj.mentions w (.pcells s x)=false:=by intros;rfl
theorem q10:∀ w s p,AObj.mentions w (.siter s p)=false:=by intros;rfl
theorem q11:∀ (s:St) v b,s.know (.c v) b=s:=by intros;rfl
theorem q12:∀ k a b,bin .add (.p (.int k a)) (.p (.int k b))=(binI .add k a b).map .p:=by intros;simp [bin]
theorem q13:∀ k a b,bin .sub (.p (.int k a)) (.p (.int k b))=(binI .sub k a b).map .p:=by intros;simp [bin]
theorem q14:∀ k a b,bin .mul (.p (.int k a)) (.p (.int k b))=(binI .mul k a b).map .p:=by intros;simp [bin]
theorem q15:∀ k a b,bin .quo (.p (.int k a)) (.p (.int k b))=(binI .quo k a b).map .p:=by intros;simp [bin]
theorem q16:∀ k a b,bin .rem (.p (.int k a)) (.p (.int k b))=(binI .rem k a b).map .p:=by intros;simp [bin]
theorem q17:∀ k a b,bin .and (.p (.int k a)) (.p (.int k b))=(binI .and k a b).map .p:=by intros;simp [bin]
theorem q18:∀ k a b,bin .or (.p (.int k a)) (.p (.int k b))=(binI .or k a b).map .p:=by intros;simp [bin]
theorem q19:∀ k a b,bin .xor (.p (.int k a)) (.p (.int k b))=(binI .xor k a b).map .p:=by intros;simp [bin]
theorem q20:∀ k a b,bin .lss (.p (.int k a)) (.p (.int k b))=(binI .lss k a b).map .p:=by intros;simp [bin]
theorem q21:∀ k a b,bin .leq (.p (.int k a)) (.p (.int k b))=(binI .leq k a b).map .p:=by intros;simp [bin]
theorem q22:∀ k a b,bin .gtr (.p (.int k a)) (.p (.int k b))=(binI .gtr k a b).map .p:=by intros;simp [bin]
theorem q23:∀ k a b,bin .geq (.p (.int k a)) (.p (.int k b))=(binI .geq k a b).map .p:=by intros;simp [bin]
theorem q24:∀ a b,bin .add (.p (.str a)) (.p (.str b))=(binS .add a b).map .p:=by intros;rfl
theorem q25:∀ a b,bin .lss (.p (.str a)) (.p (.str b))=(binS .lss a b).map .p:=by intros;rfl
theorem q26:∀ a b,bin .leq (.p (.str a)) (.p (.str b))=(binS .leq a b).map .p:=by intros;rfl
theorem q27:∀ a b,bin .gtr (.p (.str a)) (.p (.str b))=(binS .gtr a b).map .p:=by intros;rfl
theorem q28:∀ a b,bin .geq (.p (.str a)) (.p (.str b))=(binS .geq a b).map .p:=by intros;rfl
theorem q29:∀ s x y,avEq s .sl x y=if isNilC .sl y=true then isNil s .sl (s.arg x) else if isNilC .sl x=true then isNil s .sl (s.arg y) else none:=by intros;rfl
theorem q30:∀ n,isNilC .sl (.t n)=false:=by intros;rfl
theorem q31:∀ s x y,avEq s .mp x y=if isNilC .mp y=true then isNil s .mp (s.arg x) else if isNilC .mp x=true then isNil s .mp (s.arg y) else none:=by intros;rfl
theorem q32:∀ n,isNilC .mp (.t n)=false:=by intros;rfl
theorem q33:∀ s x y,avEq s .fn x y=if isNilC .fn y=true then isNil s .fn (s.arg x) else if isNilC .fn x=true then isNil s .fn (s.arg y) else none:=by intros;rfl
theorem q34:∀ n,isNilC .fn (.t n)=false:=by intros;rfl
theorem q35:∀ s d v,view s (d+1) (.p v)=some v:=by intros;rfl
theorem q36:∀ s d,view s (d+1) .nils=some (.list []):=by intros;rfl
theorem q37:∀ s,∀ y0,viewT s (.p y0)=(view s 8 (.p y0)).map .p:=by intros;rfl
theorem q38:∀ s,viewT s .nils=(view s 8 .nils).map .p:=by intros;rfl
theorem q39:∀ s,∀ y0 y1 y2,viewT s (.own y0 y1 y2)=(view s 8 (.own y0 y1 y2)).map .p:=by intros;rfl
theorem q40:∀ s,∀ y0,viewT s (.agg y0)=(view s 8 (.agg y0)).map .p:=by intros;rfl
theorem q41:∀ s,∀ y0,viewT s (.lit y0)=(view s 8 (.lit y0)).map .p:=by intros;rfl
theorem q42:tupleOf []=.tuple []:=by intros;rfl
theorem q43:∀ a b r,tupleOf (a::b::r)=.tuple ((a::b::r).map .p):=by intros;rfl
theorem q44:oneTup []=.tuple []:=by intros;rfl
theorem q45:∀ a b r,oneTup (a::b::r)=.tuple (a::b::r):=by intros;rfl
theorem q46:∀ y0 y1 y2 y3 y4 y5,allFlat (.ptr y0 y1 y2 y3 y4 y5)=false:=by intros;rfl
theorem q47:∀ y0 y1 y2,allFlat (.own y0 y1 y2)=false:=by intros;rfl
theorem q48:allFlat .nils=false:=by intros;rfl
theorem q49:∀ y0,allFlat (.lit y0)=false:=by intros;rfl
theorem q50:∀ y0 y1,allFlat (.map y0 y1)=false:=by intros;rfl
theorem q51:∀ y0,allFlat (.agg y0)=false:=by intros;rfl
theorem q52:∀ y0,flat (.bool y0)=true:=by intros;rfl
theorem q53:∀ y0,AV.cells (.p (.bool y0))=some [.p (.bool y0)]:=by intros;rfl
theorem q54:∀ y0 y1,flat (.int y0 y1)=true:=by intros;rfl
theorem q55:∀ y0 y1,AV.cells (.p (.int y0 y1))=some [.p (.int y0 y1)]:=by intros;rfl
theorem q56:∀ y0,flat (.str y0)=true:=by intros;rfl
theorem q57:∀ y0,AV.cells (.p (.str y0))=some [.p (.str y0)]:=by intros;rfl
theorem q58:flat .nilp=true:=by intros;rfl
theorem q59:AV.cells (.p .nilp)=some [.p .nilp]:=by intros;rfl
theorem q60:flat .nilm=true:=by intros;rfl
theorem q61:AV.cells (.p .nilm)=some [.p .nilm]:=by intros;rfl
theorem q62:flat .nilf=true:=by intros;rfl
theorem q63:AV.cells (.p .nilf)=some [.p .nilf]:=by intros;rfl
theorem q64:flat .nili=true:=by intros;rfl
theorem q65:AV.cells (.p .nili)=some [.p .nili]:=by intros;rfl
theorem q66:∀ x,AV.cells (.p (.list x))=some [.p (.list x)]:=by intros;rfl
theorem q67:∀ y0,AV.cells (.rop y0)=some [(.rop y0)]:=by intros;rfl
theorem q68:∀ y0 y1 y2 y3 y4 y5,AV.cells (.ptr y0 y1 y2 y3 y4 y5)=some [(.ptr y0 y1 y2 y3 y4 y5)]:=by intros;rfl
theorem q69:∀ y0 y1 y2,AV.cells (.own y0 y1 y2)=some [(.own y0 y1 y2)]:=by intros;rfl
theorem q70:AV.cells .nils=some [.nils]:=by intros;rfl
theorem q71:∀ y0,AV.cells (.lit y0)=some [(.lit y0)]:=by intros;rfl
theorem q72:∀ y0 y1,AV.cells (.map y0 y1)=some [(.map y0 y1)]:=by intros;rfl
theorem q73:∀ y0 y1,AV.cells (.func y0 y1)=some [(.func y0 y1)]:=by intros;rfl
theorem q74:∀ C s k x,evalOp C s (.len (k+2) x)=match s.arg x with
|.p .nilm=>some (.p (.int .i64 0),s)
|.map z k=>match s.obj z k with
 |some (.map es)=>some (.p (.int .i64 es.length),s)
 |_=>none
|_=>none:=by intros;rfl
theorem q75:∀ (f:AV→AV→AV) x,List.zipWith f [] x=[]:=by intros;rfl
theorem q76:∀  w,pures (.bot::w)=none:=by intros;rfl
theorem q77:∀ y0 w,pures ((.rop y0)::w)=none:=by intros;rfl
theorem q78:∀ y0 y1 y2 y3 y4 y5 w,pures ((.ptr y0 y1 y2 y3 y4 y5)::w)=none:=by intros;rfl
theorem q79:∀ y0 y1 y2 w,pures ((.own y0 y1 y2)::w)=none:=by intros;rfl
theorem q80:∀  w,pures (.nils::w)=none:=by intros;rfl
theorem q81:∀ y0 w,pures ((.lit y0)::w)=none:=by intros;rfl
theorem q82:∀ y0 y1 w,pures ((.map y0 y1)::w)=none:=by intros;rfl
theorem q83:∀ y0 y1 w,pures ((.func y0 y1)::w)=none:=by intros;rfl
theorem q84:∀ y0 w,pures ((.agg y0)::w)=none:=by intros;rfl
theorem q85:∀ y0 w,pures ((.tuple y0)::w)=none:=by intros;rfl
theorem q86:∀ s,∀ y0,frz s (.p y0)=(view ⟨[],[],[]⟩ 8 (.p y0)).map fun v=>(v,s):=by intros;rfl
theorem q87:∀ s,frz s .nils=(view ⟨[],[],[]⟩ 8 .nils).map fun v=>(v,s):=by intros;rfl
theorem q88:∀ s,∀ y0,frz s (.agg y0)=(view ⟨[],[],[]⟩ 8 (.agg y0)).map fun v=>(v,s):=by intros;rfl
theorem q89:∀ s,∀ y0,frz s (.lit y0)=(view ⟨[],[],[]⟩ 8 (.lit y0)).map fun v=>(v,s):=by intros;rfl
theorem q90:∀ s v,asLit s (.p v)=.p v:=by intros;rfl
theorem q91:∀ s x,asLit s (.lit x)=.lit x:=by intros;rfl
theorem q92:∀ s,asLit s .nils=.nils:=by intros;rfl
theorem qB0:∀ y0 y1,AV.cells (.bound y0 y1)=some [(.bound y0 y1)]:=by intros;rfl
theorem qB1:∀ y0 y1 w,pures ((.bound y0 y1)::w)=none:=by intros;rfl
theorem qB2:∀ C s f l,evalOp C s (.makeBound f l)=some (.bound f (l.map s.arg),s):=by intros;rfl
def Rx:=And.intro (And.intro (And.intro (And.intro (And.intro (And.intro (And.intro (And.intro @runOps_nil (And.intro @runOps_cons @bo_some)) (And.intro (And.intro @bo_none @bo_ite) (And.intro @be_some @be_none))) (And.intro (And.intro (And.intro @be_ite @bn_some) (And.intro @bn_none @bn_ite)) (And.intro (And.intro @bn'_some @aexec_skip) (And.intro @aexec_region @aexec_seq)))) (And.intro (And.intro (And.intro (And.intro @aexec_block @aexec_exit) (And.intro @aexec_ret @aexec_keep)) (And.intro (And.intro @aexec_cond @condK_bool) (And.intro @bs_normal @bs_ret))) (And.intro (And.intro (And.intro @bs_exit @bs_none) (And.intro @bs_ite @bkp_some)) (And.intro (And.intro @bb_normal @bb_ret) (And.intro @bb_exit @bb_none))))) (And.intro (And.intro (And.intro (And.intro @bb_ite (And.intro @bl_normal @bl_ret)) (And.intro (And.intro @bl_exit @bl_none) (And.intro @bl_ite @br_ret))) (And.intro (And.intro (And.intro @br_normal @br_none) (And.intro @br_ite @rr_some)) (And.intro (And.intro @m_none @m_some) (And.intro @m_st @m_fr)))) (And.intro (And.intro (And.intro (And.intro @m_lo @m_p) (And.intro @m_own @m_bool)) (And.intro (And.intro @m_int @m_str) (And.intro @m_list @m_pcells))) (And.intro (And.intro (And.intro @m_length @m_and) (And.intro @m_or @enterSt.eq_1)) (And.intro (And.intro @stepOp.eq_1 @bk_some) (And.intro @bk_ite @bk_none)))))) (And.intro (And.intro (And.intro (And.intro (And.intro @orBot.eq_1 (And.intro @orBot.eq_2 @St.arg.eq_1)) (And.intro (And.intro @St.arg.eq_2 @St.arg.eq_3) (And.intro @St.get.eq_1 @lk.eq_1))) (And.intro (And.intro (And.intro @lk.eq_2 @up.eq_1) (And.intro @up.eq_2 @St.set.eq_1)) (And.intro (And.intro @opt'.eq_1 @opt'.eq_2) (And.intro @List.range.eq_1 @List.range.loop.eq_1)))) (And.intro (And.intro (And.intro (And.intro @List.range.loop.eq_2 @St.keep.eq_1) (And.intro @pickL.eq_1 @pickL.eq_2)) (And.intro (And.intro @mentionsL.eq_1 @mentionsL.eq_2) (And.intro @St.one.eq_1 @seq_b))) (And.intro (And.intro (And.intro @seq_i @seq_s) (And.intro @ropRd.eq_1 @ropRd.eq_2)) (And.intro (And.intro @ropRd.eq_3 @bound.eq_1) (And.intro @bound.eq_2 @okFor.eq_1))))) (And.intro (And.intro (And.intro (And.intro @noLocals.eq_1 (And.intro @noLocals.eq_2 @sameAt.eq_1)) (And.intro (And.intro @sameAt.eq_2 @againEv.eq_1) (And.intro @againEv.eq_2 @againX.eq_1))) (And.intro (And.intro (And.intro @againOne.eq_1 @findIx.eq_1) (And.intro @findIx.eq_2 @hand.eq_1)) (And.intro (And.intro @hand.eq_2 @hand.eq_3) (And.intro @hand.eq_4 @hand.eq_5)))) (And.intro (And.intro (And.intro (And.intro @allM.eq_1 @allM.eq_2) (And.intro @resultsOf.eq_1 @result1.eq_1)) (And.intro (And.intro @result1.eq_2 @cellsAll.eq_1) (And.intro @cellsAll.eq_2 @sameLen.eq_1))) (And.intro (And.intro (And.intro @sameLen.eq_2 @fillK.eq_1) (And.intro @rg_some @rg_ite)) (And.intro (And.intro @rg_none @true_implies) (And.intro @false_implies @Bool.or_self))))))) (And.intro (And.intro (And.intro (And.intro (And.intro (And.intro @Bool.or_false (And.intro @Bool.false_or @Bool.false_eq_true)) (And.intro (And.intro @Bool.true_eq_false @Bool.not_true) (And.intro @Bool.not_false @St.newObj.eq_1))) (And.intro (And.intro (And.intro @newOwns.eq_1 @newOwns.eq_2) (And.intro @St.obj.eq_1 @St.putObj.eq_1)) (And.intro (And.intro @puress.eq_1 @puress.eq_2) (And.intro @objOf.eq_1 @ofCells.eq_1)))) (And.intro (And.intro (And.intro (And.intro @sub.eq_1 @over.eq_1) (And.intro @and_self @and_true)) (And.intro (And.intro @true_and @fill.eq_1) (And.intro @fill.eq_2 @Bool.or_true))) (And.intro (And.intro (And.intro @Bool.true_or @Bool.and_true) (And.intro @Bool.true_and @Bool.and_false)) (And.intro (And.intro @Bool.false_and @decide_true) (And.intro @decide_false @Int.toNat_natCast))))) (And.intro (And.intro (And.intro (And.intro @Nat.zero_le (And.intro @Nat.lt_irrefl @Nat.le_refl)) (And.intro (And.intro @not_true_eq_false @not_false_eq_true) (And.intro @decide_eq_true_eq @runD_nil))) (And.intro (And.intro (And.intro @runD_cons' @bod_some) (And.intro @stepD.eq_1 @againK.eq_1)) (And.intro (And.intro @aexec_draw @Bool.not_eq_true') (And.intro @Int.natCast_nonneg @true_or)))) (And.intro (And.intro (And.intro (And.intro @or_true @false_or) (And.intro @or_false @false_and)) (And.intro (And.intro @and_false @Nat.one_ne_zero) (And.intro @wrap_id @Int.natCast_add))) (And.intro (And.intro (And.intro @Int.natCast_one @Int.toNat_natCast_add_one) (And.intro @Int.add_sub_cancel @ite_self.{1})) (And.intro (And.intro @List.length_cons.{0} @List.length_nil.{0}) (And.intro @List.any_cons.{0} @List.any_nil.{0})))))) (And.intro (And.intro (And.intro (And.intro (And.intro @implies_true.{0} (And.intro @implies_true.{1} @if_false.{1})) (And.intro (And.intro @if_true.{1} @List.getD_cons_zero.{0}) (And.intro @List.getD_cons_succ.{0} @List.set_cons_zero.{0}))) (And.intro (And.intro (And.intro @List.set_cons_succ.{0} @List.drop_zero.{0}) (And.intro @List.drop_succ_cons.{0} @List.take_zero.{0})) (And.intro (And.intro @List.take_succ_cons.{0} @List.take_nil.{0}) (And.intro @List.drop_nil.{0} @List.contains_cons.{0})))) (And.intro (And.intro (And.intro (And.intro @List.contains_nil.{0} @beq_self_eq_true.{0}) (And.intro @List.all_cons.{0} @List.all_nil.{0})) (And.intro (And.intro @List.getElem?_concat_length.{0} @List.cons_append.{0}) (And.intro @List.nil_append.{0} @List.append_nil.{0}))) (And.intro (And.intro (And.intro @if_pos.{1} @if_neg.{1}) (And.intro @gt_iff_lt.{0} @ge_iff_le.{0})) (And.intro (And.intro (@List.zip.eq_1.{0,0}) (@List.map_cons.{0,0})) (And.intro (@List.map_nil.{0,0}) (@Option.map_some.{0,0})))))) (And.intro (And.intro (And.intro (And.intro (@Option.map_none.{0,0}) (And.intro (@Option.bind_some.{0,0}) (@List.length_map.{0,0}))) (And.intro (And.intro @guardK.eq_1 @guardK.eq_2) (And.intro @evalOp.eq_1 @evalOp.eq_2))) (And.intro (And.intro (And.intro @evalOp.eq_3 @evalOp.eq_4) (And.intro @evalOp.eq_5 @evalOp.eq_6)) (And.intro (And.intro @evalOp.eq_7 @evalOp.eq_8) (And.intro @evalOp.eq_9 @evalOp.eq_10)))) (And.intro (And.intro (And.intro (And.intro @evalOp.eq_11 @evalOp.eq_12) (And.intro @evalOp.eq_13 @evalOp.eq_14)) (And.intro (And.intro @evalOp.eq_15 @evalOp.eq_16) (And.intro @evalOp.eq_17 @evalOp.eq_18))) (And.intro (And.intro (And.intro @evalOp.eq_19 @evalOp.eq_20) (And.intro @evalOp.eq_21 @evalOp.eq_22)) (And.intro (And.intro @evalOp.eq_23 @evalOp.eq_24) (And.intro @evalOp.eq_25 @evalOp.eq_26)))))))) (And.intro (And.intro (And.intro (And.intro (And.intro (And.intro (And.intro @evalOp.eq_27 (And.intro @evalOp.eq_28 @evalOp.eq_29)) (And.intro (And.intro @evalOp.eq_30 @evalOp.eq_31) (And.intro @evalOp.eq_32 @evalOp.eq_33))) (And.intro (And.intro (And.intro @evalOp.eq_35 @evalOp.eq_36) (And.intro @evalOp.eq_37 @evalOp.eq_38)) (And.intro (And.intro @evalOp.eq_39 @evalOp.eq_40) (And.intro @evalOp.eq_41 @evalOp.eq_42)))) (And.intro (And.intro (And.intro (And.intro @evalOp.eq_43 @evalOp.eq_44) (And.intro @St.know.eq_1 (@List.zipWith.eq_1.{0,0,0}))) (And.intro (And.intro @mentions.eq_1 @mentions.eq_2) (And.intro @mentions.eq_3 @mentions.eq_4))) (And.intro (And.intro (And.intro @mentions.eq_5 @mentions.eq_6) (And.intro @mentions.eq_7 @AObj.mentions.eq_1)) (And.intro (And.intro @AObj.mentions.eq_2 @bin.eq_1) (And.intro @bin.eq_2 @bin.eq_3))))) (And.intro (And.intro (And.intro (And.intro @bin.eq_5 (And.intro @binI.eq_1 @binI.eq_2)) (And.intro (And.intro @binI.eq_3 @binI.eq_4) (And.intro @binI.eq_5 @binI.eq_6))) (And.intro (And.intro (And.intro @binI.eq_7 @binI.eq_8) (And.intro @binI.eq_9 @binI.eq_10)) (And.intro (And.intro @binI.eq_11 @binI.eq_12) (And.intro @avEq.eq_1 @avEq.eq_2)))) (And.intro (And.intro (And.intro (And.intro @avEq.eq_3 @avEq.eq_4) (And.intro @avEq.eq_5 @isNil.eq_1)) (And.intro (And.intro @isNil.eq_2 @isNil.eq_3) (And.intro @isNil.eq_4 @isNil.eq_5))) (And.intro (And.intro (And.intro @isNil.eq_6 @isNilC.eq_1) (And.intro @isNilC.eq_2 @isNilC.eq_3)) (And.intro (And.intro @ptrEq.eq_1 @ptrEq.eq_2) (And.intro @ptrEq.eq_3 @ptrEq.eq_4)))))) (And.intro (And.intro (And.intro (And.intro (And.intro @ptrEq.eq_5 (And.intro @ptrEq.eq_6 @cellsEq.eq_1)) (And.intro (And.intro @cellsEq.eq_2 @una.eq_1) (And.intro @una.eq_2 @noLocal.eq_1))) (And.intro (And.intro (And.intro @noLocal.eq_2 @noLocal.eq_3) (And.intro @noLocal.eq_4 @noLocal.eq_5)) (And.intro (And.intro @noLocal.eq_6 @noLocal.eq_7) (And.intro @AV.same.eq_1 @AV.same.eq_2)))) (And.intro (And.intro (And.intro (And.intro @AV.same.eq_3 @AV.same.eq_4) (And.intro @AV.same.eq_5 @AV.same.eq_6)) (And.intro (And.intro @AV.same.eq_7 @AV.same.eq_8) (And.intro @AV.same.eq_9 @AV.same.eq_10))) (And.intro (And.intro (And.intro @AV.same.eq_11 @PV.same.eq_1) (And.intro @PV.same.eq_2 @PV.same.eq_3)) (And.intro (And.intro @PV.same.eq_4 @PV.same.eq_5) (And.intro @PV.same.eq_6 @PV.same.eq_7))))) (And.intro (And.intro (And.intro (And.intro @PV.same.eq_8 (And.intro @PV.same.eq_9 @AV.sameL.eq_1)) (And.intro (And.intro @AV.sameL.eq_2 @PV.sameL.eq_1) (And.intro @PV.sameL.eq_2 @PV.sameLL.eq_1))) (And.intro (And.intro (And.intro @PV.sameLL.eq_2 @againG.eq_1) (And.intro @againG.eq_2 @view.eq_1)) (And.intro (And.intro @view.eq_4 @view.eq_5) (And.intro @view.eq_6 @viewT.eq_1)))) (And.intro (And.intro (And.intro (And.intro @tupleOf.eq_1 @oneTup.eq_1) (And.intro @pureArg.eq_1 @pureArg.eq_2)) (And.intro (And.intro @pureArg.eq_3 @allFlat.eq_1) (And.intro @allFlat.eq_2 @flat.eq_1))) (And.intro (And.intro (And.intro @flat.eq_2 @asInt.eq_1) (And.intro @pures.eq_1 @pures.eq_2)) (And.intro (And.intro @PV.scalarEq.eq_1 @PV.scalarEq.eq_2) (And.intro @PV.scalarEq.eq_3 @idx_p))))))) (And.intro (And.intro (And.intro (And.intro (And.intro (And.intro @idx_c (And.intro @app_p @app_c)) (And.intro (And.intro @rd_p @rd_c) (And.intro @wr_p @wr_c))) (And.intro (And.intro (And.intro @List.getElem?_cons_zero.{0} @List.getElem?_cons_succ.{0}) (And.intro @bne_self_eq_false.{0} @AV.cells.eq_1)) (And.intro (And.intro @AV.cells.eq_2 @AV.cells.eq_3) (And.intro @AV.cells.eq_4 @frz.eq_1)))) (And.intro (And.intro (And.intro (And.intro @q0 @q1) (And.intro @q2 @q3)) (And.intro (And.intro @q4 @q5) (And.intro @q6 @q7))) (And.intro (And.intro (And.intro @q8 @q9) (And.intro @q10 @q11)) (And.intro (And.intro @q12 @q13) (And.intro @q14 @q15))))) (And.intro (And.intro (And.intro (And.intro @q16 (And.intro @q17 @q18)) (And.intro (And.intro @q19 @q20) (And.intro @q21 @q22))) (And.intro (And.intro (And.intro @q23 @q24) (And.intro @q25 @q26)) (And.intro (And.intro @q27 @q28) (And.intro @q29 @q30)))) (And.intro (And.intro (And.intro (And.intro @q31 @q32) (And.intro @q33 @q34)) (And.intro (And.intro @q35 @q36) (And.intro @q37 @q38))) (And.intro (And.intro (And.intro @q39 @q40) (And.intro @q41 @q42)) (And.intro (And.intro @q43 @q44) (And.intro @q45 @q46)))))) (And.intro (And.intro (And.intro (And.intro (And.intro @q47 (And.intro @q48 @q49)) (And.intro (And.intro @q50 @q51) (And.intro @q52 @q53))) (And.intro (And.intro (And.intro @q54 @q55) (And.intro @q56 @q57)) (And.intro (And.intro @q58 @q59) (And.intro @q60 @q61)))) (And.intro (And.intro (And.intro (And.intro @q62 @q63) (And.intro @q64 @q65)) (And.intro (And.intro @q66 @q67) (And.intro @q68 @q69))) (And.intro (And.intro (And.intro @q70 @q71) (And.intro @q72 @q73)) (And.intro (And.intro @q74 @q75) (And.intro @q76 @q77))))) (And.intro (And.intro (And.intro (And.intro (And.intro @q78 @q79) (And.intro @q80 @q81)) (And.intro (And.intro @q82 @q83) (And.intro @q84 @q85))) (And.intro (And.intro (And.intro @q86 @q87) (And.intro @q88 @q89)) (And.intro (And.intro @oM.eq_1 @oN.eq_1) (And.intro @oG.eq_1 @iC.eq_1)))) (And.intro (And.intro (And.intro (And.intro @asLit.eq_1 @q90) (And.intro @q91 @q92)) (And.intro (And.intro @kS.eq_1 @kB.eq_1) (And.intro @rN.eq_1 @lD.eq_1))) (And.intro (And.intro (And.intro @fA.eq_1 @isNil.eq_7) (And.intro @mentions.eq_8 @noLocal.eq_8)) (And.intro (And.intro @AV.same.eq_12 qB0) (And.intro qB1 qB2))))))))
end Go.TA


end
