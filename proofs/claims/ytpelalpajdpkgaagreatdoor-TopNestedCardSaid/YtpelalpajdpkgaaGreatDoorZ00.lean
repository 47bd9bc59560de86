/-
  Part 1 of the proof that TopNested returns true and leaves what it was given as it was. CONDITIONS: those of the given row and card.
-/
import Derived.Calls
import Derived.Orders
import Derived.MapKept
import Derived.WideLaws
import Derived.Lib.SlicesS
set_option linter.all false
namespace Go.Cub
open Go
def Reach (P:Program) (m:Machine) (G:Machine→Prop):Prop:=∃m',Steps P m m'∧G m'
section
variable {P:Program}
theorem Reach.here {m:Machine} {G:Machine→Prop} (h:G m):Reach P m G:=⟨m,.refl P m,h⟩
theorem Reach.steps {m m₁:Machine} {G:Machine→Prop} (h:Steps P m m₁) (h':Reach P m₁ G):Reach P m G:=by
 obtain⟨m',hs,hg⟩:=h'
 exact⟨m',h.trans hs,hg⟩
theorem Reach.step {m m₁:Machine} {G:Machine→Prop} (h:step P m=.next m₁) (h':Reach P m₁ G):Reach P m G:=
 Reach.steps (.one h) h'
theorem Reach.bind {m:Machine} {G G':Machine→Prop} (h:Reach P m G) (hg:∀m',G m'→Reach P m' G'):Reach P m G':=by
 obtain⟨m',hs,h⟩:=h
 exact Reach.steps hs (hg m' h)
theorem Reach.mono {m:Machine} {G G':Machine→Prop} (h:Reach P m G) (hg:∀m',G m'→G' m'):Reach P m G':=
 h.bind fun m' h=>.here (hg m' h)
end
structure Ctx where
 fn:FuncId
 kind:CallKind
 round:Option Nat
 cs:List Frame
 G:Machine→Prop
def Ctx.fr (C:Ctx) (a:Act) (todo:List Item):Frame:=
 {fn:=C.fn,tmps:=a.tmps,todo,defers:=a.defers,mode:=.run,kind:=C.kind,roundOf:=C.round}
def Ctx.left (C:Ctx) (a:Act) (todo:List Item):Frame:= {C.fr a todo with mode:=.returning}
def Rch (P:Program) (C:Ctx) (todo:List Item) (a:Act) (w:World):Prop:=Reach P (lone (C.fr a todo) C.cs w) C.G
def Lft (P:Program) (C:Ctx) (a:Act) (w:World):Prop:=∀todo,Reach P (lone (C.left a todo) C.cs w) C.G
def Call (P:Program) (f:FuncId) (args:Array Value) (w:World) (R:Value→World→Prop):Prop:=
 ∀c cs,Reach P (lone (Frame.enter P f args .normal) (c::cs) w) fun m=>∃v w',R v w'∧m=lone (c.finish v) cs w'
def CallD (P:Program) (f:FuncId) (args:Array Value) (w:World) (R:World→Prop):Prop:=
 ∀c cs,c.mode=.returning→Reach P (lone (Frame.enter P f args .deferred) (c::cs) w) fun m=>∃w',R w'∧m=lone c cs w'
def RoundR (P:Program) (l:Nat) (f:FuncId) (tmps:Array Value) (assign body:Code) (w:World) (R:Value→World→Prop):Prop:=
 ∀c cs,Reach P (lone (Frame.round l f tmps assign body .normal) (c::cs) w) fun m=>∃v w',R v w'∧m=lone (c.finish v) cs w'
section
variable {P:Program}
theorem Call.mono {f:FuncId} {args:Array Value} {w:World} {R R':Value→World→Prop} (h:Call P f args w R) (hr:∀v w',R v w'→R' v w'):Call P f args w R':=
 fun c cs=>(h c cs).mono fun _ ⟨v,w',r,e⟩=>⟨v,w',hr _ _ r,e⟩
theorem CallD.mono {f:FuncId} {args:Array Value} {w:World} {R R':World→Prop} (h:CallD P f args w R) (hr:∀w',R w'→R' w'):CallD P f args w R':=
 fun c cs hc=>(h c cs hc).mono fun _ ⟨w',r,e⟩=>⟨w',hr _ r,e⟩
theorem RoundR.mono {l:Nat} {f:FuncId} {tmps:Array Value} {aq body:Code} {w:World} {R R':Value→World→Prop} (h:RoundR P l f tmps aq body w R) (hr:∀v w',R v w'→R' v w'):RoundR P l f tmps aq body w R':=
 fun c cs=>(h c cs).mono fun _ ⟨v,w',r,e⟩=>⟨v,w',hr _ _ r,e⟩
end
section rules
variable {P:Program} {C:Ctx} {a:Act} {w:World} {k:List Item}
theorem rch_skip (h:Rch P C k a w):Rch P C (.code .skip::k) a w:=
 Reach.step (step_lone_go (by simp[stepG,stepG.exec,Ctx.fr])) h
theorem rch_label {l:Nat} (h:Rch P C k a w):Rch P C (.code (.label l)::k) a w:=
 Reach.step (step_lone_go (by simp[stepG,stepG.exec,Ctx.fr])) h
theorem rch_inBlock {id:Nat} (h:Rch P C k a w):Rch P C (.inBlock id::k) a w:=
 Reach.step (step_lone_go (by simp[stepG,stepG.exec,Ctx.fr])) h
theorem rch_seq {x y:Code} (h:Rch P C (.code x:: .code y::k) a w):Rch P C (.code (.seq x y)::k) a w:=
 Reach.step (step_lone_go (by simp[stepG,stepG.exec,Ctx.fr])) h
theorem rch_block {id:Nat} {x:Code} (h:Rch P C (.code x:: .inBlock id::k) a w):Rch P C (.code (.block id x)::k) a w:=
 Reach.step (step_lone_go (by simp[stepG,stepG.exec,Ctx.fr])) h
theorem rch_loop {x:Code} (h:Rch P C (.code x:: .inLoop x::k) a w):Rch P C (.code (.loop x)::k) a w:=
 Reach.step (step_lone_go (by simp[stepG,stepG.exec,Ctx.fr])) h
theorem rch_inLoop {x:Code} (h:Rch P C (.code x:: .inLoop x::k) a w):Rch P C (.inLoop x::k) a w:=
 Reach.step (step_lone_go (by simp[stepG,stepG.exec,Ctx.fr])) h
theorem rch_exit {id:Nat} {k':List Item} (e:exitTo id k=some k') (h:Rch P C k' a w):Rch P C (.code (.exit id)::k) a w:=
 Reach.step (step_lone_go (by simp[stepG,stepG.exec,Ctx.fr,e])) h
theorem fr_eval (C:Ctx) (a:Act) (todo:List Item) (x:Operand):(C.fr a todo).eval x=a.eval x:=by cases x<;>rfl
theorem rch_cond {c:Operand} {x y:Code} {t:Bool} (e:a.eval c=.bool t) (h:Rch P C (.code (if t then x else y)::k) a w):
  Rch P C (.code (.cond c x y)::k) a w:=
 Reach.step (step_lone_go (by
  have :=fr_eval C a (.code (.cond c x y)::k) c
  simp only[Ctx.fr] at this
  simp[stepG,stepG.exec,Ctx.fr,this,e])) h
theorem rch_ret (hr:C.round=none) (h:Lft P C a w):Rch P C (.code .ret::k) a w:=
 Reach.step (step_lone_go (by simp[stepG,stepG.exec,Ctx.fr,Ctx.left,hr])) (h (.code .ret::k))
theorem rch_end (hr:C.round=none) (h:Lft P C a w):Rch P C [] a w:=
 Reach.step (step_lone_go (by simp[stepG,stepG.exec,Ctx.fr,Ctx.left,hr])) (h [])
theorem rch_region {id:Nat} {ops:Array Oper} (h:Rch P C (.inRegion ops (List.range ops.size)::k) a w):Rch P C (.code (.region id ops false)::k) a w:=
 Reach.step (step_lone_go (by simp[stepG,stepG.exec,Ctx.fr])) h
theorem rch_region_draw {id:Nat} {ops:Array Oper}
  (h:∀t,Rch P C (.inRegion ops (Region.schedule (P.follows .mixedOrders) ops t)::k) a {w with drawn:=w.drawn+1}):Rch P C (.code (.region id ops true)::k) a w:=
 Reach.step (step_lone_go (by simp[stepG,stepG.exec,Ctx.fr,choose,Sem.run,Question.forced,Question.cut])) (h (w.tape w.drawn (.order C.fn id)))
theorem rch_region_end {ops:Array Oper} (h:Rch P C k a w):Rch P C (.inRegion ops []::k) a w:=
 Reach.step (step_lone_go (by simp[stepG,stepG.exec,Ctx.fr])) h
theorem fr_finish (ops:Array Oper) (i:Nat) (rest:List Nat) (v:Value):
  (C.fr a (.inRegion ops (i::rest)::k)).finish v=C.fr (a.put ((ops[i]?).bind (·.dst)) v) (.inRegion ops rest::k):=by
 cases h:(ops[i]?).bind (·.dst)<;>simp[Frame.finish,Ctx.fr,Act.put,h]
theorem rch_op_skip {ops:Array Oper} {i:Nat} {rest:List Nat} (e:((ops[i]?).map (Region.wanted · (yielded ops a.tmps))).getD false=false)
  (h:Rch P C (.inRegion ops rest::k) (a.put ((ops[i]?).bind (·.dst)) undef) w):Rch P C (.inRegion ops (i::rest)::k) a w:=by
 refine Reach.step (m₁:=lone (C.fr (a.put ((ops[i]?).bind (·.dst)) undef) (.inRegion ops rest::k)) C.cs w) ?_ h
 rw[←fr_finish]
 exact step_lone_go (by simp only[Ctx.fr];simp[stepG,stepG.exec,e])
def OpK (P:Program) (o:Oper) (ev:Operand→Value) (w:World) (K:Value→World→Prop):Prop:=
 match (execOp ev o).run P w with
 |.ok (.value v) w'=>K v w'
 |.ok .skip w'=>K undef w'
 |.ok (.enter f args) w'=>Call P f args w' K
 |.ok (.round l f tmps aq body) w'=>RoundR P l f tmps aq body w' K
 |_=>False
theorem OpK.mono {o:Oper} {ev:Operand→Value} {K K':Value→World→Prop} (h:OpK P o ev w K) (hk:∀v w',K v w'→K' v w'):OpK P o ev w K':=by
 unfold OpK at *
 generalize (execOp ev o).run P w=r at *
 cases r with
 |ok n w'=>cases n<;>simp only at h ⊢ <;>first |exact hk _ _ h |exact Call.mono h hk |exact RoundR.mono h hk
 |halt x w'=>exact h
theorem stepG_op' {ops:Array Oper} {i:Nat} {rest:List Nat} {o:Oper} (ho:ops[i]?=some o) (hw:Region.wanted o (yielded ops a.tmps)=true)
  (hd:∀c,o.op≠ .defer c):
  stepG P true {frame:=C.fr a (.inRegion ops (i::rest)::k),callers:=C.cs,status:=.running,dying:=none} w=
   stepG.apply P true (C.fr a (.inRegion ops (i::rest)::k)) C.cs none (execOp a.eval o) w:=by
 have he:(C.fr a (.inRegion ops (i::rest)::k)).eval=a.eval:=funext (fr_eval C a _)
 simp only[Ctx.fr] at he
 simp only[stepG,stepG.exec,Ctx.fr,ho,hw,Option.map_some,Option.getD_some,if_true,stepG.oper,Frame.oper?,he]
 cases C.round with
 |none=>rfl
 |some l=>cases hop:o.op<;>first |rfl |exact absurd hop (hd _)
theorem rch_op {ops:Array Oper} {i:Nat} {rest:List Nat} {o:Oper} (ho:ops[i]?=some o) (hw:Region.wanted o (yielded ops a.tmps)=true)
  (hk:C.kind≠ .early) (hd:∀c,o.op≠ .defer c)
  (h:OpK P o a.eval w fun v w'=>Rch P C (.inRegion ops rest::k) (a.put o.dst v) w'):Rch P C (.inRegion ops (i::rest)::k) a w:=by
 have hg:=stepG_op' (P:=P) (C:=C) (k:=k) (w:=w) (rest:=rest) ho hw hd
 have hfin:∀v,(C.fr a (.inRegion ops (i::rest)::k)).finish v=C.fr (a.put o.dst v) (.inRegion ops rest::k):=by
  intro v;rw[fr_finish,ho];rfl
 unfold OpK at h
 cases hr:(execOp a.eval o).run P w with
 |halt x w'=>rw[hr] at h;exact h.elim
 |ok n w'=>
  rw[hr] at h
  cases n<;>simp only at h<;>try exact h.elim
  case value v=>
   refine Reach.step (step_lone_go ?_) h
   rw[hg, ←hfin];simp[stepG.apply,hr]
  case skip=>
   refine Reach.step (step_lone_go ?_) h
   rw[hg, ←hfin];simp[stepG.apply,hr]
  case enter f args=>
   have henter:step P (lone (C.fr a (.inRegion ops (i::rest)::k)) C.cs w)=
     .next (lone (Frame.enter P f args .normal) (C.fr a (.inRegion ops (i::rest)::k)::C.cs) w'):=
    step_lone_go (by rw[hg];simp[stepG.apply,hr,Ctx.fr])
   refine Reach.step henter ((h _ _).bind ?_)
   rintro m ⟨v,w'',hq,rfl⟩
   rw[hfin];exact hq
  case round l f tmps aq body=>
   have henter:step P (lone (C.fr a (.inRegion ops (i::rest)::k)) C.cs w)=
     .next (lone (Frame.round l f tmps aq body .normal) (C.fr a (.inRegion ops (i::rest)::k)::C.cs) w'):=
    step_lone_go (by rw[hg];simp[stepG.apply,hr,Ctx.fr])
   refine Reach.step henter ((h _ _).bind ?_)
   rintro m ⟨v,w'',hq,rfl⟩
   rw[hfin];exact hq
theorem rch_defer {ops:Array Oper} {i:Nat} {rest:List Nat} {o:Oper} {d:Deferred} (ho:ops[i]?=some o) (hw:Region.wanted o (yielded ops a.tmps)=true)
  (hround:C.round=none) (hr:(execOp a.eval o).run P w=.ok (.defer d) w)
  (h:Rch P C (.inRegion ops rest::k) ({a with defers:=d::a.defers}.put o.dst undef) w):Rch P C (.inRegion ops (i::rest)::k) a w:=by
 have he:(C.fr a (.inRegion ops (i::rest)::k)).eval=a.eval:=funext (fr_eval C a _)
 have hfin:({C.fr a (.inRegion ops (i::rest)::k) with defers:=d::a.defers}:Frame).finish undef=
   C.fr ({a with defers:=d::a.defers}.put o.dst undef) (.inRegion ops rest::k):=by
  have :=fr_finish (C:=C) (a:= {a with defers:=d::a.defers}) (k:=k) ops i rest undef
  rw[ho] at this;exact this
 refine Reach.step (step_lone_go ?_) h
 simp only[Ctx.fr,hround] at he
 simp only[stepG,stepG.exec,Ctx.fr,ho,hw,Option.map_some,Option.getD_some,if_true,stepG.oper,Frame.oper?,he,hround]
 simp only[stepG.apply,Sem.runT_eq,hr,GStep.bare_after,if_true]
 refine congrArg (fun fr=>GStep.go {frame:=fr,callers:=C.cs,status:=.running,dying:=none} w) ?_
 have h2:=hfin
 simp only[Ctx.fr,hround] at h2 ⊢
 exact h2
theorem lft_nil {v:Value} {fn:Func} {c:Frame} {cs:List Frame} (hfn:P.funcs[C.fn]?=some fn) (hcs:C.cs=c::cs) (hd:a.defers=[]) (hk:C.kind=.normal)
  (hr:(results fn a.tmps).run P w=.ok v w) (h:Reach P (lone (c.finish v) cs w) C.G):Lft P C a w:=by
 intro todo
 refine Reach.step (m₁:=lone (c.finish v) cs w) ?_ h
 rw[hcs]
 exact step_lone_go (by simp[stepG,unwind,doReturn,Ctx.left,Ctx.fr,hd,hk,hfn,hr])
theorem lft_nil_deferred {v:Value} {fn:Func} {c:Frame} {cs:List Frame} (hfn:P.funcs[C.fn]?=some fn) (hcs:C.cs=c::cs) (hd:a.defers=[]) (hk:C.kind=.deferred)
  (hc:c.mode=.returning) (hr:(results fn a.tmps).run P w=.ok v w) (h:Reach P (lone c cs w) C.G):Lft P C a w:=by
 intro todo
 refine Reach.step (m₁:=lone c cs w) ?_ h
 rw[hcs]
 exact step_lone_go (by simp[stepG,unwind,doReturn,Ctx.left,Ctx.fr,hd,hk,hfn,hr,hc])
def _root_.Go.World.putObj' (w:World) (r:Nat) (o:Obj):World:= {w with heap:=w.heap.setIfInBounds r o}
theorem lft_collected {b:Nat} {args:Array Value} {ds calls:List Deferred} (hd:a.defers= {target:=.collected b,args}::ds)
  (hb:w.heap[b]?=some (.deferred (some calls))) (h:Lft P C {a with defers:=calls++ds} (w.putObj' b (.deferred none))):Lft P C a w:=by
 intro todo
 refine Reach.step (m₁:=lone (C.left {a with defers:=calls++ds} todo) C.cs (w.putObj' b (.deferred none))) ?_ (h todo)
 refine step_lone_go ?_
 have hrun:(Instr.takeDeferred b).run P w=.ok calls (w.putObj' b (.deferred none)):=by
  simp[Instr.takeDeferred,getObj,setObj,bind,Sem.bind,pure,Sem.run,hb,World.putObj']
 simp[stepG,unwind,Ctx.left,Ctx.fr,hd,hrun]
end rules
end Go.Cub
namespace Go.Cub
open Go
inductive TD where
 |int (k:IntKind) |bool |string |ptr (e:TypeId) |slice (e:TypeId) |array (n:Nat) (e:TypeId) |map (k e:TypeId)
 |struct (fs:List (Nat×TypeId)) |func |iface |other
structure TI where
 d:TD
 size:Nat
 bytes:Nat
 zero:Value
 eqs:List TD:=[]
abbrev TTab:=Nat→Option TI
def TD.isAgg:TD→Bool
 |.struct _ |.array .. =>true
 |_=>false
def TD.fits:TD→Option TypeDesc→Prop
 |.int k,some (.int k')=>k'=k
 |.bool,some .bool |.string,some .string |.func,some (.func ..) |.iface,some (.interface _)=>True
 |.ptr e,some (.pointer e')=>e'=e
 |.slice e,some (.slice e')=>e'=e
 |.array n e,some (.array n' e')=>n'=n∧e'=e
 |.map k e,some (.map k' e')=>k'=k∧e'=e
 |.struct fs,some (.struct a)=>a.toList.map (fun f=>(f.offset,f.type))=fs
 |.other,some (.tuple _)=>True
 |_,_=>False
def eqV:Value→Value→Option Bool
 |.int k a,.int k' b=>if k=k' then some (decide (a=b)) else none
 |.bool a,.bool b=>some (decide (a=b))
 |.string a,.string b=>some (decide (a=b))
 |_,_=>none
def eqD:TD→Value→Value→Option Bool
 |.int _,.int k a,.int k' b=>if k=k' then some (decide (a=b)) else none
 |.bool,.bool a,.bool b=>some (decide (a=b))
 |.string,.string a,.string b=>some (decide (a=b))
 |_,_,_=>none
def eqL:List TD→List Value→List Value→Option Bool
 |[],[],[]=>some true
 |d::ds,x::xs,y::ys=>match eqD d x y,eqL ds xs ys with
  |some a,some b=>some (a&&b)
  |_,_=>none
 |_,_,_=>none
structure TabOk (P:Program) (tt:TTab):Prop where
 und:∀t i,tt t=some i→i.d.fits (P.underlying t)
 info:∀t i,tt t=some i→∃inf,P.info? t=some inf∧inf.size=i.size∧inf.bytes=i.bytes∧inf.zero=some i.zero
 agg:∀t i,tt t=some i→i.d.isAgg=false→i.size=1
 eqs:∀t i,tt t=some i→i.eqs≠[]→∀(xs ys:Array Value) (b:Bool) (x y:Operand) (w:World),eqL i.eqs xs.toList ys.toList=some b→
  (do eqGuard .eql t x y (.agg xs) (.agg ys);binOp .eql t (.agg xs) (.agg ys):Sem Value).run P w=.ok (.bool b) w
def CalOk (P:Program) (cal:Nat→Bool):Prop:=∀f,cal f=true→∀args w,(callFunc f args).run P w=.ok (.enter f args) w
def PV (x:Option Value) (K:Value→Prop):Prop:=match x with
 |some v=>K v
 |none=>False
def nilV:Value→Option Value
 |.pointer (some a)=>some (.pointer (some a))
 |.func (.func f) x y=>some (.func (.func f) x y)
 |.func (.yield l) x y=>some (.func (.yield l) x y)
 |.iface t v=>some (.iface t v)
 |_=>none
def pickV:Value→Value→Value→Option Value
 |.bool b,x,y=>some (if b then x else y)
 |_,_,_=>none
def fldV (off:Nat):Value→Option Value
 |.pointer (some a)=>some (.pointer (some (a.add off)))
 |_=>none
def idxS (size:Nat):Value→Value→Option Value
 |.slice (some a) len _,.int _ i=>if 0≤i∧i<len then some (.pointer (some (a.add (i.toNat * size)))) else none
 |_,_=>none
def idxA (n size:Nat):Value→Value→Option Value
 |.pointer (some a),.int _ i=>if 0≤i∧i<n then some (.pointer (some (a.add (i.toNat * size)))) else none
 |_,_=>none
def partV (agg:Bool) (off size:Nat):Value→Option Value
 |.agg cs=>if agg then some (.agg (cs.extract off (off+size))) else cs[off]?
 |_=>none
def idxStr:Value→Value→Option Value
 |.string s,.int _ i=>if 0≤i then(s[i.toNat]?).map fun b=>.int .u8 b.toNat else none
 |_,_=>none
def extV (ix:Nat):Value→Option Value
 |.tuple vs=>vs[ix]?
 |_=>none
def bitI (op:BinOp) (k:IntKind) (x y:Int):Int:=
 let a:=BitVec.ofInt k.bits x
 let b:=BitVec.ofInt k.bits y
 k.wrap (match op with
  |.and =>(a &&& b).toNat
  |.or=>(a ||| b).toNat
  |.xor=>(a ^^^ b).toNat
  |_=>(a &&& ~~~b).toNat)
def binI (op:BinOp) (k:IntKind) (a b:Int):Option Value:=
 match op with
 |.add=>some (.int k (k.wrap (a+b)))
 |.sub=>some (.int k (k.wrap (a - b)))
 |.mul=>some (.int k (k.wrap (a * b)))
 |.quo=>if b=0 then none else some (.int k (k.wrap (a.tdiv b)))
 |.rem=>if b=0 then none else some (.int k (a.tmod b))
 |.and =>some (.int k (bitI .and k a b))
 |.or=>some (.int k (bitI .or k a b))
 |.xor=>some (.int k (bitI .xor k a b))
 |.andNot=>some (.int k (bitI .andNot k a b))
 |.eql=>some (.bool (decide (a=b)))
 |.neq=>some (.bool (decide (a≠b)))
 |.lss=>some (.bool (decide (a<b)))
 |.leq=>some (.bool (decide (a≤b)))
 |.gtr=>some (.bool (decide (a>b)))
 |.geq=>some (.bool (decide (a≥b)))
 |_=>none
def binV (i:TI) (op:BinOp):Value→Value→Option Value
 |.int k a,.int k' b=>
  match op with
  |.shl=>if b<0 then none else some (.int k (k.wrap (a * 2^(min b.toNat k.bits))))
  |.shr=>if b<0 then none else some (.int k (a.fdiv (2^(min b.toNat k.bits))))
  |op=>if k≠k' then none else binI op k a b
 |.bool a,.bool b=>match i.d,op with
  |.bool,.eql=>some (.bool (decide (a=b)))
  |.bool,.neq=>some (.bool (decide (a≠b)))
  |_,_=>none
 |.string a,.string b=>match op with
  |.eql=>some (.bool (decide (a=b)))
  |.neq=>some (.bool (decide (a≠b)))
  |_=>none
 |.pointer a,.pointer none=>match i.d,op with
  |.ptr _,.eql=>some (.bool a.isNone)
  |.ptr _,.neq=>some (.bool a.isSome)
  |_,_=>none
 |.slice a _ _,.slice none _ _=>match i.d,op with
  |.slice _,.eql=>some (.bool a.isNone)
  |.slice _,.neq=>some (.bool a.isSome)
  |_,_=>none
 |.map a,.map none=>match i.d,op with
  |.map ..,.eql=>some (.bool a.isNone)
  |.map ..,.neq=>some (.bool a.isSome)
  |_,_=>none
 |.func _ _ _,.nilFunc=>match i.d,op with
  |.func,.eql=>some (.bool false)
  |.func,.neq=>some (.bool true)
  |_,_=>none
 |.nilFunc,.nilFunc=>match i.d,op with
  |.func,.eql=>some (.bool true)
  |.func,.neq=>some (.bool false)
  |_,_=>none
 |.agg xs,.agg ys=>match i.eqs,op with
  |[],_=>none
  |d::ds,.eql=>(eqL (d::ds) xs.toList ys.toList).map .bool
  |_,_=>none
 |_,_=>none
def unV (op:UnOp):Value→Option Value
 |.bool b=>match op with
  |.not=>some (.bool !b)
  |_=>none
 |.int k n=>match op with
  |.neg=>some (.int k (k.wrap (0 - n)))
  |.xor=>some (.int k (bitI .xor k (if k.signed then -1 else k.max) n))
  |_=>none
 |_=>none
def convI (k:IntKind):Value→Option Value
 |.int _ n=>some (.int k (k.wrap n))
 |_=>none
def convS:Value→Option Value
 |.string s=>some (.string s)
 |_=>none
def natOf:Option Value→Option (Option Nat)
 |none=>some none
 |some (.int _ n)=>if 0≤n then some (some n.toNat) else none
 |_=>none
def slcV (size:Nat) (a:Option Addr) (len cap:Nat) (low high max:Option Nat):Option Value:=
 let m:=max.getD cap
 let h:=high.getD len
 let l:=low.getD 0
 if m≤cap∧h≤m∧l≤h then some (.slice (if m=l then a else a.map (·.add (l * size))) (h - l) (m - l)) else none
def slc (size:Nat) (x:Value) (low high max:Option Value):Option Value:=
 match x,natOf low,natOf high,natOf max with
 |.slice a len cap,some l,some h,some m=>if m.isSome&&h.isNone then none else slcV size a len cap l h m
 |_,_,_,_=>none
def slcA (n size:Nat) (x:Value) (low high:Option Value):Option Value:=
 match x,natOf low,natOf high with
 |.pointer (some a),some l,some h=>slcV size (some a) n n l h none
 |_,_,_=>none
def buildV (places:List (Nat×Nat)) (zero:Value) (parts:List (Nat×Value)):Option Value:=
 (Instr.fill (places[·]?) zero.cells parts).map .agg
def minV:Value→Value→Option Value
 |.int k x,.int _ y=>some (.int k (if y<x then y else x))
 |_,_=>none
def maxV:Value→Value→Option Value
 |.int k x,.int _ y=>some (.int k (if y>x then y else x))
 |_,_=>none
def lenS:Value→Option Value
 |.slice _ n _=>some (.int .i64 n)
 |_=>none
def lenStr:Value→Option Value
 |.string s=>some (.int .i64 s.size)
 |_=>none
def capV:Value→Option Value
 |.slice _ _ n=>some (.int .i64 n)
 |_=>none
def L1 (p:Value) (w:World) (K:Value→Prop):Prop:=match p with
 |.pointer (some a)=>(match w.cell? a with |some v=>K v |none=>False)
 |_=>False
def _root_.Go.World.cellsAt? (w:World) (a:Addr):Nat→Nat→Option (List Value)
 |_,0=>some []
 |i,n+1=>match w.cell? (a.add i) with
  |some v=>(w.cellsAt? a (i+1) n).map (v:: ·)
  |none=>none
def LN (n:Nat) (p:Value) (w:World) (K:Value→Prop):Prop:=match p with
 |.pointer (some a)=>(match w.cellsAt? a 0 n with |some cs=>K (.agg cs.toArray) |none=>False)
 |_=>False
def S1 (p v:Value) (w:World) (K:World→Prop):Prop:=match p with
 |.pointer (some a)=>(match w.cell? a with |some _=>w.frozen? a=false∧v.oneCell'=true∧K (w.setCell a v) |none=>False)
 |_=>False
def _root_.Go.World.put? (w:World) (a:Addr):Nat→List Value→Option World
 |_,[]=>some w
 |i,v::vs=>if v.oneCell'=false∨w.cell? (a.add i)=none∨w.frozen? (a.add i)=true then none else(w.setCell (a.add i) v).put? a (i+1) vs
def SN (n:Nat) (p v:Value) (w:World) (K:World→Prop):Prop:=match p with
 |.pointer (some a)=>v.cells.size=n∧(match w.put? a 0 v.cells.toList with |some w'=>K w' |none=>False)
 |_=>False
def NEW (elem:TypeId) (cells:Array Value) (w:World) (K:Value→World→Prop):Prop:=
 K (.pointer (some ⟨w.heap.size,0,none⟩)) (w.alloc (.cells cells elem))
def NEWS (elem:TypeId) (n:Nat) (cells:Option (Array Value)) (w:World) (K:Value→World→Prop):Prop:=match cells with
 |some cs=>K (.slice (some ⟨w.heap.size,0,none⟩) n n) (w.alloc (.cells cs elem))
 |none=>False
def zeros (z:List Value) (n:Nat):List Value:=(List.replicate n z).flatten
def MKS (elem bytes:Nat) (z:Value) (len cap:Value) (w:World) (K:Value→World→Prop):Prop:=match len,cap with
 |.int _ l,.int _ c=>0≤l∧l≤c∧c≤1099511627776∧bytes≤256∧K (.slice (some ⟨w.heap.size,0,none⟩) l.toNat c.toNat) (w.alloc (.cells (zeros z.cells.toList c.toNat).toArray elem))
 |_,_=>False
def MKM (w:World) (K:Value→World→Prop):Prop:=K (.map (some w.heap.size)) (w.alloc (.map #[] 0))
def ents (m:Value) (w:World):Option (List MapEntry):=match m with
 |.map none=>some []
 |.map (some r)=>(match w.heap[r]? with |some (.map es _)=>some es.toList |_=>none)
 |_=>none
def findE (k:Value):List MapEntry→Nat→Option (Option (Nat×Value))
 |[],_=>some none
 |e::es,i=>match eqV k e.key with
  |some true=>some (some (i,e.val))
  |some false=>findE k es (i+1)
  |none=>none
def keyV:TD→Value→Bool
 |.int k,.int k' _=>decide (k'=k)
 |.string,.string _=>true
 |.bool,.bool _=>true
 |_,_=>false
def LK (d:TD) (ok:Bool) (zero:Value) (m k:Value) (w:World) (K:Value→Prop):Prop:=
 keyV d k=true∧match ents m w with
 |none=>False
 |some es=>match findE k es 0 with
  |none=>False
  |some none=>K (if ok then .tuple #[zero,.bool false] else zero)
  |some (some (_,v))=>K (if ok then .tuple #[v,.bool true] else v)
def MU (d:TD) (m k v:Value) (w:World) (K:World→Prop):Prop:=
 keyV d k=true∧match m with
 |.map (some r)=>(match w.heap[r]? with
  |some (.map es clock)=>(match findE k es.toList 0 with
   |none=>False
   |some none=>K (w.putObj' r (.map (es.push {key:=k,val:=v,born:=clock}) (clock+1)))
   |some (some (i,_))=>K (w.putObj' r (.map (es.modify i fun e=> {e with key:=k,val:=v}) clock)))
  |_=>False)
 |_=>False
def DEL (d:TD) (m k:Value) (w:World) (K:World→Prop):Prop:=
 keyV d k=true∧match m with
 |.map (some r)=>(match w.heap[r]? with
  |some (.map es clock)=>(match findE k es.toList 0 with
   |none=>False
   |some none=>K (w.putObj' r (.map es clock))
   |some (some (i,_))=>K (w.putObj' r (.map (es.eraseIdxIfInBounds i) clock)))
  |_=>False)
 |_=>False
def LENM (m:Value) (w:World) (K:Value→Prop):Prop:=match ents m w with
 |some es=>K (.int .i64 es.length)
 |none=>False
def srcCells (size n:Nat) (x:Value) (w:World):Option (List Value):=match x with
 |.slice (some a) _ _=>w.cellsAt? a 0 (n * size)
 |.slice none _ _=>if n=0 then some [] else none
 |.string s=>some ((s.extract 0 n).data.toList.map fun b=>.int .u8 b.toNat)
 |_=>none
def srcLen:Value→Option Nat
 |.slice _ n _=>some n
 |.string s=>some s.size
 |_=>none
def APP (elem size bytes:Nat) (z:Value) (s x:Value) (w:World) (K:Value→World→Prop):Prop:=
 match s,srcLen x with
 |.slice base sLen sCap,some n=>
  (match srcCells size n x w with
  |none=>False
  |some new=>
   if sLen+n≤sCap then
    (match base with
    |some a=>(match w.put? (a.add (sLen * size)) 0 new with |some w'=>K (.slice base (sLen+n) sCap) w' |none=>False)
    |none=>K (.slice base (sLen+n) sCap) w)
   else sLen+n≤68719476736∧0<bytes∧bytes≤1024∧(match srcCells size sLen s w with
    |none=>False
    |some old=>∀cap,sLen+n≤cap→K (.slice (some ⟨w.heap.size,0,none⟩) (sLen+n) cap)
     (w.drew.alloc (.cells (old++new++zeros z.cells.toList (cap - (sLen+n))).toArray elem))))
 |_,_=>False
def APZ (elem size bytes:Nat) (z:Value) (s x:Value) (w:World) (K:Value→World→Prop):Prop:=
 match s,x with
 |.slice base sLen sCap,.int _ n=>
   0≤n∧n≤68719476736∧0<bytes∧bytes≤1024∧
   if sLen+n.toNat≤sCap then
    (match base with
    |some a=>(match w.put? (a.add (sLen * size)) 0 (zeros z.cells.toList n.toNat) with |some w'=>K (.slice base (sLen+n.toNat) sCap) w' |none=>False)
    |none=>K (.slice base (sLen+n.toNat) sCap) w)
   else sLen+n.toNat≤68719476736∧(match srcCells size sLen s w with
    |none=>False
    |some old=>∀cap,sLen+n.toNat≤cap→K (.slice (some ⟨w.heap.size,0,none⟩) (sLen+n.toNat) cap)
     (w.drew.alloc (.cells (old++zeros z.cells.toList n.toNat++zeros z.cells.toList (cap - (sLen+n.toNat))).toArray elem)))
 |_,_=>False
def CPY (size:Nat) (dst src:Value) (w:World) (K:Value→World→Prop):Prop:=
 match dst,srcLen src with
 |.slice base dLen _,some sl=>
  (match srcCells size (min sl dLen) src w with
  |none=>False
  |some cs=>match base with
   |some a=>(match w.put? a 0 cs with |some w'=>K (.int .i64 (min sl dLen:Nat)) w' |none=>False)
   |none=>K (.int .i64 (min sl dLen:Nat)) w)
 |_,_=>False
def bytesOf:List Value→Option (List UInt8)
 |[]=>some []
 |.int .u8 n::l=>(bytesOf l).map (UInt8.ofNat n.toNat:: ·)
 |_=>none
def BTS (x:Value) (w:World) (K:Value→Prop):Prop:=match x with
 |.slice none _ _=>K (.string .empty)
 |.slice (some a) len _=>(match (w.cellsAt? a 0 len).bind bytesOf with |some l=>K (.string ⟨l.toArray⟩) |none=>False)
 |_=>False
def CLR (z:Value) (x:Value) (w:World) (K:World→Prop):Prop:=match x with
 |.slice none _ _ |.slice _ 0 _=>K w
 |.slice (some a) n _=>(match w.put? a 0 (zeros z.cells.toList n) with |some w'=>K w' |none=>False)
 |_=>False
def CallV (P:Program) (fv:Value) (args:Array Value) (w:World) (K:Value→World→Prop):Prop:=match fv with
 |.func (.func g) first cap=>(∀args w,(callFunc g args).run P w=.ok (.enter g args) w)∧Call P g (first ++args++cap) w K
 |.func (.yield l) first _=>first =#[]∧(match w.heap[l]? with
  |some (.loop r)=>args.size=r.params.size∧
   RoundR P l r.fn ((r.params.zip args).foldl (fun tmps (t,a)=>tmps.setIfInBounds t a) r.tmps) r.assign r.body w K
  |_=>False)
 |_=>False
theorem CallV.mono {P:Program} {fv:Value} {args:Array Value} {w:World} {K K':Value→World→Prop} (h:CallV P fv args w K) (hk:∀v w',K v w'→K' v w'):CallV P fv args w K':=by
 unfold CallV at *
 split at h
 ·exact⟨h.1,h.2.mono hk⟩
 ·refine⟨h.1,?_⟩
  have h:=h.2
  split at h
  ·exact⟨h.1,h.2.mono hk⟩
  ·exact h.elim
 ·exact h.elim
end Go.Cub
namespace Go.Cub
open Go
section
variable {P:Program} {w:World}
theorem run_eqGuard_int (op:BinOp) (t:TypeId) (x y:Operand) (k k':IntKind) (a b:Int):(eqGuard op t x y (.int k a) (.int k' b)).run P w=.ok () w:=by
 unfold eqGuard;split<;>rfl
theorem run_eqGuard_str (op:BinOp) (t:TypeId) (x y:Operand) (a b:ByteArray):(eqGuard op t x y (.string a) (.string b)).run P w=.ok () w:=by
 unfold eqGuard;split<;>rfl
theorem run_eqGuard_bool (op:BinOp) (t:TypeId) (x y:Operand) (a b:Bool):(eqGuard op t x y (.bool a) (.bool b)).run P w=.ok () w:=by
 unfold eqGuard;split<;>rfl
theorem run_eqGuard_ptr (op:BinOp) (t:TypeId) (x y:Operand) (a b:Option Addr):(eqGuard op t x y (.pointer a) (.pointer b)).run P w=.ok () w:=by
 unfold eqGuard;split<;>rfl
theorem run_eqGuard_slice (op:BinOp) (t:TypeId) (x y:Operand) (a b:Option Addr) (n c m d:Nat):(eqGuard op t x y (.slice a n c) (.slice b m d)).run P w=.ok () w:=by
 unfold eqGuard;split<;>rfl
theorem run_eqGuard_map (op:BinOp) (t:TypeId) (x y:Operand) (a b:Option Nat):(eqGuard op t x y (.map a) (.map b)).run P w=.ok () w:=by
 unfold eqGuard;split<;>rfl
theorem run_eqGuard_fn (op:BinOp) (t:TypeId) (x y:Operand) (f:Fn) (a b:Array Value):(eqGuard op t x y (.func f a b) .nilFunc).run P w=.ok () w:=by
 unfold eqGuard;split<;>rfl
theorem run_eqGuard_nf (op:BinOp) (t:TypeId) (x y:Operand):(eqGuard op t x y .nilFunc .nilFunc).run P w=.ok () w:=by
 unfold eqGuard;split<;>rfl
theorem str_beq (a b:ByteArray):(a.toList==b.toList)=decide (a=b):=by
 by_cases hh:a=b
 ·rw[decide_eq_true hh];exact(Lib.bytes_beq_iff a b).2 hh
 ·rw[decide_eq_false hh];exact(Lib.bytes_beq_false_iff a b).2 hh
theorem binOp_int (op:BinOp) (k:IntKind) (a b:Int) (t:TypeId) (hs:op≠ .shl) (hs':op≠ .shr):
  binOp op t (.int k a) (.int k b)=match op with
   |.add |.sub |.mul=>Op.intArith op k a b
   |.quo |.rem=>Op.intDiv op k a b
   |.and |.or |.xor |.andNot=>Op.intBits op k a b
   |_=>Op.intCmp op a b:=by
 cases op<;>first |exact absurd rfl hs |exact absurd rfl hs' |(unfold binOp;simp)
theorem run_binI {op:BinOp} {k:IntKind} {a b:Int} {t:TypeId} {v:Value} (hs:op≠ .shl) (hs':op≠ .shr) (h:binI op k a b=some v):
  (binOp op t (.int k a) (.int k b)).run P w=.ok v w:=by
 rw[binOp_int op k a b t hs hs']
 cases op<;>simp only[binI,Option.some.injEq] at h
 case add=>subst h;rfl
 case sub=>subst h;rfl
 case mul=>subst h;rfl
 case quo=>(by_cases hb:b=0);(· simp[hb] at h);(· simp only[hb,if_false,Option.some.injEq] at h;subst h;simp[Op.intDiv,hb])
 case rem=>(by_cases hb:b=0);(· simp[hb] at h);(· simp only[hb,if_false,Option.some.injEq] at h;subst h;simp[Op.intDiv,hb])
 case and =>subst h;rfl
 case or=>subst h;rfl
 case xor=>subst h;rfl
 case andNot=>subst h;rfl
 case shl=>simp at h
 case shr=>simp at h
 case eql=>subst h;simp only[Op.intCmp,Sem.run_pure];by_cases hh:a=b<;>simp[hh]
 case neq=>subst h;simp only[Op.intCmp,Sem.run_pure];by_cases hh:a=b<;>simp[hh]
 case lss=>subst h;rfl
 case leq=>subst h;rfl
 case gtr=>subst h;rfl
 case geq=>subst h;rfl
theorem run_equal_of {t:TypeId} {x y:Value} {r:Bool} (h:∀d,(Op.equalIn (d+1) t x y).run P w=.ok r w):(Op.equal t x y).run P w=.ok r w:=h 9999
theorem binOp_ptr (op:BinOp) (t:TypeId) (a:Option Addr) (h:op=.eql∨op=.neq):binOp op t (.pointer a) (.pointer none)=
  if op=.eql then(do pure (.bool (←Op.equal t (.pointer a) (.pointer none)))) else(do pure (.bool (!(←Op.equal t (.pointer a) (.pointer none))))):=by
 rcases h with rfl |rfl<;>cases a<;>rfl
theorem binOp_slice (op:BinOp) (t:TypeId) (a b:Option Addr) (n c m d:Nat) (h:op=.eql∨op=.neq):binOp op t (.slice a n c) (.slice b m d)=
  if op=.eql then(do pure (.bool (←Op.equal t (.slice a n c) (.slice b m d)))) else(do pure (.bool (!(←Op.equal t (.slice a n c) (.slice b m d))))):=by
 rcases h with rfl |rfl<;>rfl
theorem binOp_map (op:BinOp) (t:TypeId) (a b:Option Nat) (h:op=.eql∨op=.neq):binOp op t (.map a) (.map b)=
  if op=.eql then(do pure (.bool (←Op.equal t (.map a) (.map b)))) else(do pure (.bool (!(←Op.equal t (.map a) (.map b))))):=by
 rcases h with rfl |rfl<;>rfl
theorem binOp_bool (op:BinOp) (t:TypeId) (a b:Bool) (h:op=.eql∨op=.neq):binOp op t (.bool a) (.bool b)=
  if op=.eql then(do pure (.bool (←Op.equal t (.bool a) (.bool b)))) else(do pure (.bool (!(←Op.equal t (.bool a) (.bool b))))):=by
 rcases h with rfl |rfl<;>rfl
theorem binOp_fn (op:BinOp) (t:TypeId) (f:Fn) (a b:Array Value) (h:op=.eql∨op=.neq):binOp op t (.func f a b) .nilFunc=
  if op=.eql then(do pure (.bool (←Op.equal t (.func f a b) .nilFunc))) else(do pure (.bool (!(←Op.equal t (.func f a b) .nilFunc)))):=by
 rcases h with rfl |rfl<;>rfl
theorem binOp_nf (op:BinOp) (t:TypeId) (h:op=.eql∨op=.neq):binOp op t .nilFunc .nilFunc=
  if op=.eql then(do pure (.bool (←Op.equal t .nilFunc .nilFunc))) else(do pure (.bool (!(←Op.equal t .nilFunc .nilFunc)))):=by
 rcases h with rfl |rfl<;>rfl
theorem run_binV {i:TI} {tt:TTab} (ok:TabOk P tt) {t:TypeId} (ht:tt t=some i) {op:BinOp} {x y v:Value} (cx cy:Operand) (h:binV i op x y=some v):
  (do eqGuard op t cx cy x y;binOp op t x y:Sem Value).run P w=.ok v w:=by
 have hu:=ok.und t i ht
 rw[Sem.run_bind]
 unfold binV at h
 split at h
 ·
  rename_i k a k' b
  rw[run_eqGuard_int]
  simp only[Result.andThen_ok]
  split at h
  ·by_cases hb:b<0
   ·simp[hb] at h
   ·simp only[hb,if_false,Option.some.injEq] at h;subst h;simp[binOp,Op.shift,hb]
  ·by_cases hb:b<0
   ·simp[hb] at h
   ·simp only[hb,if_false,Option.some.injEq] at h;subst h;simp[binOp,Op.shift,hb]
  ·rename_i h1 h2
   by_cases hk:k=k'
   ·subst hk
    simp only[ne_eq,not_true_eq_false,if_false] at h
    exact run_binI (fun e=>h1 e) (fun e=>h2 e) h
   ·simp[hk] at h
 ·rename_i a b
  rw[run_eqGuard_bool]
  simp only[Result.andThen_ok]
  split at h<;>rename_i hd<;>(try (simp at h;done))
  all_goals
   have hd':P.underlying t=some .bool:=by
    rw[hd] at hu
    unfold TD.fits at hu
    split at hu<;>simp_all
   simp only[Option.some.injEq] at h;subst h
   rw[binOp_bool _ _ _ _ (by simp)]
   simp only[if_true,reduceCtorEq,if_false,Sem.run_bind,run_equal_of (P:=P) (w:=w) (t:=t) (x:=.bool a) (y:=.bool b) (r:=a==b) (fun d=>by simp[Op.equalIn,run_underlying hd']),Result.andThen_ok,Sem.run_pure]
   cases a<;>cases b<;>rfl
 ·rename_i a b
  rw[run_eqGuard_str]
  simp only[Result.andThen_ok]
  split at h<;>(try (simp at h;done))<;>simp only[Option.some.injEq] at h<;>subst h<;>unfold binOp<;>simp[Op.stringOp,str_beq]
 ·rename_i a
  rw[run_eqGuard_ptr]
  simp only[Result.andThen_ok]
  split at h<;>rename_i hd<;>(try (simp at h;done))
  all_goals
   rename_i e
   have hd':P.underlying t=some (.pointer e):=by
    rw[hd] at hu
    unfold TD.fits at hu
    split at hu<;>simp_all
   simp only[Option.some.injEq] at h;subst h
   rw[binOp_ptr _ _ _ (by simp)]
   simp only[if_true,reduceCtorEq,if_false,Sem.run_bind,run_equal_of (P:=P) (w:=w) (t:=t) (x:=.pointer a) (y:=.pointer none) (r:=a.isNone) (fun d=>by(first |(cases a<;>simp[Op.equalIn,run_underlying hd']) |simp[Op.equalIn,run_underlying hd'])),Result.andThen_ok,Sem.run_pure]
   try (first |rfl |(cases a<;>rfl))
 ·rename_i a n c m d
  rw[run_eqGuard_slice]
  simp only[Result.andThen_ok]
  split at h<;>rename_i hd<;>(try (simp at h;done))
  all_goals
   rename_i e
   have hd':P.underlying t=some (.slice e):=by
    rw[hd] at hu
    unfold TD.fits at hu
    split at hu<;>simp_all
   simp only[Option.some.injEq] at h;subst h
   rw[binOp_slice _ _ _ _ _ _ _ _ (by simp)]
   simp only[if_true,reduceCtorEq,if_false,Sem.run_bind,run_equal_of (P:=P) (w:=w) (t:=t) (x:=.slice a n c) (y:=.slice none m d) (r:=a.isNone) (fun d=>by(first |(cases a<;>simp[Op.equalIn,run_underlying hd']) |simp[Op.equalIn,run_underlying hd'])),Result.andThen_ok,Sem.run_pure]
   try (first |rfl |(cases a<;>rfl))
 ·rename_i a
  rw[run_eqGuard_map]
  simp only[Result.andThen_ok]
  split at h<;>rename_i hd<;>(try (simp at h;done))
  all_goals
   rename_i kk e
   have hd':P.underlying t=some (.map kk e):=by
    rw[hd] at hu
    unfold TD.fits at hu
    split at hu<;>simp_all
   simp only[Option.some.injEq] at h;subst h
   rw[binOp_map _ _ _ _ (by simp)]
   simp only[if_true,reduceCtorEq,if_false,Sem.run_bind,run_equal_of (P:=P) (w:=w) (t:=t) (x:=.map a) (y:=.map none) (r:=a.isNone) (fun d=>by(first |(cases a<;>simp[Op.equalIn,run_underlying hd']) |simp[Op.equalIn,run_underlying hd'])),Result.andThen_ok,Sem.run_pure]
   try (first |rfl |(cases a<;>rfl))
 ·rename_i f aa bb
  rw[run_eqGuard_fn]
  simp only[Result.andThen_ok]
  split at h<;>rename_i hd<;>(try (simp at h;done))
  all_goals
   rw[hd] at hu
   unfold TD.fits at hu
   split at hu<;>(try (simp at *;done))
   rename_i hh
   simp only[Option.some.injEq] at h;subst h
   rw[binOp_fn _ _ _ _ _ (by simp)]
   simp only[if_true,reduceCtorEq,if_false,Sem.run_bind,run_equal_of (P:=P) (w:=w) (t:=t) (x:=.func f aa bb) (y:=.nilFunc) (r:=false) (fun d=>by(first |(cases a<;>simp[Op.equalIn,run_underlying hh]) |simp[Op.equalIn,run_underlying hh])),Result.andThen_ok,Sem.run_pure]
   try (first |rfl |(cases a<;>rfl))
 ·rw[run_eqGuard_nf]
  simp only[Result.andThen_ok]
  split at h<;>rename_i hd<;>(try (simp at h;done))
  all_goals
   rw[hd] at hu
   unfold TD.fits at hu
   split at hu<;>(try (simp at *;done))
   rename_i hh
   simp only[Option.some.injEq] at h;subst h
   rw[binOp_nf _ _ (by simp)]
   simp only[if_true,reduceCtorEq,if_false,Sem.run_bind,run_equal_of (P:=P) (w:=w) (t:=t) (x:=.nilFunc) (y:=.nilFunc) (r:=true) (fun d=>by(first |(cases a<;>simp[Op.equalIn,run_underlying hh]) |simp[Op.equalIn,run_underlying hh])),Result.andThen_ok,Sem.run_pure]
   try (first |rfl |(cases a<;>rfl))
 ·rename_i xs ys
  split at h
  ·simp at h
  ·rename_i d ds he
   cases hl:eqL (d::ds) xs.toList ys.toList with
   |none=>simp[hl] at h
   |some b=>
    simp only[hl,Option.map_some,Option.some.injEq] at h
    subst h
    have :=ok.eqs t i ht (by simp[he]) xs ys b cx cy w (by rw[he];exact hl)
    rwa[Sem.run_bind] at this
  ·simp at h
 ·simp at h
end
end Go.Cub
