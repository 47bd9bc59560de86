/-
  Part 6 of the proof that TopNested returns true and leaves what it was given as it was. CONDITIONS: those of the given row and card.
-/
import Derived.Test.YtpelalpajdpkgaaGreatDoorZ04
import Derived.Laws.StructEq
set_option linter.all false
namespace Go.Cub
open Go
section
variable {P:Program} {C:Ctx} {a:Act} {w:World} {k:List Item}
theorem rch_endRangeFunc {l:Nat} {r:Loop} (hl:w.heap[l]?=some (.loop r)) (hs:r.state≠ .busy)
  (h:Rch P C ((r.pending.map Item.code).toList++k) a (w.putObj' l (.loop {r with state:=.exhausted}))):Rch P C (.endRangeFunc l::k) a w:=by
 refine Reach.step (m₁:=lone (C.fr a ((r.pending.map Item.code).toList++k)) C.cs (w.putObj' l (.loop {r with state:=.exhausted}))) (step_lone_go ?_) h
 have hrun:(Instr.endLoop l).run P w=.ok r.pending (w.putObj' l (.loop {r with state:=.exhausted})):=by
  simp[Instr.endLoop,Instr.getLoop,getObj,setObj,Sem.run,hl,hs,World.putObj']
 simp[stepG,stepG.exec,Ctx.fr,hrun]
theorem step_rf {g:Operand} {ps:Array Tmp} {assign body:Code} {l:Nat} {mark:List Deferred} {w₁ w₂:World} {d:Deferred} {f:FuncId} {args:Array Value}
  (he:(Instr.enterLoop C.fn a.tmps ps assign body C.round).run P w=.ok (l,mark) w₁)
  (hres:(resolve a.eval {callee:=.value g,args:=#[.const (.func (.yield l) #[] #[])],argTypes:=#[]} 0).run P w₁=.ok d w₁) (hinv:(invoke d.target d.args).run P w₁=.ok (.enter f args) w₂):
  step P (lone (C.fr a (.code (.rangeFunc g ps assign body)::k)) C.cs w)=
   .next (lone (Frame.enter P f args .normal) (C.fr {a with defers:=mark++a.defers} (.inRangeFunc l::k)::C.cs) w₂):=
 step_lone_go (by
  have hev:(C.fr {a with defers:=mark++a.defers} (.inRangeFunc l::k)).eval=({a with defers:=mark++a.defers}:Act).eval:=funext (fr_eval C _ _)
  simp only[Ctx.fr] at hev
  have hres':Sem.run P (resolve ({tmps:=a.tmps,defers:=mark++a.defers}:Act).eval {callee:=.value g,args:=#[.const (.func (.yield l) #[] #[])],argTypes:=#[]} 0) w₁=.ok d w₁:=hres
  simp[stepG,stepG.exec,Ctx.fr,Sem.runT_eq,he,GStep.bare_after,stepG.apply,hev,Sem.run_bind,hres',hinv,Result.andThen])
theorem resolve_yield {f:Operand} {g:FuncId} {first cap:Array Value} (hf:a.eval f=.func (.func g) first cap) (l:Nat):
  (resolve a.eval {callee:=.value f,args:=#[.const (.func (.yield l) #[] #[])],argTypes:=#[]} 0).run P w=.ok {target:=.fn (.func g) cap,args:=first ++#[.func (.yield l) #[] #[]]} w:=by
 have h2:a.eval (.const (.func (.yield l) #[] #[]))=.func (.yield l) #[] #[]:=rfl
 simp[resolve,Deferred.ofValue,hf,h2]
theorem rch_rangeFunc {f:Operand} {params:Array Tmp} {aq body:Code} {g:FuncId} {first cap:Array Value} (hround:C.round=none) (hf:a.eval f=.func (.func g) first cap)
  (hg:∀args w,(callFunc g args).run P w=.ok (.enter g args) w)
  (h:Call P g (first ++#[.func (.yield (w.heap.size+1)) #[] #[]]++cap) ((w.alloc (.deferred (some []))).alloc (loopObj C.fn a.tmps params aq body w.heap.size))
   fun _ w'=>Rch P C (.endRangeFunc (w.heap.size+1)::k) {a with defers:= {target:=.collected w.heap.size,args:=#[]}::a.defers} w'):
  Rch P C (.code (.rangeFunc f params aq body)::k) a w:=by
 have hrun:(Instr.enterLoop C.fn a.tmps params aq body C.round).run P w=.ok (w.heap.size+1,[{target:=.collected w.heap.size,args:=#[]}]) ((w.alloc (.deferred (some []))).alloc (loopObj C.fn a.tmps params aq body w.heap.size)):=by
  rw[hround];simp[Instr.enterLoop,loopObj]
 refine Reach.step (step_rf hrun (resolve_yield hf _) ?_) ((h _ _).bind ?_)
 ·simp[invoke,hg]
 ·rintro m ⟨v,w',hq,rfl⟩
  exact hq
theorem rch_rangeFunc_in {f:Operand} {params:Array Tmp} {aq body:Code} {g:FuncId} {first cap:Array Value} {l₀:Nat} {r₀:Loop} (hround:C.round=some l₀) (hl:w.heap[l₀]?=some (.loop r₀)) (hf:a.eval f=.func (.func g) first cap)
  (hg:∀args w,(callFunc g args).run P w=.ok (.enter g args) w)
  (h:Call P g (first ++#[.func (.yield w.heap.size) #[] #[]]++cap) (w.alloc (loopObj C.fn a.tmps params aq body r₀.defers))
   fun _ w'=>Rch P C (.endRangeFunc w.heap.size::k) a w'):
  Rch P C (.code (.rangeFunc f params aq body)::k) a w:=by
 have hrun:(Instr.enterLoop C.fn a.tmps params aq body C.round).run P w=.ok (w.heap.size,[]) (w.alloc (loopObj C.fn a.tmps params aq body r₀.defers)):=by
  rw[hround];simp[Instr.enterLoop,Instr.getLoop,getObj,Sem.run,hl,loopObj]
 refine Reach.step (step_rf hrun (resolve_yield hf _) ?_) ((h _ _).bind ?_)
 ·simp[invoke,hg]
 ·rintro m ⟨v,w',hq,rfl⟩
  exact hq
theorem rch_beginRound {l:Nat} {r:Loop} (hround:C.round=some l) (hl:w.heap[l]?=some (.loop r)) (hs:r.state=.ready)
  (h:Rch P C k a (w.putObj' l (.loop {r with state:=.busy}))):Rch P C (.beginRound::k) a w:=by
 refine Reach.step (m₁:=lone (C.fr a k) C.cs (w.putObj' l (.loop {r with state:=.busy}))) (step_lone_go ?_) h
 have hrun:((do (some l).elim (stuck "beginRound: no round") Instr.beginRound;pure .skip:Sem Next)).run P w=.ok .skip (w.putObj' l (.loop {r with state:=.busy})):=by
  simp[Instr.beginRound,Instr.getLoop,getObj,setObj,Sem.run,hl,hs,World.putObj']
 simp only[stepG,stepG.exec,Ctx.fr,hround]
 simp only[stepG.apply,Sem.runT_eq,if_true,hrun]
 simp[Frame.finish]
theorem round_leave {l:Nat} {r:Loop} {c:Frame} {cs:List Frame} (hround:C.round=some l) (hk:C.kind=.normal) (hcs:C.cs=c::cs) (hl:w.heap[l]?=some (.loop r)) (jump:Option Code) (todo:List Item)
  (ht:(todo=[]∧jump=none)∨(∃k,todo=.code .ret::k∧jump=some .ret)∨(∃id k,todo=.code (.exit id)::k∧jump=some (.exit id)∧exitTo id k=none))
  (h:Reach P (lone (c.finish (.bool jump.isNone)) cs (w.putObj' l (.loop {r with state:=if jump.isNone then .ready else .done,pending:=jump}))) C.G):Rch P C todo a w:=by
 refine Reach.step (m₁:=lone (c.finish (.bool jump.isNone)) cs (w.putObj' l (.loop {r with state:=if jump.isNone then .ready else .done,pending:=jump}))) ?_ h
 rw[hcs]
 have hrun:∀j,(Instr.endRound l j).run P w=.ok (.bool j.isNone) (w.putObj' l (.loop {r with state:=if j.isNone then .ready else .done,pending:=j})):=by
  intro j
  simp[Instr.endRound,Instr.getLoop,getObj,setObj,Sem.run,hl,World.putObj']
 refine step_lone_go ?_
 rcases ht with ⟨rfl,rfl⟩ |⟨k,rfl,rfl⟩ |⟨id,k,rfl,rfl,he⟩
 ·simp[stepG,stepG.exec,Ctx.fr,hround,hrun,doReturn,hk]
 ·simp[stepG,stepG.exec,Ctx.fr,hround,hrun,doReturn,hk]
 ·simp[stepG,stepG.exec,Ctx.fr,hround,he,hrun,doReturn,hk]
end
section
variable {P:Program} {tt:TTab} {cal:Nat→Bool} {C:Ctx} {n:Nat} {stops:List Nat} {lv:Nat→List Nat} {blk:Nat→St} {fid:FuncId} {rd:Option Nat}
theorem allEq_use {tm:Array Value}:∀ {l:List (Nat×Value)} {R:Prop},(∀t∈l,tm.getD t.1 undef=t.2)→allEq tm l R→R
 |[],_,_,h=>h
 |t::_,_,h,hr=>allEq_use (fun x hx=>h x (List.mem_cons_of_mem _ hx)) (hr (h t (List.mem_cons_self ..)))
theorem reg_ok (ok:TabOk P tt) (hcal:CalOk P cal) (hk:C.kind≠ .early) (hm:P.follows .mixedOrders=true) (hrd:C.round=rd) {id:Nat} {ops:Array Oper} {draw:Bool} {k:List Item}
  (hs:stat n rd.isSome (.region id ops draw)=true) {K:St} (hK:Right n K fun a w=>Rch P C k a w):Right n (regPT P tt cal ops draw K) fun a w=>Rch P C (.code (.region id ops draw)::k) a w:=by
 intro ρ df a w h hr hdf
 simp only[stat,Bool.and_eq_true,Bool.or_eq_true,Bool.not_eq_true'] at hs
 obtain⟨⟨h1,h2⟩,h3⟩:=hs
 unfold regPT at h
 cases draw with
 |true=>exact drawRegion_ok ok hcal hk hm h1 (h2.resolve_left (by simp)) h hr hdf hK
 |false=>
  refine seqRegion_ok ok hcal hk h1 ?_ h hr hdf hK
  rcases h3 with h3 |h3
  ·left;rw[hrd];cases rd<;>simp_all
  ·right;exact h3
theorem HBlk.seq_left {x y:Code} {k:List Item} (h:HBlk P C n blk (.seq x y) k):HBlk P C n blk x (.code y::k):=fun r td ht=>h r td (by simp[todoAt,ht])
theorem HBlk.seq_right {x y:Code} {k:List Item} (h:HBlk P C n blk (.seq x y) k) (hu:uniq (.seq x y)=true):HBlk P C n blk y k:=fun r td ht=>h r td (by
 have hm:=todoAt_mem ht
 simp only[uniq,Bool.and_eq_true,List.all_eq_true,Bool.not_eq_true'] at hu
 have :r∉ids x:=fun hx=>by have :=hu.2 r hx;simp[hm] at this
 simp[todoAt,todoAt_none x _ this,ht])
theorem HBlk.cond_left {c:Operand} {x y:Code} {k:List Item} (h:HBlk P C n blk (.cond c x y) k):HBlk P C n blk x k:=fun r td ht=>h r td (by simp[todoAt,ht])
theorem HBlk.cond_right {c:Operand} {x y:Code} {k:List Item} (h:HBlk P C n blk (.cond c x y) k) (hu:uniq (.cond c x y)=true):HBlk P C n blk y k:=fun r td ht=>h r td (by
 have hm:=todoAt_mem ht
 simp only[uniq,Bool.and_eq_true,List.all_eq_true,Bool.not_eq_true'] at hu
 have :r∉ids x:=fun hx=>by have :=hu.2 r hx;simp[hm] at this
 simp[todoAt,todoAt_none x _ this,ht])
variable (ok:TabOk P tt) (hcal:CalOk P cal) (hk:C.kind≠ .early) (hm:P.follows .mixedOrders=true) (hrd:C.round=rd) (hfid:C.fn=fid) (hlv:∀r,∀t∈lv r,t<n)
include ok hcal hk hm hrd hfid hlv
theorem den_ok:∀(c:Code) (kn:St) (ke:Nat→St) (kr:St) (k:List Item),stat n rd.isSome c=true→uniq c=true→HBlk P C n blk c k→
  Right n kn (fun a w=>Rch P C k a w)→(∀id,Right n (ke id) fun a w=>EX P C id k a w)→Right n kr (fun a w=>RT P C a w)→
  Right n (den P tt cal fid rd n stops lv blk c kn ke kr) fun a w=>Rch P C (.code c::k) a w
 |.skip,kn,ke,kr,k,_,_,_,hkn,_,_=>fun ρ df a w h hr hdf=>rch_skip (hkn ρ df a w h hr hdf)
 |.label _,kn,ke,kr,k,_,_,_,hkn,_,_=>fun ρ df a w h hr hdf=>rch_label (hkn ρ df a w h hr hdf)
 |.region id ops draw,kn,ke,kr,k,hs,_,hb,hkn,_,_=>fun ρ df a w h hr hdf=>by
  simp only[den] at h
  cases hc:stops.contains id with
  |true=>rw[hc] at h;exact hb id _ (by simp[todoAt]) ρ df a w h hr hdf
  |false=>rw[hc] at h;exact reg_ok ok hcal hk hm hrd hs hkn ρ df a w h hr hdf
 |.seq x y,kn,ke,kr,k,hs,hu,hb,hkn,hke,hkr=>fun ρ df a w h hr hdf=>by
  simp only[stat,Bool.and_eq_true] at hs
  have hu':=hu
  simp only[uniq,Bool.and_eq_true] at hu'
  exact rch_seq (den_ok x _ ke kr (.code y::k) hs.1 hu'.1.1 hb.seq_left
   (den_ok y kn ke kr k hs.2 hu'.1.2 (hb.seq_right hu) hkn hke hkr)
   (fun id ρ df a w h1 h2 h3=>(hke id ρ df a w h1 h2 h3).code) hkr ρ df a w h hr hdf)
 |.cond c x y,kn,ke,kr,k,hs,hu,hb,hkn,hke,hkr=>fun ρ df a w h hr hdf=>by
  simp only[stat,Bool.and_eq_true] at hs
  have hu':=hu
  simp only[uniq,Bool.and_eq_true] at hu'
  have he:=hr.eval hs.1.1
  simp only[den,CND] at h
  split at h
  ·rename_i hc
   exact rch_cond (t:=true) (he.trans hc) (den_ok x kn ke kr k hs.1.2 hu'.1.1 hb.cond_left hkn hke hkr ρ df a w h hr hdf)
  ·rename_i hc
   exact rch_cond (t:=false) (he.trans hc) (den_ok y kn ke kr k hs.2 hu'.1.2 (hb.cond_right hu) hkn hke hkr ρ df a w h hr hdf)
  ·exact h.elim
 |.block id b,kn,ke,kr,k,hs,hu,hb,hkn,hke,hkr=>fun ρ df a w h hr hdf=>by
  refine rch_block (den_ok b kn _ kr (.inBlock id::k) hs hu hb (fun ρ df a w h1 h2 h3=>rch_inBlock (hkn ρ df a w h1 h2 h3)) ?_ hkr ρ df a w h hr hdf)
  intro j ρ df a w h1 h2 h3
  refine EX.block ?_
  unfold exM at h1 ⊢
  cases hbq:Nat.beq j id with
  |true=>rw[hbq] at h1;exact hkn ρ df a w h1 h2 h3
  |false=>rw[hbq] at h1;exact hke j ρ df a w h1 h2 h3
 |.loop b,kn,ke,kr,k,hs,hu,hb,hkn,hke,hkr=>fun ρ df a w h hr hdf=>by
  simp only[den] at h
  cases hf:firstReg b with
  |some r=>
   rw[hf] at h
   obtain⟨td,h1,h2⟩:=desc (P:=P) C b (.inLoop b::k) hf
   exact rch_loop (h2 a w (hb r td h1 ρ df a w h hr hdf))
  |none=>rw[hf] at h;exact h.elim
 |.exit id,kn,ke,kr,k,hs,hu,hb,hkn,hke,hkr=>fun ρ df a w h hr hdf=>(hke id ρ df a w h hr hdf).rch
 |.ret,kn,ke,kr,k,hs,hu,hb,hkn,hke,hkr=>fun ρ df a w h hr hdf=>hkr ρ df a w h hr hdf k
 |.rangeFunc f params aq body,kn,ke,kr,k,hs,hu,hb,hkn,hke,hkr=>fun ρ df a w h hr hdf=>by
  have he:=hr.eval (x:=f) hs
  have jmp:∀(j:Option Code) (df:List Deferred) (a':Act) (w':World),Rel n a' ρ→a'.defers=df→JMP j (kn ρ df w') (fun id=>ke id ρ df w') (kr ρ df w')→Rch P C ((j.map Item.code).toList++k) a' w':=by
   intro j df a' w' hr' hdf' hj
   unfold JMP at hj
   split at hj
   ·exact hkn ρ df a' w' hj hr' hdf'
   ·exact hkr ρ df a' w' hj hr' hdf' k
   ·exact(hke _ ρ df a' w' hj hr' hdf').rch
   ·exact hj.elim
  have hlive:∀t∈((match firstReg body with |some r=>lv r |none=>[]).map fun t=>(t,ρ t)),a.tmps.getD t.1 undef=t.2:=by
   intro t ht
   obtain⟨x,hx,rfl⟩:=List.mem_map.1 ht
   split at hx
   ·exact hr.eq x (hlv _ x hx)
   ·cases hx
  simp only[den,RF] at h
  split at h
  ·rename_i g first cap hfv
   obtain⟨hg,h⟩:=h
   have h:=allEq_use hlive (h a.tmps hr.size)
   have fin:∀(l:Nat) (df:List Deferred) (a':Act) (w':World),Rel n a' ρ→a'.defers=df→EL l w' (fun j w''=>JMP j (kn ρ df w'') (fun id=>ke id ρ df w'') (kr ρ df w''))→Rch P C (.endRangeFunc l::k) a' w':=by
    intro l df a' w' hr' hdf' hel
    unfold EL at hel
    split at hel
    ·rename_i r hl
     exact rch_endRangeFunc hl hel.1 (jmp _ df a' _ hr' hdf' hel.2)
    ·exact hel.elim
   cases hrdv:rd with
   |none=>
    rw[hrdv] at h
    rw[hrdv] at hrd
    refine rch_rangeFunc hrd (he.trans hfv) hg ?_
    rw[hfid]
    exact Call.mono h fun v w' hel=>fin _ _ {a with defers:= {target:=.collected w.heap.size,args:=#[]}::a.defers} w' ⟨hr.size,hr.eq⟩ (by simp[hdf]) hel
   |some l₀=>
    rw[hrdv] at h
    rw[hrdv] at hrd
    simp only at h
    split at h
    ·rename_i r₀ hl₀
     refine rch_rangeFunc_in hrd hl₀ (he.trans hfv) hg ?_
     rw[hfid]
     exact Call.mono h fun v w' hel=>fin _ _ a w' hr hdf hel
    ·exact h.elim
  ·exact h.elim
 |.scope _,_,_,_,_,_,_,_,_,_,_ |.goto _,_,_,_,_,_,_,_,_,_,_ |.refuse _,_,_,_,_,_,_,_,_,_,_=>fun _ _ _ _ h _ _=>h.elim
theorem denAt_ok {r:Nat} {f:St}:∀(c:Code) (kn:St) (ke:Nat→St) (kr:St) (k:List Item),stat n rd.isSome c=true→uniq c=true→HBlk P C n blk c k→
  Right n kn (fun a w=>Rch P C k a w)→(∀id,Right n (ke id) fun a w=>EX P C id k a w)→Right n kr (fun a w=>RT P C a w)→
  denAt P tt cal fid rd n stops lv blk r c kn ke kr=some f→∃td,todoAt r c k=some td∧Right n f fun a w=>Rch P C td a w
 |.region id ops draw,kn,ke,kr,k,hs,hu,hb,hkn,hke,hkr,h=>by
  simp only[denAt] at h
  split at h
  ·rename_i hbq
   simp only[Option.some.injEq] at h;subst h
   exact⟨_,by simp[todoAt,hbq],reg_ok ok hcal hk hm hrd hs hkn⟩
  ·cases h
 |.seq x y,kn,ke,kr,k,hs,hu,hb,hkn,hke,hkr,h=>by
  have hu':=hu
  simp only[uniq,Bool.and_eq_true] at hu'
  simp only[stat,Bool.and_eq_true] at hs
  have hy:=den_ok (stops:=stops) ok hcal hk hm hrd hfid hlv y kn ke kr k hs.2 hu'.1.2 (hb.seq_right hu) hkn hke hkr
  simp only[denAt] at h
  split at h
  ·rename_i f' hf'
   simp only[Option.some.injEq] at h;subst h
   obtain⟨td,h1,h2⟩:=denAt_ok x _ ke kr (.code y::k) hs.1 hu'.1.1 hb.seq_left hy (fun id ρ df a w h1 h2 h3=>(hke id ρ df a w h1 h2 h3).code) hkr hf'
   exact⟨td,by simp[todoAt,h1],h2⟩
  ·obtain⟨td,h1,h2⟩:=denAt_ok y kn ke kr k hs.2 hu'.1.2 (hb.seq_right hu) hkn hke hkr h
   have hmm:=todoAt_mem h1
   have :r∉ids x:=fun hx=>by
    have :=List.all_eq_true.1 hu'.2 r hx;simp[hmm] at this
   exact⟨td,by simp[todoAt,todoAt_none x _ this,h1],h2⟩
 |.cond c x y,kn,ke,kr,k,hs,hu,hb,hkn,hke,hkr,h=>by
  have hu':=hu
  simp only[uniq,Bool.and_eq_true] at hu'
  simp only[stat,Bool.and_eq_true] at hs
  simp only[denAt] at h
  split at h
  ·rename_i f' hf'
   simp only[Option.some.injEq] at h;subst h
   obtain⟨td,h1,h2⟩:=denAt_ok x kn ke kr k hs.1.2 hu'.1.1 hb.cond_left hkn hke hkr hf'
   exact⟨td,by simp[todoAt,h1],h2⟩
  ·obtain⟨td,h1,h2⟩:=denAt_ok y kn ke kr k hs.2 hu'.1.2 (hb.cond_right hu) hkn hke hkr h
   have hmm:=todoAt_mem h1
   have :r∉ids x:=fun hx=>by
    have :=List.all_eq_true.1 hu'.2 r hx;simp[hmm] at this
   exact⟨td,by simp[todoAt,todoAt_none x _ this,h1],h2⟩
 |.block id b,kn,ke,kr,k,hs,hu,hb,hkn,hke,hkr,h=>by
  refine denAt_ok b kn _ kr (.inBlock id::k) hs hu hb (fun ρ df a w h1 h2 h3=>rch_inBlock (hkn ρ df a w h1 h2 h3)) ?_ hkr h
  intro j ρ df a w h1 h2 h3
  refine EX.block ?_
  unfold exM at h1 ⊢
  cases hbq:Nat.beq j id with
  |true=>rw[hbq] at h1;exact hkn ρ df a w h1 h2 h3
  |false=>rw[hbq] at h1;exact hke j ρ df a w h1 h2 h3
 |.loop b,kn,ke,kr,k,hs,hu,hb,hkn,hke,hkr,h=>by
  refine denAt_ok b _ ke kr (.inLoop b::k) hs hu hb ?_ (fun id ρ df a w h1 h2 h3=>(hke id ρ df a w h1 h2 h3).inLoop) hkr h
  intro ρ df a w h1 h2 h3
  cases hf:firstReg b with
  |some r=>
   rw[hf] at h1
   obtain⟨td,g1,g2⟩:=desc (P:=P) C b (.inLoop b::k) hf
   exact rch_inLoop (g2 a w (hb r td g1 ρ df a w h1 h2 h3))
  |none=>rw[hf] at h1;exact h1.elim
 |.skip,_,_,_,_,_,_,_,_,_,_,h |.label _,_,_,_,_,_,_,_,_,_,_,h |.rangeFunc ..,_,_,_,_,_,_,_,_,_,_,h |.exit _,_,_,_,_,_,_,_,_,_,_,h
 |.scope _,_,_,_,_,_,_,_,_,_,_,h |.goto _,_,_,_,_,_,_,_,_,_,_,h |.ret,_,_,_,_,_,_,_,_,_,_,h |.refuse _,_,_,_,_,_,_,_,_,_,_,h=>by simp[denAt] at h
end
end Go.Cub
namespace Go.Cub
open Go
def RET (P:Program):List Deferred→World→(World→Prop)→Prop
 |[],w,K=>K w
 |d::ds,w,K=>match d.target with
  |.collected b=>(match w.heap[b]? with
   |some (.deferred (some []))=>RET P ds (w.putObj' b (.deferred none)) K
   |_=>False)
  |.fn (.func f) cap=>(∀args w,(callFunc f args).run P w=.ok (.enter f args) w)∧CallD P f (d.args++cap) w fun w=>RET P ds w K
  |_=>False
def RES (tt:TTab):List ResultVar→Env→World→(List Value→Prop)→Prop
 |[],_,_,K=>K []
 |.tmp t::rs,ρ,w,K=>RES tt rs ρ w fun vs=>K (ρ t::vs)
 |.cell a t::rs,ρ,w,K=>(match tt t with
  |some i=>(match i.d.isAgg with
   |true=>LN i.size (ρ a) w fun v=>RES tt rs ρ w fun vs=>K (v::vs)
   |false=>L1 (ρ a) w fun v=>RES tt rs ρ w fun vs=>K (v::vs))
  |none=>False)
def retV:List Value→Value
 |[v]=>v
 |vs=>.tuple vs.toArray
def resLt (n:Nat) (rs:List ResultVar):Bool:=rs.all fun r=>match r with
 |.tmp t=>decide (t<n)
 |.cell a _=>decide (a<n)
section
variable {P:Program} {tt:TTab} {cal:Nat→Bool} {n:Nat}
theorem lft_fn' {C:Ctx} {a:Act} {w:World} {f:FuncId} {cap args:Array Value} {ds:List Deferred} (hd:a.defers= {target:=.fn (.func f) cap,args}::ds)
  (hf:∀args w,(callFunc f args).run P w=.ok (.enter f args) w) (h:CallD P f (args++cap) w fun w'=>Lft P C {a with defers:=ds} w'):Lft P C a w:=by
 intro todo
 have hrun:(invoke (.fn (.func f) cap) args).run P w=.ok (.enter f (args++cap)) w:=by simp[invoke,hf]
 refine Reach.step (m₁:=lone (Frame.enter P f (args++cap) .deferred) (C.left {a with defers:=ds} todo::C.cs) w) ?_ ?_
 ·refine step_lone_go ?_
  simp[stepG,unwind,callDeferred,Ctx.left,Ctx.fr,hd,hrun]
 ·refine(h (C.left {a with defers:=ds} todo) C.cs rfl).bind ?_
  rintro m ⟨w',hq,rfl⟩
  exact hq todo
theorem res_ok (ok:TabOk P tt) {ρ:Env} {a:Act} {w:World} (hr:Rel n a ρ):∀(rs:List ResultVar) (K:List Value→Prop),resLt n rs=true→RES tt rs ρ w K→
  ∃vs,K vs∧(rs.mapM (m:=Sem) fun
   |.tmp t=>pure (a.tmps.getD t undef)
   |.cell a' t=>do loadVar t (←asAddr (a.tmps.getD a' undef))).run P w=.ok vs w
 |[],K,_,h=>⟨[],h,by simp⟩
 |r::rs,K,hl,h=>by
  simp only[resLt,List.all_cons,Bool.and_eq_true] at hl
  cases r with
  |tmp t=>
   have ht:t<n:=by simpa using hl.1
   obtain⟨vs,hk,hrun⟩:=res_ok ok hr rs _ hl.2 h
   refine⟨_,hk,?_⟩
   rw[List.mapM_cons]
   simp only[Sem.run_bind,Sem.run_pure,Result.andThen_ok,hr.eq t ht]
   rw[hrun];rfl
  |cell a' t=>
   have ht:a'<n:=by simpa using hl.1
   simp only[RES] at h
   have go:∀v,(do let x ←asAddr (ρ a');loadVar t x:Sem Value).run P w=.ok v w→RES tt rs ρ w (fun vs=>K (v::vs))→∃vs,K vs∧((ResultVar.cell a' t::rs).mapM (m:=Sem) fun
     |.tmp t=>pure (a.tmps.getD t undef)
     |.cell a' t=>do loadVar t (←asAddr (a.tmps.getD a' undef))).run P w=.ok vs w:=by
    intro v hv hR
    obtain⟨vs,hk,hrun⟩:=res_ok ok hr rs _ hl.2 hR
    refine⟨_,hk,?_⟩
    rw[List.mapM_cons]
    simp only[Sem.run_bind,hr.eq a' ht]
    have hv':((asAddr (ρ a')).run P w).andThen (fun x w=>(loadVar t x).run P w)=.ok v w:=by
     rw[←hv];exact(Sem.run_bind P w (asAddr (ρ a')) (loadVar t)).symm
    rw[hv']
    simp only[Result.andThen_ok]
    rw[hrun];rfl
   split at h
   ·rename_i i hi
    split at h
    ·rename_i hg
     unfold LN at h
     split at h
     ·rename_i ad ha
      split at h
      ·rename_i cs hcs
       refine go _ ?_ h
       rw[ha]
       simp[asAddr,loadVar,run_agg ok hi,hg,run_size ok hi,run_loadCells' ad i.size cs hcs]
      ·exact h.elim
     ·exact h.elim
    ·rename_i hg
     unfold L1 at h
     split at h
     ·rename_i ad ha
      split at h
      ·rename_i v hv
       refine go _ ?_ h
       rw[ha]
       simp[asAddr,loadVar,run_agg ok hi,hg,hv]
      ·exact h.elim
     ·exact h.elim
   ·exact h.elim
theorem results_run (ok:TabOk P tt) {fn:Func} {ρ:Env} {a:Act} {w:World} (hr:Rel n a ρ) (hl:resLt n fn.results.toList=true) {K:Value→World→Prop} (h:RES tt fn.results.toList ρ w fun vs=>K (retV vs) w):
  ∃v,K v w∧(results fn a.tmps).run P w=.ok v w:=by
 obtain⟨vs,hk,hrun⟩:=res_ok ok hr fn.results.toList _ hl h
 refine⟨_,hk,?_⟩
 have hm:(fn.results.mapM (m:=Sem) fun
   |.tmp t=>pure (a.tmps.getD t undef)
   |.cell a' t=>do loadVar t (←asAddr (a.tmps.getD a' undef))).run P w=.ok vs.toArray w:=by
  rw[Array.mapM_eq_mapM_toList]
  simp only[Sem.run_map]
  rw[hrun];rfl
 unfold results
 rw[Sem.run_bind]
 refine(congrArg (fun x=>Result.andThen x _) hm).trans ?_
 simp only[Result.andThen_ok,Sem.run_pure]
 congr 1
 match vs with
 |[]=>rfl
 |[v]=>rfl
 |x::y::l=>simp[retV]
structure FnCtx (P:Program) (fn:Func) (R:Value→World→Prop) (C:Ctx):Prop where
 round:C.round=none
 kind:C.kind≠ .early
 fin:∀a v w,a.defers=[]→(results fn a.tmps).run P w=.ok v w→R v w→Lft P C a w
theorem ret_ok (ok:TabOk P tt) {fn:Func} {R:Value→World→Prop} {C:Ctx} (hC:FnCtx P fn R C) (hl:resLt n fn.results.toList=true) {ρ:Env}:∀(df:List Deferred) (a:Act) (w:World),Rel n a ρ→a.defers=df→
  RET P df w (fun w=>RES tt fn.results.toList ρ w fun vs=>R (retV vs) w)→Lft P C a w
 |[],a,w,hr,hdf,h=>by
  obtain⟨v,hk,hrun⟩:=results_run ok hr hl (K:=R) h
  exact hC.fin a v w hdf hrun hk
 |d::ds,a,w,hr,hdf,h=>by
  obtain⟨target,args⟩:=d
  simp only[RET] at h
  split at h
  ·rename_i b
   split at h
   ·rename_i hb
    exact lft_collected hdf hb (ret_ok ok hC hl ds {a with defers:=ds} _ ⟨hr.size,hr.eq⟩ rfl h)
   ·exact h.elim
  ·rename_i f cap
   exact lft_fn' hdf h.1 (h.2.mono fun w' h'=>ret_ok ok hC hl ds {a with defers:=ds} w' ⟨hr.size,hr.eq⟩ rfl h')
  ·exact h.elim
def krF (P:Program) (tt:TTab) (fn:Func) (R:Value→World→Prop):St:=fun ρ df w=>RET P df w fun w=>RES tt fn.results.toList ρ w fun vs=>R (retV vs) w
def FnBlk (P:Program) (f:FuncId) (fn:Func) (c:Code) (n:Nat) (R:Value→World→Prop) (r:Nat):St:=fun ρ df w=>
 ∀C a,FnCtx P fn R C→C.fn=f→Rel n a ρ→a.defers=df→Rch P C ((todoAt r c []).getD []) a w
structure FnOk (P:Program) (f:FuncId) (fn:Func) (c:Code) (n:Nat):Prop where
 func:P.funcs[f]?=some fn
 body:fn.body=some c
 ntmps:fn.ntmps=n
 stat:stat n false c=true
 uniq:uniq c=true
 res:resLt n fn.results.toList=true
theorem FnCtx.rt {fn:Func} {R:Value→World→Prop} {C:Ctx} (hC:FnCtx P fn R C) (ok:TabOk P tt) (hl:resLt n fn.results.toList=true):Right n (krF P tt fn R) fun a w=>RT P C a w:=
 fun ρ df a w h hr hdf _=>rch_ret hC.round (ret_ok ok hC hl df a w hr hdf h)
theorem FnCtx.end {fn:Func} {R:Value→World→Prop} {C:Ctx} (hC:FnCtx P fn R C) (ok:TabOk P tt) (hl:resLt n fn.results.toList=true):Right n (krF P tt fn R) fun a w=>Rch P C [] a w:=
 fun ρ df a w h hr hdf=>rch_end hC.round (ret_ok ok hC hl df a w hr hdf h)
variable (P tt cal) in
def fnDenAt (f:FuncId) (fn:Func) (c:Code) (n:Nat) (stops:List Nat) (lv:Nat→List Nat) (blk:Nat→St) (R:Value→World→Prop) (r:Nat):St:=fun ρ df w=>
 match denAt P tt cal f none n stops lv blk r c (krF P tt fn R) (fun _ _ _ _=>False) (krF P tt fn R) with
 |some g=>g ρ df w
 |none=>False
variable (P tt cal) in
def fnDen (f:FuncId) (fn:Func) (c:Code) (n:Nat) (stops:List Nat) (lv:Nat→List Nat) (blk:Nat→St) (R:Value→World→Prop):St:=
 den P tt cal f none n stops lv blk c (krF P tt fn R) (fun _ _ _ _=>False) (krF P tt fn R)
theorem hblk_of {f:FuncId} {fn:Func} {c:Code} {blk:Nat→St} {R:Value→World→Prop} {C:Ctx} (hC:FnCtx P fn R C) (hf:C.fn=f)
  (hb:∀r ρ df w,blk r ρ df w→FnBlk P f fn c n R r ρ df w):HBlk P C n blk c []:=by
 intro r td ht ρ df a w h hr hdf
 have :=hb r ρ df w h C a hC hf hr hdf
 rw[ht] at this
 exact this
theorem fnBlk_of (ok:TabOk P tt) (hcal:CalOk P cal) (hm:P.follows .mixedOrders=true) {f:FuncId} {fn:Func} {c:Code} (F:FnOk P f fn c n) {stops:List Nat} {lv:Nat→List Nat} (hlv:∀r,∀t∈lv r,t<n) {blk:Nat→St} {R:Value→World→Prop}
  (hb:∀r ρ df w,blk r ρ df w→FnBlk P f fn c n R r ρ df w) {r:Nat} {ρ:Env} {df:List Deferred} {w:World} (h:fnDenAt P tt cal f fn c n stops lv blk R r ρ df w):FnBlk P f fn c n R r ρ df w:=by
 intro C a hC hf hr hdf
 unfold fnDenAt at h
 cases hd:denAt P tt cal f none n stops lv blk r c (krF P tt fn R) (fun _ _ _ _=>False) (krF P tt fn R) with
 |none=>rw[hd] at h;exact h.elim
 |some g=>
  rw[hd] at h
  obtain⟨td,ht,hR⟩:=denAt_ok (rd:=none) ok hcal hC.kind hm hC.round hf hlv c _ _ _ [] F.stat F.uniq (hblk_of hC hf hb) (hC.end ok F.res) (fun id ρ df a w h _ _=>h.elim) (hC.rt ok F.res) hd
  rw[ht]
  exact hR ρ df a w h hr hdf
def envOf (args:List Value):Env:=fun t=>args.getD t undef
theorem rel_enter (args:Array Value) (n:Nat) (h:args.size≤n):Rel n {tmps:=args++Array.replicate (n - args.size) undef,defers:=[]} (envOf args.toList):=by
 refine⟨by simp;omega,fun t ht=>?_⟩
 unfold envOf
 by_cases h1:t<args.size
 ·simp[Array.getD,h1,Array.getElem_append,List.getD];omega
 ·simp[Array.getD,h1,Array.getElem_append,List.getD]
theorem fnCtx_call {f:FuncId} {fn:Func} {R:Value→World→Prop} (hfn:P.funcs[f]?=some fn) (c:Frame) (cs:List Frame):
  FnCtx P fn R {fn:=f,kind:=.normal,round:=none,cs:=c::cs,G:=fun m=>∃v w',R v w'∧m=lone (c.finish v) cs w'}:=
 ⟨rfl,by simp,fun _ v w hd hr hR=>lft_nil hfn rfl hd rfl hr (.here ⟨v,w,hR,rfl⟩)⟩
theorem fnCtx_callD {f:FuncId} {fn:Func} {R:World→Prop} (hfn:P.funcs[f]?=some fn) (c:Frame) (cs:List Frame) (hc:c.mode=.returning):
  FnCtx P fn (fun _ w=>R w) {fn:=f,kind:=.deferred,round:=none,cs:=c::cs,G:=fun m=>∃w',R w'∧m=lone c cs w'}:=
 ⟨rfl,by simp,fun _ _ w hd hr hR=>lft_nil_deferred hfn rfl hd rfl hc hr (.here ⟨w,hR,rfl⟩)⟩
theorem call_of (ok:TabOk P tt) (hcal:CalOk P cal) (hm:P.follows .mixedOrders=true) {f:FuncId} {fn:Func} {c:Code} (F:FnOk P f fn c n) {stops:List Nat} {lv:Nat→List Nat} (hlv:∀r,∀t∈lv r,t<n) {blk:Nat→St} {R:Value→World→Prop}
  (hb:∀r ρ df w,blk r ρ df w→FnBlk P f fn c n R r ρ df w) {args:Array Value} (ha:args.size≤n) {w:World} (h:fnDen P tt cal f fn c n stops lv blk R (envOf args.toList) [] w):Call P f args w R:=by
 intro cl cs
 have hC:=fnCtx_call (P:=P) (R:=R) F.func cl cs
 have :=den_ok (C:= {fn:=f,kind:=.normal,round:=none,cs:=cl::cs,G:=fun m=>∃v w',R v w'∧m=lone (cl.finish v) cs w'}) (rd:=none) ok hcal hC.kind hm hC.round rfl hlv c _ _ _ [] F.stat F.uniq (hblk_of hC rfl hb) (hC.end ok F.res) (fun id ρ df a w h _ _=>h.elim) (hC.rt ok F.res)
  (envOf args.toList) [] _ w h (rel_enter args n ha) rfl
 have he:Frame.enter P f args .normal=({fn:=f,kind:=.normal,round:=none,cs:=cl::cs,G:=fun m=>∃v w',R v w'∧m=lone (cl.finish v) cs w'}:Ctx).fr {tmps:=args++Array.replicate (n - args.size) undef,defers:=[]} [.code c]:=by
  simp[Frame.enter,Ctx.fr,F.func,F.body,F.ntmps]
 rw[he]
 exact this
theorem callD_of (ok:TabOk P tt) (hcal:CalOk P cal) (hm:P.follows .mixedOrders=true) {f:FuncId} {fn:Func} {c:Code} (F:FnOk P f fn c n) {stops:List Nat} {lv:Nat→List Nat} (hlv:∀r,∀t∈lv r,t<n) {blk:Nat→St} {R:World→Prop}
  (hb:∀r ρ df w,blk r ρ df w→FnBlk P f fn c n (fun _ w=>R w) r ρ df w) {args:Array Value} (ha:args.size≤n) {w:World} (h:fnDen P tt cal f fn c n stops lv blk (fun _ w=>R w) (envOf args.toList) [] w):CallD P f args w R:=by
 intro cl cs hcl
 have hC:=fnCtx_callD (P:=P) (R:=R) F.func cl cs hcl
 have :=den_ok (C:= {fn:=f,kind:=.deferred,round:=none,cs:=cl::cs,G:=fun m=>∃w',R w'∧m=lone cl cs w'}) (rd:=none) ok hcal hC.kind hm hC.round rfl hlv c _ _ _ [] F.stat F.uniq (hblk_of hC rfl hb) (hC.end ok F.res) (fun id ρ df a w h _ _=>h.elim) (hC.rt ok F.res)
  (envOf args.toList) [] _ w h (rel_enter args n ha) rfl
 have he:Frame.enter P f args .deferred=({fn:=f,kind:=.deferred,round:=none,cs:=cl::cs,G:=fun m=>∃w',R w'∧m=lone cl cs w'}:Ctx).fr {tmps:=args++Array.replicate (n - args.size) undef,defers:=[]} [.code c]:=by
  simp[Frame.enter,Ctx.fr,F.func,F.body,F.ntmps]
 rw[he]
 exact this
def BR (l:Nat) (w:World) (K:World→Prop):Prop:=match w.heap[l]? with
 |some (.loop r)=>r.state=.ready∧K (w.putObj' l (.loop {r with state:=.busy}))
 |_=>False
def ER (l:Nat) (j:Option Code) (w:World) (R:Value→World→Prop):Prop:=match w.heap[l]? with
 |some (.loop r)=>R (.bool j.isNone) (w.putObj' l (.loop {r with state:=if j.isNone then .ready else .done,pending:=j}))
 |_=>False
variable (P tt cal) in
def roundDen (f:FuncId) (n:Nat) (lv:Nat→List Nat) (aq body:Code) (l:Nat) (R:Value→World→Prop):St:=fun ρ df w=>
 den P tt cal f (some l) n [] lv (fun _ _ _ _=>False) aq (fun ρ df w=>BR l w fun w=>
  den P tt cal f (some l) n [] lv (fun _ _ _ _=>False) body (fun _ _ w=>ER l none w R) (fun id _ _ w=>ER l (some (.exit id)) w R) (fun _ _ w=>ER l (some .ret) w R) ρ df w)
  (fun _ _ _ _=>False) (fun _ _ _=>False) ρ df w
theorem round_of (ok:TabOk P tt) (hcal:CalOk P cal) (hm:P.follows .mixedOrders=true) {f:FuncId} {lv:Nat→List Nat} (hlv:∀r,∀t∈lv r,t<n) {aq body:Code} (hs:stat n true aq=true) (hu:uniq aq=true) (hs':stat n true body=true) (hu':uniq body=true)
  {l:Nat} {R:Value→World→Prop} {tmps:Array Value} {ρ:Env} {w:World} (hr:Rel n {tmps,defers:=[]} ρ) (h:roundDen P tt cal f n lv aq body l R ρ [] w):RoundR P l f tmps aq body w R:=by
 intro c cs
 let C:Ctx:= {fn:=f,kind:=.normal,round:=some l,cs:=c::cs,G:=fun m=>∃v w',R v w'∧m=lone (c.finish v) cs w'}
 show Rch P C [.code aq,.beginRound,.code body] {tmps,defers:=[]} w
 have nob:∀(c:Code) (k:List Item),HBlk P C n (fun _ _ _ _=>False) c k:=fun _ _ _ _ _ _ _ _ _ h=>h.elim
 have leave:∀(j:Option Code) (todo:List Item) (a:Act) (w:World),((todo=[]∧j=none)∨(∃k,todo=.code .ret::k∧j=some .ret)∨(∃id k,todo=.code (.exit id)::k∧j=some (.exit id)∧exitTo id k=none))→ER l j w R→Rch P C todo a w:=by
  intro j todo a w ht he
  unfold ER at he
  split at he
  ·rename_i r hl
   exact round_leave (C:=C) rfl rfl rfl hl j todo ht (.here ⟨_,_,he,rfl⟩)
  ·exact he.elim
 refine den_ok (C:=C) (rd:=some l) ok hcal (by simp[C]) hm rfl rfl hlv aq _ _ _ [.beginRound,.code body] hs hu (nob _ _) ?_ (fun _ _ _ _ _ h=>h.elim) (fun _ _ _ _ h=>h.elim) ρ [] _ w h hr rfl
 intro ρ df a w h hr hdf
 unfold BR at h
 split at h
 ·rename_i r hl
  refine rch_beginRound (C:=C) rfl hl h.1 ?_
  refine den_ok (C:=C) (rd:=some l) ok hcal (by simp[C]) hm rfl rfl hlv body _ _ _ [] hs' hu' (nob _ _) ?_ ?_ ?_ ρ df a _ h.2 hr hdf
  ·exact fun ρ df a w h _ _=>leave none [] a w (.inl ⟨rfl,rfl⟩) h
  ·exact fun id ρ df a w h _ _=>.inr ⟨rfl,fun k hk=>leave _ _ a w (.inr (.inr ⟨id,k,rfl,rfl,hk⟩)) h⟩
  ·exact fun ρ df a w h _ _ k=>leave _ _ a w (.inr (.inl ⟨k,rfl,rfl⟩)) h
 ·exact h.elim
def setArgs:List (Tmp×Value)→Array Value→Array Value
 |[],tm=>tm
 |(t,v)::l,tm=>setArgs l (tm.setIfInBounds t v)
theorem yield_of {l:Nat} {w:World} {r:Loop} {args:Array Value} {R:Value→World→Prop} (hl:w.heap[l]?=some (.loop r)) (hs:args.size=r.params.size)
  (h:RoundR P l r.fn (setArgs (r.params.toList.zip args.toList) r.tmps) r.assign r.body w R):CallV P (.func (.yield l) #[] #[]) args w R:=by
 refine⟨rfl,?_⟩
 rw[hl]
 refine⟨hs,?_⟩
 have :(r.params.zip args).foldl (fun tmps (t,a)=>tmps.setIfInBounds t a) r.tmps=setArgs (r.params.toList.zip args.toList) r.tmps:=by
  rw[←Array.foldl_toList,Array.toList_zip]
  generalize r.params.toList.zip args.toList=L
  generalize r.tmps=T
  induction L generalizing T with
  |nil=>rfl
  |cons x L ih=>exact ih _
 rw[this];exact h
end
end Go.Cub
namespace Go.Cub
open Go
def buildS (size:Nat) (zero:Value) (n:Nat) (parts:List (Nat×Value)):Option (Array Value):=buildSl {d:=.other,size,bytes:=0,zero} n parts
def lookTI:List (Nat×TI)→Nat→Option TI
 |[],_=>none
 |(u,i)::l,t=>match Nat.beq u t with
  |true=>some i
  |false=>lookTI l t
theorem lookTI_mem {l:List (Nat×TI)} {t:Nat} {i:TI} (h:lookTI l t=some i):(t,i)∈l:=by
 induction l with
 |nil=>simp[lookTI] at h
 |cons x l ih=>
  obtain⟨u,j⟩:=x
  unfold lookTI at h
  cases hb:Nat.beq u t with
  |true=>
   rw[hb] at h
   simp only[Option.some.injEq] at h
   have :=Nat.eq_of_beq_eq_true hb
   subst this;subst h
   simp
  |false=>
   rw[hb] at h
   exact List.mem_cons_of_mem _ (ih h)
def lookL:List (Nat×List Nat)→Nat→Option (List Nat)
 |[],_=>none
 |(u,i)::l,t=>match Nat.beq u t with
  |true=>some i
  |false=>lookL l t
theorem lookL_mem {l:List (Nat×List Nat)} {t:Nat} {i:List Nat} (h:lookL l t=some i):(t,i)∈l:=by
 induction l with
 |nil=>simp[lookL] at h
 |cons x l ih=>
  obtain⟨u,j⟩:=x
  unfold lookL at h
  cases hb:Nat.beq u t with
  |true=>
   rw[hb] at h
   simp only[Option.some.injEq] at h
   have :=Nat.eq_of_beq_eq_true hb
   subst this;subst h
   simp
  |false=>
   rw[hb] at h
   exact List.mem_cons_of_mem _ (ih h)
def lvOf (L:List (Nat×List Nat)) (r:Nat):List Nat:=match lookL L r with
 |some l=>l
 |none=>[]
def lvLt (n:Nat) (L:List (Nat×List Nat)):Bool:=L.all fun x=>x.2.all fun t=>decide (t<n)
theorem lvLt_elim {n:Nat} {L:List (Nat×List Nat)} (h:lvLt n L=true):∀r,∀t∈lvOf L r,t<n:=by
 intro r t ht
 unfold lvOf at ht
 split at ht
 ·rename_i l hl
  have :=List.all_eq_true.1 (List.all_eq_true.1 h _ (lookL_mem hl)) t ht
  simpa using this
 ·simp at ht
def envL:Env→List (Nat×Value)→Env
 |d,[]=>d
 |d,(t,v)::l=>envL (d.set t v) l
theorem envL_self (ρ:Env):∀ts:List Nat,envL ρ (ts.map fun t=>(t,ρ t))=ρ
 |[]=>rfl
 |t::ts=>by
  have :ρ.set t (ρ t)=ρ:=by
   funext u
   simp only[Env.set,beq_eq]
   by_cases h:u=t
   ·simp[h]
   ·simp[h]
  simp only[List.map_cons,envL,this]
  exact envL_self ρ ts
section
variable (P:Program) (f:FuncId) (fn:Func) (c:Code) (n:Nat)
def Blk (R:Value→World→Prop) (r:Nat) (live:List (Nat×Value)) (df:List Deferred) (w:World):Prop:=∀d,FnBlk P f fn c n R r (envL d live) df w
def blks (L:List (Nat×List Nat)) (R:Value→World→Prop):Nat→St:=fun r ρ df w=>match lookL L r with
 |some ts=>Blk P f fn c n R r (ts.map fun t=>(t,ρ t)) df w
 |none=>False
end
section
variable {P:Program} {tt:TTab} {cal:Nat→Bool} {f:FuncId} {fn:Func} {c:Code} {n:Nat} {L:List (Nat×List Nat)} {R:Value→World→Prop}
theorem blks_ok (r:Nat) (ρ:Env) (df:List Deferred) (w:World) (h:blks P f fn c n L R r ρ df w):FnBlk P f fn c n R r ρ df w:=by
 unfold blks at h
 split at h
 ·have :=h ρ
  rwa[envL_self] at this
 ·exact h.elim
theorem blk_intro (ok:TabOk P tt) (hcal:CalOk P cal) (hm:P.follows .mixedOrders=true) (F:FnOk P f fn c n) (hL:lvLt n L=true) {stops:List Nat} {r:Nat} {live:List (Nat×Value)} {df:List Deferred} {w:World} {Q:Prop}
  (h:∀d,fnDenAt P tt cal f fn c n stops (lvOf L) (blks P f fn c n L R) R r (envL d live) df w=Q) (q:Q):Blk P f fn c n R r live df w:=by
 intro d
 refine fnBlk_of ok hcal hm F (lvLt_elim hL) (blks_ok (L:=L)) (stops:=stops) (tt:=tt) (cal:=cal) ?_
 rw[h d];exact q
theorem call_intro (ok:TabOk P tt) (hcal:CalOk P cal) (hm:P.follows .mixedOrders=true) (F:FnOk P f fn c n) (hL:lvLt n L=true) {stops:List Nat} {args:Array Value} (ha:args.size≤n) {w:World} {Q:Prop}
  (h:fnDen P tt cal f fn c n stops (lvOf L) (blks P f fn c n L R) R (envOf args.toList) [] w=Q) (q:Q):Call P f args w R:=by
 refine call_of ok hcal hm F (lvLt_elim hL) (blks_ok (L:=L)) ha (stops:=stops) (tt:=tt) (cal:=cal) ?_
 rw[h];exact q
theorem callD_intro (ok:TabOk P tt) (hcal:CalOk P cal) (hm:P.follows .mixedOrders=true) (F:FnOk P f fn c n) {R:World→Prop} (hL:lvLt n L=true) {stops:List Nat} {args:Array Value} (ha:args.size≤n) {w:World} {Q:Prop}
  (h:fnDen P tt cal f fn c n stops (lvOf L) (blks P f fn c n L (fun _ w=>R w)) (fun _ w=>R w) (envOf args.toList) [] w=Q) (q:Q):CallD P f args w R:=by
 refine callD_of ok hcal hm F (lvLt_elim hL) (blks_ok (L:=L)) ha (stops:=stops) (tt:=tt) (cal:=cal) ?_
 rw[h];exact q
def rfAt (r:Nat):Code→Option (Array Tmp×Code×Code)
 |.seq x y=>(match rfAt r x with
  |some a=>some a
  |none=>rfAt r y)
 |.cond _ x y=>(match rfAt r x with
  |some a=>some a
  |none=>rfAt r y)
 |.block _ b=>rfAt r b
 |.loop b=>rfAt r b
 |.rangeFunc _ ps aq b=>(match firstReg b with
  |some r'=>(match Nat.beq r' r with
   |true=>some (ps,aq,b)
   |false=>rfAt r b)
  |none=>rfAt r b)
 |_=>none
def rfAs (r:Nat) (c:Code):Code:=match rfAt r c with |some x=>x.2.1 |none=>.skip
def rfBody (r:Nat) (c:Code):Code:=match rfAt r c with |some x=>x.2.2 |none=>.skip
structure RdOk (n:Nat) (ps:List Nat) (aq body:Code):Prop where
 sas:stat n true aq=true
 uas:uniq aq=true
 sbody:stat n true body=true
 ubody:uniq body=true
 ps:(ps.all fun t=>decide (t<n))=true
theorem setArgs_envL (n:Nat) (l:List (Tmp×Value)) (tm:Array Value) (ρ:Env) (hl:∀x∈l,x.1<n) (h:Rel n {tmps:=tm,defers:=[]} ρ):Rel n {tmps:=setArgs l tm,defers:=[]} (envL ρ l):=by
 induction l generalizing tm ρ with
 |nil=>exact h
 |cons x l ih=>
  obtain⟨t,v⟩:=x
  refine ih _ _ (fun x hx=>hl x (List.mem_cons_of_mem _ hx)) ?_
  have :=h.put (some t) v (fun d hd=>by simp only[Option.some.injEq] at hd;subst hd;exact hl (t,v) (by simp))
  simpa[Act.put,Env.put] using this
theorem envL_append (d:Env) (a b:List (Nat×Value)):envL d (a++b)=envL (envL d a) b:=by
 induction a generalizing d with
 |nil=>rfl
 |cons x a ih=>exact ih _
theorem envL_tm (tm:Array Value):∀(live:List (Nat×Value)),(∀x∈live,tm.getD x.1 undef=x.2)→envL (fun t=>tm.getD t undef) live=fun t=>tm.getD t undef
 |[],_=>rfl
 |(t,v)::l,h=>by
  have hv:tm.getD t undef=v:=h (t,v) (by simp)
  have :Env.set (fun t=>tm.getD t undef) t v=fun t=>tm.getD t undef:=by
   funext u
   simp only[Env.set,beq_eq]
   by_cases e:u=t
   ·subst e;simp only[decide_true];exact hv.symm
   ·simp[e]
  simp only[envL,this]
  exact envL_tm tm l fun x hx=>h x (List.mem_cons_of_mem _ hx)
theorem yield_intro (ok:TabOk P tt) (hcal:CalOk P cal) (hm:P.follows .mixedOrders=true) {ps:List Nat} {aq body:Code} (F:RdOk n ps aq body) (hL:lvLt n L=true) {l:Nat} {w:World} {r:Loop} {args:List Value}
  (hl:w.heap[l]?=some (.loop r)) (hf:r.fn=f) (hp:r.params=ps.toArray) (ha:r.assign=aq) (hb:r.body=body) (hn:r.tmps.size=n) {live:List (Nat×Value)} (hlive:∀x∈live,r.tmps.getD x.1 undef=x.2)
  (hlen:args.length=ps.length) {Q:Prop} (h:∀d,roundDen P tt cal f n (lvOf L) aq body l R (envL d (live++ps.zip args)) [] w=Q) (q:Q):CallV P (.func (.yield l) #[] #[]) args.toArray w R:=by
 refine yield_of hl (by simp[hp,hlen]) ?_
 subst hf;subst ha;subst hb
 have hps:∀x∈ps.zip args,x.1<n:=by
  intro x hx
  have :=List.all_eq_true.1 F.ps x.1 (List.of_mem_zip hx).1
  simpa using this
 rw[hp]
 simp only
 refine round_of ok hcal hm (lvLt_elim hL) F.sas F.uas F.sbody F.ubody (tt:=tt) (cal:=cal) (ρ:=envL (fun t=>r.tmps.getD t undef) (ps.zip args)) ?_ ?_
 ·exact setArgs_envL n _ _ _ hps ⟨hn,fun t _=>rfl⟩
 ·have :=h fun t=>r.tmps.getD t undef
  rw[envL_append,envL_tm _ _ hlive] at this
  rw[this];exact q
end
end Go.Cub
namespace Go.Cub
open Go
def EqOk (P:Program) (t:TypeId) (ds:List TD):Prop:=∀(xs ys:Array Value) (b:Bool) (x y:Operand) (w:World),eqL ds xs.toList ys.toList=some b→
  (do eqGuard .eql t x y (.agg xs) (.agg ys);binOp .eql t (.agg xs) (.agg ys):Sem Value).run P w=.ok (.bool b) w
structure TyOk (P:Program) (t:TypeId) (i:TI):Prop where
 und:i.d.fits (P.underlying t)
 inf:(P.info? t).map (fun j=>(j.size,j.bytes,j.zero))=some (i.size,i.bytes,some i.zero)
 agg:(i.d.isAgg||Nat.beq i.size 1)=true
 eqs:i.eqs=[]∨EqOk P t i.eqs
def TysOk (P:Program):List (Nat×TI)→Prop
 |[]=>True
 |x::l=>TyOk P x.1 x.2∧TysOk P l
theorem TysOk.mem {P:Program} {l:List (Nat×TI)} (h:TysOk P l):∀x∈l,TyOk P x.1 x.2:=by
 induction l with
 |nil=>simp
 |cons y l ih=>
  intro x hx
  rcases List.mem_cons.1 hx with rfl |hx
  ·exact h.1
  ·exact ih h.2 x hx
theorem tabOk_of {P:Program} {l:List (Nat×TI)} (h:TysOk P l):TabOk P (lookTI l):=by
 refine⟨fun t i ht=>(h.mem _ (lookTI_mem ht)).und,fun t i ht=>?_,fun t i ht ha=>?_,fun t i ht he=>?_⟩
 ·have :=(h.mem _ (lookTI_mem ht)).inf
  simp only[Option.map_eq_some_iff,Prod.mk.injEq] at this
  obtain⟨inf,h1,h2,h3,h4⟩:=this
  exact⟨inf,h1,h2,h3,h4⟩
 ·have :=(h.mem _ (lookTI_mem ht)).agg
  simp only[ha,Bool.false_or] at this
  exact Nat.eq_of_beq_eq_true this
 ·rcases (h.mem _ (lookTI_mem ht)).eqs with h' |h'
  ·exact absurd h' he
  ·exact h'
def fitsE:TD→Option TypeDesc→Prop
 |.int _,some (.int _) |.bool,some .bool |.string,some .string=>True
 |_,_=>False
def FldOk (P:Program):List Field→List TD→Nat→Prop
 |[],[],_=>True
 |f::fs,d::ds,off=>f.name≠ "_" ∧f.offset=off∧fitsE d (P.underlying f.type)∧FldOk P fs ds (off+1)
 |_,_,_=>False
theorem eqD_run {P:Program} {w:World} (m:Nat) {t:TypeId} {d:TD} (hd:fitsE d (P.underlying t)) {x y:Value} {b:Bool} (h:eqD d x y=some b):(Op.equalIn (m+1) t x y).run P w=.ok b w:=by
 unfold fitsE at hd
 split at hd<;>(try exact hd.elim)<;>rename_i hu
 ·cases x<;>cases y<;>simp only[eqD,reduceCtorEq] at h
  rename_i k a k' c
  by_cases hk:k=k'
  ·subst hk
   simp only[if_true,Option.some.injEq] at h;subst h
   rw[run_equalIn_int w m t _ _ _ _ hu]
   congr 1
  ·simp[hk] at h
 ·cases x<;>cases y<;>simp only[eqD,reduceCtorEq,Option.some.injEq] at h
  rename_i a c
  subst h
  rw[run_equalIn_bool w m t _ _ hu]
  congr 1
 ·cases x<;>cases y<;>simp only[eqD,reduceCtorEq,Option.some.injEq] at h
  subst h
  rw[run_equalIn_string w m t _ _ hu]
  rw[str_beq]
theorem fitsE_part {P:Program} {w:World} {t:TypeId} {d:TD} (hd:fitsE d (P.underlying t)) {xs:Array Value} {off:Nat} {v:Value} (hx:xs[off]?=some v):(part t xs off).run P w=.ok v w:=by
 unfold fitsE at hd
 split at hd<;>(try exact hd.elim)<;>rename_i hu<;>simp[part,isAgg,run_underlying hu,hx]
theorem eqFields_run {P:Program} {w:World} (m:Nat) (xs ys:Array Value):∀(fs:List Field) (ds:List TD) (off:Nat) (b:Bool),FldOk P fs ds off→eqL ds (xs.toList.drop off) (ys.toList.drop off)=some b→
  (Op.eqFields (m+1) xs ys fs).run P w=.ok b w
 |[],[],off,b,_,h=>by
  have :b=true:=by
   unfold eqL at h
   split at h<;>simp_all
  subst this
  simp[Op.eqFields]
 |f::fs,d::ds,off,b,hf,h=>by
  obtain⟨hn,rfl,hd,hr⟩:=hf
  cases hx:xs.toList.drop f.offset with
  |nil=>rw[hx] at h;simp[eqL] at h
  |cons x xs'=>
   cases hy:ys.toList.drop f.offset with
   |nil=>rw[hx,hy] at h;simp[eqL] at h
   |cons y ys'=>
    rw[hx,hy] at h
    have hx1:xs[f.offset]?=some x:=by
     have :=congrArg List.head? hx
     simpa[List.head?_drop] using this
    have hy1:ys[f.offset]?=some y:=by
     have :=congrArg List.head? hy
     simpa[List.head?_drop] using this
    have hx2:xs.toList.drop (f.offset+1)=xs':=by
     have :=congrArg List.tail hx
     simpa[List.tail_drop] using this
    have hy2:ys.toList.drop (f.offset+1)=ys':=by
     have :=congrArg List.tail hy
     simpa[List.tail_drop] using this
    simp only[eqL] at h
    cases h1:eqD d x y with
    |none=>simp[h1] at h
    |some r=>
     cases h2:eqL ds xs' ys' with
     |none=>simp[h1,h2] at h
     |some r'=>
      simp only[h1,h2,Option.some.injEq] at h
      subst h
      have ih:=eqFields_run m xs ys fs ds (f.offset+1) r' hr (by rw[hx2,hy2];exact h2) (w:=w) (P:=P)
      simp only[Op.eqFields,hn,ne_eq,not_false_eq_true,if_true,Sem.run_bind,fitsE_part hd hx1,fitsE_part hd hy1,eqD_run m hd h1,Result.andThen_ok]
      cases r
      ·simp
      ·simpa using ih
 |[],_::_,_,_,hf,_=>hf.elim
 |_::_,[],_,_,hf,_=>hf.elim
theorem eqOk_struct {P:Program} {t:TypeId} {fs:Array Field} {ds:List TD} (hu:P.underlying t=some (.struct fs)) (hf:FldOk P fs.toList ds 0) (hg:P.eqGuardType P.depth t=false) (hs:P.stoodInHeld t=false):EqOk P t ds:=by
 intro xs ys b x y w h
 have hfs:P.fieldsOf t=fs:=by simp[Program.fieldsOf,hu]
 have h1:(Op.equal t (.agg xs) (.agg ys)).run P w=.ok b w:=by
  have :=run_equalIn_struct (P:=P) w 9999 t xs ys (by rw[hfs];exact hu) hs
  unfold Op.equal
  refine(show(Op.equalIn (9999+1) t (.agg xs) (.agg ys)).run P w=_ from this).trans ?_
  rw[hfs]
  exact eqFields_run 9998 xs ys fs.toList ds 0 b hf (by simpa using h)
 have h2:binOp .eql t (.agg xs) (.agg ys)=(do pure (.bool (←Op.equal t (.agg xs) (.agg ys)))):=rfl
 simp[eqGuard,hg,h2,h1]
end Go.Cub
