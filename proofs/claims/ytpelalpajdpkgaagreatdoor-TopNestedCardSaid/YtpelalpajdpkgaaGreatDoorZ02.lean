/-
  Part 3 of the proof that TopNested returns true and leaves what it was given as it was. CONDITIONS: those of the given row and card.
-/
import Derived.Test.YtpelalpajdpkgaaGreatDoorZ01
set_option linter.all false
namespace Go.Cub
open Go
def MEN (d:TD) (zero m k:Value) (w:World) (K:Value→World→Prop):Prop:=
 keyV d k=true∧match m with
 |.map (some r)=>(match w.heap[r]? with
  |some (.map es clock)=>(match findE k es.toList 0 with
   |none=>False
   |some none=>K (.tuple #[zero,.int .i64 clock]) (w.putObj' r (.map (es.push {key:=k,val:=zero,born:=clock}) (clock+1)))
   |some (some (i,v))=>K (.tuple #[v,.int .i64 (((es[i]?).map (·.born)).getD 0:Nat)]) (w.putObj' r (.map (es.modify i fun e=> {e with key:=k}) clock)))
  |_=>False)
 |_=>False
def EST (m stamp v:Value) (w:World) (K:World→Prop):Prop:=match m,stamp with
 |.map (some r),.int _ n=>(match w.heap[r]? with
  |some (.map es clock)=>(match es.findIdx? (fun e=>(e.born:Int)==n) with
   |some i=>K (w.putObj' r (.map (es.modify i fun e=> {e with val:=v}) clock))
   |none=>False)
  |_=>False)
 |_,_=>False
def RNG (m:Value) (w:World) (K:Value→World→Prop):Prop:=match m with
 |.map none=>K (.pointer (some ⟨w.heap.size,0,none⟩)) (w.alloc (.mapIter none 0 #[] 0))
 |.map (some r)=>(match w.heap[r]? with
  |some (.map _ clock)=>K (.pointer (some ⟨w.heap.size,0,none⟩)) (w.alloc (.mapIter (some r) clock #[] clock))
  |_=>False)
 |_=>False
def nextCands (es:Array MapEntry) (since:Nat) (seen:Array Nat):Array (Option MapEntry):=
 let left:=es.filter fun e=> !seen.contains e.born
 let old:=left.filter (·.born<since)
 let new:=left.filter (·.born≥since)
 (if old.isEmpty then #[none] else #[])++(old++new).map some
def NXT (it:Value) (w:World) (K:Value→World→Prop):Prop:=match it with
 |.pointer (some a)=>a.off=0∧(match w.heap[a.block]? with
  |some (.mapIter none _ _ _)=>K (.tuple #[.bool false]) w
  |some (.mapIter (some m) since seen last)=>(match w.heap[m]? with
   |some (.map es clock)=>(!seen.isEmpty&& !es.isEmpty&&es.all (·.born≥last))=false∧
    ∀w',(w'=w∨w'=w.drew)→∀c∈(nextCands es since seen).toList,(match c with
     |none=>K (.tuple #[.bool false]) w'
     |some e=>K (.tuple #[.bool true,e.key,e.val]) (w'.putObj' a.block (.mapIter (some m) since (seen.push e.born) clock)))
   |_=>False)
  |_=>False)
 |_=>False
def ENT (it:Value) (w:World) (K:Value→Prop):Prop:=match it with
 |.pointer (some a)=>a.off=0∧(match w.heap[a.block]? with
  |some (.mapIter (some m) _ seen stepped)=>(match seen.back?,w.heap[m]? with
   |some stamp,some (.map es clock)=>clock=stepped∧(match es.find? (·.born==stamp) with
    |some e=>K (.tuple #[e.key,e.val])
    |none=>False)
   |_,_=>False)
  |_=>False)
 |_=>False
def INV (P:Program) (name:String) (recv:Value) (args:Array Value) (w:World) (K:Value→World→Prop):Prop:=
 ∃f aq,(∀w,(Go.invoke (.fn (.method name) #[]) (#[recv]++args)).run P w=.ok (.enter f aq) w)∧Call P f aq w K
section
variable {P:Program} {tt:TTab} {w:World}
theorem run_mapEntry' (ok:TabOk P tt) {t kt et:TypeId} {i ki ei:TI} (ht:tt t=some i) (hd:i.d=.map kt et) (hk:tt kt=some ki) (he:tt et=some ei) {m k:Value} {K:Value→World→Prop}
  (h:MEN ki.d ei.zero m k w K):∃v w',K v w'∧(Instr.mapEntry t m k).run P w=.ok v w':=by
 have hu:=ok.und t i ht
 rw[hd] at hu
 have hu:=fits_map hu
 obtain⟨hkv,h⟩:=h
 obtain⟨d,hkd,hik,hs⟩:=keyV_desc ok hk hkv
 split at h
 ·rename_i r
  split at h
  ·rename_i es clock hb
   cases hr:findE k es.toList 0 with
   |none=>simp[hr] at h
   |some x=>
    simp only[hr] at h
    have hf:=findNow_of hs es.toList 0 x hr
    cases x with
    |none=>
     refine⟨_,_,h,?_⟩
     simp[Instr.mapEntry,run_underlying hu,MapKept.run_getObj_map hb,MapKept.run_checkKey hkd hik,MapKept.run_findKey hkd hf,MapKept.run_setObj_map _ hb,World.putObj',run_zero ok he,goInt]
    |some iv=>
     refine⟨_,_,h,?_⟩
     simp[Instr.mapEntry,run_underlying hu,MapKept.run_getObj_map hb,MapKept.run_checkKey hkd hik,MapKept.run_findKey hkd hf,MapKept.run_setObj_map _ hb,World.putObj',run_stays hik hr,goInt]
     cases es[iv.1]?<;>rfl
  ·exact h.elim
 ·exact h.elim
theorem run_entryStore' {t:TypeId} {m s v:Value} {K:World→Prop} (h:EST m s v w K):∃w',K w'∧(Instr.entryStore t m s v).run P w=.ok () w':=by
 unfold EST at h
 split at h
 ·rename_i r k n
  split at h
  ·rename_i es clock hb
   split at h
   ·rename_i i hi
    refine⟨_,h,?_⟩
    have ha:(asInt (.int k n)).run P w=.ok n w:=by simp[asInt,asIntOf]
    simp[Instr.entryStore,MapKept.run_getObj_map hb,ha,hi,MapKept.run_setObj_map _ hb,World.putObj']
   ·exact h.elim
  ·exact h.elim
 ·exact h.elim
theorem run_range' (ok:TabOk P tt) {t kt et:TypeId} {i:TI} (ht:tt t=some i) (hd:i.d=.map kt et) {m:Value} {K:Value→World→Prop} (h:RNG m w K):∃v w',K v w'∧(Instr.range t m).run P w=.ok v w':=by
 have hu:=ok.und t i ht
 rw[hd] at hu
 have hu:=fits_map hu
 unfold RNG at h
 split at h
 ·exact⟨_,_,h,by simp[Instr.range,run_underlying hu,newObj,Sem.run]⟩
 ·split at h
  ·rename_i r es clock hb
   exact⟨_,_,h,by simp[Instr.range,run_underlying hu,MapKept.run_getObj_map hb,newObj,Sem.run]⟩
  ·exact h.elim
 ·exact h.elim
theorem run_entry' {it:Value} {K:Value→Prop} (h:ENT it w K):∃v,K v∧(Instr.entry it).run P w=.ok v w:=by
 unfold ENT at h
 split at h
 ·rename_i a
  obtain⟨b,off,spot⟩:=a
  obtain⟨ha,h⟩:=h
  simp only at ha;subst ha
  split at h
  ·rename_i m since seen stepped hb
   split at h
   ·rename_i stamp es clock hs hm
    obtain⟨rfl,h⟩:=h
    split at h
    ·rename_i e he
     refine⟨_,h,?_⟩
     simp only at hb
     simp[Instr.entry,getObj,Sem.run,hb,hs,hm,he]
    ·exact h.elim
   ·exact h.elim
  ·exact h.elim
 ·exact h.elim
theorem run_next' {t:TypeId} {it:Value} {K:Value→World→Prop} (h:NXT it w K):∃v w',K v w'∧(Instr.next it false t).run P w=.ok v w':=by
 unfold NXT at h
 split at h
 ·rename_i a
  obtain⟨b,off,spot⟩:=a
  obtain⟨ha,h⟩:=h
  simp only at ha;subst ha
  split at h
  ·rename_i hb
   refine⟨_,_,h,?_⟩
   simp only at hb
   simp[Instr.next,getObj,Sem.run,hb]
  ·rename_i m since seen last hb
   split at h
   ·rename_i es clock hm
    obtain⟨h1,h⟩:=h
    simp only at hb
    have hne:(nextCands es since seen).size≠0:=by
     intro hz
     simp only[nextCands,Array.size_append,Array.size_map] at hz
     have :(Array.filter (fun x=>decide (x.born<since)) (Array.filter (fun e=> !seen.contains e.born) es)).isEmpty=true:=by
      simp only[Array.isEmpty_iff_size_eq_zero];omega
     rw[if_pos this] at hz
     simp at hz
    have main:∀(n:Nat) (w':World),n<(nextCands es since seen).size→(w'=w∨w'=w.drew)→
      ∃v w'',K v w''∧(match (nextCands es since seen)[n]? with
       |some (some e)=>(do setObj b (.mapIter (some m) since (seen.push e.born) clock);pure (.tuple #[.bool true,e.key,e.val]):Sem Value)
       |some none=>pure (.tuple #[.bool false])
       |none=>stuck "Next: no such candidate").run P w'=.ok v w'':=by
     intro n w' hn hw'
     have hc:=h w' hw' (nextCands es since seen)[n] (by simp)
     rw[Array.getElem?_eq_getElem hn]
     cases hcc:(nextCands es since seen)[n] with
     |none=>rw[hcc] at hc;exact⟨_,_,hc,by simp⟩
     |some e=>
      rw[hcc] at hc
      refine⟨_,_,hc,?_⟩
      have hb':w'.heap[b]?=some (.mapIter (some m) since seen last):=by
       rcases hw' with rfl |rfl
       ·exact hb
       ·exact hb
      have hlt:b<w'.heap.size:=by
       rcases Nat.lt_or_ge b w'.heap.size with hlt |hge
       ·exact hlt
       ·rw[Array.getElem?_eq_none hge] at hb';cases hb'
      have hset:∀o,(setObj b o).run P w'=.ok () (w'.putObj' b o):=by
       intro o
       simp only[setObj,Sem.run,hb',World.putObj']
      simp[hset]
    have hgo:(Instr.next (.pointer (some ⟨b,0,spot⟩)) false t).run P w=(do
      let n ←choose (.mapNext (nextCands es since seen).size)
      match (nextCands es since seen)[n]? with
       |some (some e)=>(do setObj b (.mapIter (some m) since (seen.push e.born) clock);pure (.tuple #[.bool true,e.key,e.val]):Sem Value)
       |some none=>pure (.tuple #[.bool false])
       |none=>stuck "Next: no such candidate").run P w:=by
     simp only[Instr.next,Sem.run_bind,getObj,Sem.run,hb,Result.andThen_ok,hm,h1,Bool.false_eq_true,if_false]
     rfl
    rw[hgo,Sem.run_bind]
    by_cases h2:(nextCands es since seen).size≤1
    ·obtain⟨v,w'',hk,hr⟩:=main 0 w (by omega) (.inl rfl)
     refine⟨v,w'',hk,?_⟩
     have :(choose (.mapNext (nextCands es since seen).size)).run P w=.ok 0 w:=by simp[choose,Sem.run,Question.forced,h2]
     rw[this];exact hr
    ·obtain⟨v,w'',hk,hr⟩:=main (w.tape w.drawn (.mapNext (nextCands es since seen).size)%(nextCands es since seen).size) w.drew (Nat.mod_lt _ (by omega)) (.inr rfl)
     refine⟨v,w'',hk,?_⟩
     have :(choose (.mapNext (nextCands es since seen).size)).run P w=.ok (w.tape w.drawn (.mapNext (nextCands es since seen).size)%(nextCands es since seen).size) w.drew:=by
      simp only[choose,Sem.run,Question.forced,h2,decide_false,Bool.false_eq_true,if_false,Question.cut]
      rfl
     rw[this];exact hr
   ·exact h.elim
  ·exact h.elim
 ·exact h.elim
end
end Go.Cub
namespace Go.Cub
open Go
abbrev Env:=Nat→Value
def Env.set (ρ:Env) (t:Nat) (v:Value):Env:=fun u=>match Nat.beq u t with
 |true=>v
 |false=>ρ u
def Env.put (ρ:Env) (dst:Option Tmp) (v:Value):Env:=match dst with
 |some t=>ρ.set t v
 |none=>ρ
def evO (ρ:Env):Operand→Value
 |.tmp t=>ρ t
 |.const v=>v
 |.global g=>.pointer (some ⟨g,0,none⟩)
 |.func f=>.func (.func f) #[] #[]
def binN (op:BinOp):Value→Value→Option Value
 |.int k a,.int k' b=>
  match op with
  |.shl=>if b<0 then none else some (.int k (k.wrap (a * 2^(min b.toNat k.bits))))
  |.shr=>if b<0 then none else some (.int k (a.fdiv (2^(min b.toNat k.bits))))
  |op=>if k≠k' then none else binI op k a b
 |_,_=>none
def binB (d:TD) (op:BinOp) (x y:Value):Option Value:=binV {d,size:=0,bytes:=0,zero:=.nilFunc} op x y
def eqA (ds:List TD):Value→Value→Option Value
 |.agg xs,.agg ys=>(eqL ds xs.toList ys.toList).map .bool
 |_,_=>none
theorem binN_binV {op:BinOp} {x y v:Value} (h:binN op x y=some v) (i:TI):binV i op x y=some v:=by
 unfold binN at h
 split at h
 ·exact h
 ·simp at h
theorem binB_binV {i:TI} {op:BinOp} {x y v:Value} (h:binB i.d op x y=some v):binV i op x y=some v:=by
 unfold binB at h
 unfold binV at h ⊢
 split at h<;>first |exact h |simp at h
theorem eqA_binV {i:TI} {d:TD} {ds:List TD} {x y v:Value} (hi:i.eqs=d::ds) (h:eqA (d::ds) x y=some v):binV i .eql x y=some v:=by
 unfold eqA at h
 split at h
 ·simpa[binV,hi] using h
 ·simp at h
def buildA (size:Nat) (zero:Value) (parts:List (Nat×Value)):Option Value:=
 (Instr.fill (fun x=>some (x * size,size)) zero.cells parts).map .agg
def fineZ (j:TI):Bool:=Nat.beq j.zero.cells.size j.size&& !Nat.beq j.size 0
theorem fineZ_elim {j:TI} (h:fineZ j=true):j.zero.cells.size=j.size∧j.size≠0:=by
 simp only[fineZ,Bool.and_eq_true,Bool.not_eq_true'] at h
 exact⟨Nat.eq_of_beq_eq_true h.1,Nat.ne_of_beq_eq_false h.2⟩
def builtinPT (tt:TTab) (b:Builtin) (ts:List TypeId) (args:List Value) (w:World) (K:Value→World→Prop):Prop:=
 match b,ts,args with
 |.len,[t],[x]=>(match tt t with
  |some i=>(match i.d with
   |.map _ _=>LENM x w fun v=>K v w
   |.slice _=>PV (lenS x) fun v=>K v w
   |.string=>PV (lenStr x) fun v=>K v w
   |_=>False)
  |none=>False)
 |.cap,[t],[x]=>(match tt t with
  |some i=>(match i.d with
   |.slice _=>PV (capV x) fun v=>K v w
   |_=>False)
  |none=>False)
 |.append,[t,tx],[s,x]=>(match tt t,tt tx with
  |some i,some ix=>(match i.d with
   |.slice e=>(match tt e with
    |some j=>(match fineZ j with
     |true=>(match ix.d with
      |.slice _=>APP e j.size j.bytes j.zero s x w K
      |.string=>APP e j.size j.bytes j.zero s x w K
      |.int _=>APZ e j.size j.bytes j.zero s x w K
      |_=>False)
     |false=>False)
    |none=>False)
   |_=>False)
  |_,_=>False)
 |.copy,[t,_],[x,y]=>(match tt t with
  |some i=>(match i.d with
   |.slice e=>(match tt e with
    |some j=>CPY j.size x y w K
    |none=>False)
   |_=>False)
  |none=>False)
 |.clear,[t],[x]=>(match tt t with
  |some i=>(match i.d with
   |.slice e=>(match tt e with
    |some j=>(match fineZ j with
     |true=>CLR j.zero x w fun w=>K (.tuple #[]) w
     |false=>False)
    |none=>False)
   |_=>False)
  |none=>False)
 |.delete,[t,_],[m,k]=>(match tt t with
  |some i=>(match i.d with
   |.map kt _=>(match tt kt with
    |some ki=>DEL ki.d m k w fun w=>K (.tuple #[]) w
    |none=>False)
   |_=>False)
  |none=>False)
 |.min,_,[x,y]=>PV (minV x y) fun v=>K v w
 |.max,_,[x,y]=>PV (maxV x y) fun v=>K v w
 |_,_,_=>False
def opPT (P:Program) (tt:TTab) (cal:Nat→Bool) (o:Oper) (ρ:Env) (w:World) (K:Value→World→Prop):Prop:=
 match o.op with
 |.move x=>K (evO ρ x) w
 |.assign x=>K (evO ρ x) w
 |.pick c a b=>PV (pickV (evO ρ c) (evO ρ a) (evO ρ b)) fun v=>K v w
 |.alloc t=>(match tt t with
  |some i=>NEW t i.zero.cells w K
  |none=>False)
 |.box t x=>NEW t (evO ρ x).cells w K
 |.build t parts=>(match tt t with
  |some i=>(match i.d with
   |.struct fs=>(match placesOf tt fs with
    |some pl=>PV (buildV pl i.zero (parts.toList.map fun p=>(p.1,evO ρ p.2))) fun v=>K v w
    |none=>False)
   |.array _ e=>(match tt e with
    |some j=>PV (buildA j.size i.zero (parts.toList.map fun p=>(p.1,evO ρ p.2))) fun v=>K v w
    |none=>False)
   |_=>False)
  |none=>False)
 |.buildSlice t n parts=>(match tt t with
  |some i=>(match i.d with
   |.slice e=>(match tt e with
    |some j=>NEWS e n (buildSl j n (parts.toList.map fun p=>(p.1,evO ρ p.2))) w K
    |none=>False)
   |_=>False)
  |none=>False)
 |.load t a=>(match tt t with
  |some i=>(match i.d.isAgg with
   |true=>LN i.size (evO ρ a) w fun v=>K v w
   |false=>L1 (evO ρ a) w fun v=>K v w)
  |none=>False)
 |.store t a x=>(match tt t with
  |some i=>(match i.d.isAgg with
   |true=>SN i.size (evO ρ a) (evO ρ x) w fun w=>K undef w
   |false=>S1 (evO ρ a) (evO ρ x) w fun w=>K undef w)
  |none=>False)
 |.nilCheck x=>PV (nilV (evO ρ x)) fun v=>K v w
 |.binOp op t x y _=>(match tt t with
  |some i=>(match i.d with
   |.int _=>PV (binN op (evO ρ x) (evO ρ y)) fun v=>K v w
   |.struct _=>(match i.eqs,op with
    |d::ds,.eql=>PV (eqA (d::ds) (evO ρ x) (evO ρ y)) fun v=>K v w
    |_,_=>False)
   |d=>PV (binB d op (evO ρ x) (evO ρ y)) fun v=>K v w)
  |none=>False)
 |.unOp op _ x=>PV (unV op (evO ρ x)) fun v=>K v w
 |.convert s d x=>(match tt s,tt d with
  |some i,some j=>(match i.d,j.d with
   |.int _,.int k=>PV (convI k (evO ρ x)) fun v=>K v w
   |.string,.string=>PV (convS (evO ρ x)) fun v=>K v w
   |.slice e,.string=>(match tt e with
    |some ei=>(match ei.d with
     |.int .u8=>BTS (evO ρ x) w fun v=>K v w
     |_=>False)
    |none=>False)
   |_,_=>False)
  |_,_=>False)
 |.makeFunc fn first captured=>K (.func fn (first.toList.map (evO ρ)).toArray (captured.toList.map (evO ρ)).toArray) w
 |.makeMap _ none=>MKM w K
 |.makeSlice t l c=>(match tt t with
  |some i=>(match i.d with
   |.slice e=>(match tt e with
    |some j=>(match fineZ j with
     |true=>MKS e j.bytes j.zero (evO ρ l) (evO ρ c) w K
     |false=>False)
    |none=>False)
   |_=>False)
  |none=>False)
 |.slice t x lo hi mx=>(match tt t with
  |some i=>(match i.d with
   |.slice e=>(match tt e with
    |some j=>PV (slc j.size (evO ρ x) (lo.map (evO ρ)) (hi.map (evO ρ)) (mx.map (evO ρ))) fun v=>K v w
    |none=>False)
   |.array n e=>(match tt e,mx with
    |some j,none=>PV (slcA n j.size (evO ρ x) (lo.map (evO ρ)) (hi.map (evO ρ))) fun v=>K v w
    |_,_=>False)
   |_=>False)
  |none=>False)
 |.fieldAddr t x n=>(match tt t with
  |some i=>(match i.d with
   |.struct fs=>(match fs[n]? with
    |some (off,ft)=>(match tt ft with
     |some j=>(match Nat.beq j.size 0 with
      |false=>PV (fldV off (evO ρ x)) fun v=>K v w
      |true=>False)
     |none=>False)
    |none=>False)
   |_=>False)
  |none=>False)
 |.field t x n=>(match tt t with
  |some i=>(match i.d with
   |.struct fs=>(match fs[n]? with
    |some (off,ft)=>(match tt ft with
     |some j=>PV (partV j.d.isAgg off j.size (evO ρ x)) fun v=>K v w
     |none=>False)
    |none=>False)
   |_=>False)
  |none=>False)
 |.indexAddr t x ix=>(match tt t with
  |some i=>(match i.d with
   |.slice e=>(match tt e with
    |some j=>PV (idxS j.size (evO ρ x) (evO ρ ix)) fun v=>K v w
    |none=>False)
   |.array n e=>(match tt e with
    |some j=>PV (idxA n j.size (evO ρ x) (evO ρ ix)) fun v=>K v w
    |none=>False)
   |_=>False)
  |none=>False)
 |.index t x ix=>(match tt t with
  |some i=>(match i.d with
   |.string=>PV (idxStr (evO ρ x) (evO ρ ix)) fun v=>K v w
   |_=>False)
  |none=>False)
 |.lookup t m k c=>(match tt t with
  |some i=>(match i.d with
   |.map kt et=>(match tt kt,tt et with
    |some ki,some ei=>LK ki.d c ei.zero (evO ρ m) (evO ρ k) w fun v=>K v w
    |_,_=>False)
   |_=>False)
  |none=>False)
 |.mapUpdate t m k v=>(match tt t with
  |some i=>(match i.d with
   |.map kt _=>(match tt kt with
    |some ki=>MU ki.d (evO ρ m) (evO ρ k) (evO ρ v) w fun w=>K undef w
    |_=>False)
   |_=>False)
  |none=>False)
 |.extract t n=>PV (extV n (evO ρ t)) fun v=>K v w
 |.makeInterface t x=>(match tt t with
  |some i=>(match i.d with
   |.iface=>False
   |_=>K (.iface t (evO ρ x)) w)
  |none=>False)
 |.call c=>(match c.callee with
  |.value (.func f)=>(match cal f with
   |true=>Call P f (c.args.toList.map (evO ρ)).toArray w K
   |false=>False)
  |.value f=>CallV P (evO ρ f) (c.args.toList.map (evO ρ)).toArray w K
  |.builtin b=>builtinPT tt b c.argTypes.toList (c.args.toList.map (evO ρ)) w K
  |.invoke r m=>INV P m (evO ρ r) (c.args.toList.map (evO ρ)).toArray w K)
 |.mapEntry t m k=>(match tt t with
  |some i=>(match i.d with
   |.map kt et=>(match tt kt,tt et with
    |some ki,some ei=>MEN ki.d ei.zero (evO ρ m) (evO ρ k) w K
    |_,_=>False)
   |_=>False)
  |none=>False)
 |.entryStore _ m s v=>EST (evO ρ m) (evO ρ s) (evO ρ v) w fun w=>K undef w
 |.range t m=>(match tt t with
  |some i=>(match i.d with
   |.map _ _=>RNG (evO ρ m) w K
   |_=>False)
  |none=>False)
 |.next it str=>(match str with
  |false=>NXT (evO ρ it) w K
  |true=>False)
 |.entry it=>ENT (evO ρ it) w fun v=>K v w
 |_=>False
section
variable {P:Program} {tt:TTab} {cal:Nat→Bool}
theorem PV_elim {x:Option Value} {K:Value→Prop} (h:PV x K):∃v,x=some v∧K v:=by
 unfold PV at h
 split at h
 ·exact⟨_,rfl,h⟩
 ·exact h.elim
theorem okv {o:Oper} {ev:Operand→Value} {w w':World} {K:Value→World→Prop} {v:Value} (hr:(execOp ev o).run P w=.ok (.value v) w') (hk:K v w'):OpK P o ev w K:=by
 unfold OpK
 rw[hr];exact hk
theorem oks {o:Oper} {ev:Operand→Value} {w w':World} {K:Value→World→Prop} (hr:(execOp ev o).run P w=.ok .skip w') (hk:K undef w'):OpK P o ev w K:=by
 unfold OpK
 rw[hr];exact hk
theorem map_arr (f:Operand→Value) (a:Array Operand):(a.toList.map f).toArray=a.map f:=by
 apply Array.ext';simp
theorem callOk {c:Go.Call} {o:Oper} {ev:Operand→Value} {f:Operand} {w:World} {K:Value→World→Prop} (ho:o.op=.call c) (hc:c.callee=.value f) (h:CallV P (ev f) (c.args.toList.map ev).toArray w K):OpK P o ev w K:=by
 rw[map_arr] at h
 unfold CallV at h
 split at h
 ·rename_i g first cap hf
  unfold OpK
  have :(execOp ev o).run P w=.ok (.enter g (first ++c.args.map ev++cap)) w:=by
   simp[execOp,ho,resolve,hc,Deferred.ofValue,hf,invoke,h.1]
  rw[this];exact h.2
 ·rename_i l first cap hf
  obtain⟨rfl,h⟩:=h
  split at h
  ·rename_i r hr
   unfold OpK
   have :(execOp ev o).run P w=.ok (.round l r.fn ((r.params.zip (c.args.map ev)).foldl (fun tmps (t,a)=>tmps.setIfInBounds t a) r.tmps) r.assign r.body) w:=by
    have hs:=h.1
    have hs':c.args.size=r.params.size:=by simpa using hs
    simp[execOp,ho,resolve,hc,Deferred.ofValue,hf,invoke,Instr.yield,Instr.getLoop,getObj,Sem.run,hr,hs']
   rw[this];exact h.2
  ·exact h.elim
 ·exact h.elim
theorem builtinOk (ok:TabOk P tt) {c:Go.Call} {o:Oper} {ev:Operand→Value} {b:Builtin} {w:World} {K:Value→World→Prop} (ho:o.op=.call c) (hc:c.callee=.builtin b)
  (h:builtinPT tt b c.argTypes.toList (c.args.toList.map ev) w K):OpK P o ev w K:=by
 have hex:execOp ev o=builtin b c.argTypes o.type (c.args.map fun |.const _=>true |_=>false) (c.args.map ev):=by
  simp only[execOp,ho,resolve,hc];rfl
 generalize hA:c.args.map ev=A at hex
 have hA':c.args.toList.map ev=A.toList:=by rw[←hA];simp
 rw[hA'] at h
 generalize hT:c.argTypes=T at hex h
 have lift:∀ {v:Value} {w':World} {s:Sem Value},builtin b T o.type (c.args.map fun |.const _=>true |_=>false) A=(do pure (.value (←s)))→s.run P w=.ok v w'→K v w'→OpK P o ev w K:=by
  intro v w' s hb hr hk
  refine okv (w':=w') (v:=v) ?_ hk
  rw[hex,hb];simp[hr]
 obtain⟨A⟩:=A
 obtain⟨T⟩:=T
 simp only at h
 unfold builtinPT at h
 split at h
 ·
  rename_i t x
  split at h
  ·rename_i i hi
   have hu:=ok.und t i hi
   split at h
   ·rename_i kt et hd
    rw[hd] at hu
    have hu:=fits_map hu
    unfold LENM at h
    split at h
    ·rename_i es hes
     refine lift (v:=.int .i64 es.length) rfl ?_ h
     unfold ents at hes
     split at hes
     ·simp only[Option.some.injEq] at hes;subst hes
      simp[Builtin.len_,run_underlying hu,goInt]
     ·split at hes
      ·rename_i hb
       simp only[Option.some.injEq] at hes;subst hes
       simp[Builtin.len_,run_underlying hu,MapKept.run_getObj_map hb,goInt]
      ·simp at hes
     ·simp at hes
    ·exact h.elim
   ·rename_i e hd
    rw[hd] at hu
    have hu:=fits_slice hu
    obtain⟨v,hv,hk⟩:=PV_elim h
    unfold lenS at hv
    split at hv
    ·simp only[Option.some.injEq] at hv;subst hv
     exact lift rfl (by simp[Builtin.len_,run_underlying hu,goInt]) hk
    ·simp at hv
   ·rename_i hd
    rw[hd] at hu
    have hu:=fits_string hu
    obtain⟨v,hv,hk⟩:=PV_elim h
    unfold lenStr at hv
    split at hv
    ·simp only[Option.some.injEq] at hv;subst hv
     exact lift rfl (by simp[Builtin.len_,run_underlying hu,goInt]) hk
    ·simp at hv
   ·exact h.elim
  ·exact h.elim
 ·
  rename_i t x
  split at h
  ·rename_i i hi
   have hu:=ok.und t i hi
   split at h
   ·rename_i e hd
    rw[hd] at hu
    have hu:=fits_slice hu
    obtain⟨v,hv,hk⟩:=PV_elim h
    unfold capV at hv
    split at hv
    ·simp only[Option.some.injEq] at hv;subst hv
     exact lift rfl (by simp[Builtin.cap_,run_underlying hu,goInt]) hk
    ·simp at hv
   ·exact h.elim
  ·exact h.elim
 ·
  rename_i t tx s x
  split at h
  ·rename_i i ix hi hix
   split at h
   ·rename_i e hd
    split at h
    ·rename_i j hj
     cases hfz:fineZ j with
     |false=>rw[hfz] at h;exact h.elim
     |true=>
     rw[hfz] at h
     obtain⟨hz,hs0⟩:=fineZ_elim hfz
     simp only at h
     split at h
     ·rename_i hdx
      obtain⟨v,w',hk,hr⟩:=run_append' (ty:=o.type) ok hi hd hix (.inr ⟨_,hdx⟩) hj (by rw[hz];exact hs0) h
      exact lift rfl hr hk
     ·rename_i hdx
      obtain⟨v,w',hk,hr⟩:=run_append' (ty:=o.type) ok hi hd hix (.inl hdx) hj (by rw[hz];exact hs0) h
      exact lift rfl hr hk
     ·rename_i hdx
      obtain⟨v,w',hk,hr⟩:=run_appendZ (ty:=o.type) ok hi hd hix hdx hj hz hs0 h
      exact lift rfl hr hk
     ·exact h.elim
    ·exact h.elim
   ·exact h.elim
  ·exact h.elim
 ·
  rename_i t t2 x y
  split at h
  ·rename_i i hi
   split at h
   ·rename_i e hd
    split at h
    ·rename_i j hj
     obtain⟨v,w',hk,hr⟩:=run_copy' (ty:=o.type) (rest:=#[t2]) ok hi hd hj h
     exact lift rfl hr hk
    ·exact h.elim
   ·exact h.elim
  ·exact h.elim
 ·
  rename_i t x
  split at h
  ·rename_i i hi
   split at h
   ·rename_i e hd
    split at h
    ·rename_i j hj
     cases hfz:fineZ j with
     |false=>rw[hfz] at h;exact h.elim
     |true=>
     rw[hfz] at h
     obtain⟨hz,hs0⟩:=fineZ_elim hfz
     obtain⟨w',hk,hr⟩:=run_clear' (ty:=o.type) ok hi hd hj (by rw[hz];exact hs0) h
     exact lift rfl hr hk
    ·exact h.elim
   ·exact h.elim
  ·exact h.elim
 ·
  rename_i t t2 m k
  split at h
  ·rename_i i hi
   split at h
   ·rename_i kt et hd
    split at h
    ·rename_i ki hki
     obtain⟨w',hk,hr⟩:=run_delete' (ty:=o.type) (rest:=#[t2]) ok hi hd hki h
     exact lift rfl hr hk
    ·exact h.elim
   ·exact h.elim
  ·exact h.elim
 ·rename_i x y
  obtain⟨v,hv,hk⟩:=PV_elim h
  unfold minV at hv
  split at hv
  ·simp only[Option.some.injEq] at hv;subst hv
   exact lift rfl (by simp[Builtin.min_,Builtin.min2]) hk
  ·simp at hv
 ·rename_i x y
  obtain⟨v,hv,hk⟩:=PV_elim h
  unfold maxV at hv
  split at hv
  ·simp only[Option.some.injEq] at hv;subst hv
   exact lift rfl (by simp[Builtin.max_,Builtin.max2]) hk
  ·simp at hv
 ·exact h.elim
theorem opPT_ok (ok:TabOk P tt) (hcal:CalOk P cal) {o:Oper} {ρ:Env} {w:World} {K:Value→World→Prop} (h:opPT P tt cal o ρ w K):OpK P o (evO ρ) w K:=by
 have val:∀ {v:Value} {w':World} {s:Sem Value},execOp (evO ρ) o=(do pure (.value (←s)))→s.run P w=.ok v w'→K v w'→OpK P o (evO ρ) w K:=by
  intro v w' s hb hr hk
  refine okv (w':=w') (v:=v) ?_ hk
  rw[hb];simp[hr]
 have unt:∀ {w':World} {s:Sem Unit},execOp (evO ρ) o=(do s;pure .skip)→s.run P w=.ok () w'→K undef w'→OpK P o (evO ρ) w K:=by
  intro w' s hb hr hk
  refine oks (w':=w') ?_ hk
  rw[hb];simp[hr]
 unfold opPT at h
 split at h<;>rename_i hop
 ·exact okv (w':=w) (by simp[execOp,hop]) h
 ·exact okv (w':=w) (by simp[execOp,hop]) h
 ·
  obtain⟨v,hv,hk⟩:=PV_elim h
  rename_i c a b
  unfold pickV at hv
  split at hv
  ·rename_i bb hc
   simp only[Option.some.injEq] at hv;subst hv
   refine okv (w':=w) ?_ hk
   simp[execOp,hop,hc,asBool]
  ·simp at hv
 ·
  split at h
  ·rename_i t i hi
   exact val (by simp[execOp,hop]) (run_alloc' ok hi) h
  ·exact h.elim
 ·exact val (by simp[execOp,hop]) run_box' h
 ·
  rename_i t parts
  split at h
  ·rename_i i hi
   have hp:(parts.map fun(p:Nat×Operand)=>(p.1,evO ρ p.2)).toList=parts.toList.map fun p=>(p.1,evO ρ p.2):=by simp
   split at h
   ·rename_i fs hd
    split at h
    ·rename_i pl hpl
     obtain⟨v,hv,hk⟩:=PV_elim h
     rw[←hp] at hv
     exact val (by simp[execOp,hop]) (run_buildS ok hi hd hpl hv) hk
    ·exact h.elim
   ·rename_i n e hd
    split at h
    ·rename_i j hj
     obtain⟨v,hv,hk⟩:=PV_elim h
     rw[←hp] at hv
     exact val (by simp[execOp,hop]) (run_buildA ok hi hd hj hv) hk
    ·exact h.elim
   ·exact h.elim
  ·exact h.elim
 ·
  rename_i t n parts
  split at h
  ·rename_i i hi
   have hp:(parts.map fun(p:Nat×Operand)=>(p.1,evO ρ p.2)).toList=parts.toList.map fun p=>(p.1,evO ρ p.2):=by simp
   split at h
   ·rename_i e hd
    split at h
    ·rename_i j hj
     unfold NEWS at h
     split at h
     ·rename_i cs hcs
      rw[←hp] at hcs
      exact val (by simp[execOp,hop]) (run_buildSlice' ok hi hd hj hcs) h
     ·exact h.elim
    ·exact h.elim
   ·exact h.elim
  ·exact h.elim
 ·
  rename_i t a
  split at h
  ·rename_i i hi
   split at h
   ·rename_i hg
    unfold LN at h
    split at h
    ·rename_i ad ha
     split at h
     ·rename_i cs hcs
      exact val (s:=Instr.loadAt t (.pointer (some ad))) (by simp[execOp,hop,ha]) (run_loadAtN ok hi hg hcs) h
     ·exact h.elim
    ·exact h.elim
   ·rename_i hg
    unfold L1 at h
    split at h
    ·rename_i ad ha
     split at h
     ·rename_i v hv
      exact val (s:=Instr.loadAt t (evO ρ a)) (by simp[execOp,hop]) (run_loadAt1 ok hi hg ha hv) h
     ·exact h.elim
    ·exact h.elim
  ·exact h.elim
 ·
  rename_i t a x
  split at h
  ·rename_i i hi
   split at h
   ·rename_i hg
    unfold SN at h
    split at h
    ·rename_i ad ha
     obtain⟨hs,h⟩:=h
     split at h
     ·rename_i w' hw'
      exact unt (s:=Instr.storeAt t (.pointer (some ad)) (evO ρ x)) (by simp[execOp,hop,ha]) (run_storeAtN ok hi hs hw') h
     ·exact h.elim
    ·exact h.elim
   ·rename_i hg
    unfold S1 at h
    split at h
    ·rename_i ad ha
     split at h
     ·rename_i u hu
      exact unt (s:=Instr.storeAt t (.pointer (some ad)) (evO ρ x)) (by simp[execOp,hop,ha]) (run_storeAt1 ok hi hg hu h.1 h.2.1) h.2.2
     ·exact h.elim
    ·exact h.elim
  ·exact h.elim
 ·
  obtain⟨v,hv,hk⟩:=PV_elim h
  exact okv (w':=w) (run_nil hop hv) hk
 ·
  rename_i op t x y yt
  split at h
  ·rename_i i hi
   split at h
   ·obtain⟨v,hv,hk⟩:=PV_elim h
    exact val (by simp[execOp,hop]) (run_binV ok hi x y (binN_binV hv i)) hk
   ·split at h
    ·rename_i he
     obtain⟨v,hv,hk⟩:=PV_elim h
     exact val (by simp[execOp,hop]) (run_binV ok hi x y (eqA_binV he hv)) hk
    ·exact h.elim
   ·obtain⟨v,hv,hk⟩:=PV_elim h
    exact val (by simp[execOp,hop]) (run_binV ok hi x y (binB_binV hv)) hk
  ·exact h.elim
 ·obtain⟨v,hv,hk⟩:=PV_elim h
  exact val (by simp[execOp,hop]) (run_un hv) hk
 ·
  rename_i s d x
  split at h
  ·rename_i i j hi hj
   split at h
   ·rename_i hdi hdj
    obtain⟨v,hv,hk⟩:=PV_elim h
    exact val (by simp[execOp,hop]) (run_convI ok hi hj hdj hdi hv) hk
   ·rename_i hdi hdj
    obtain⟨v,hv,hk⟩:=PV_elim h
    exact val (by simp[execOp,hop]) (run_convS ok hi hj hdj hdi hv) hk
   ·rename_i e hdi hdj
    split at h
    ·rename_i ei hei
     split at h
     ·rename_i hek
      obtain⟨v,hk,hr⟩:=run_bts ok hi hdi hei hek hj hdj h
      exact val (by simp[execOp,hop]) hr hk
     ·exact h.elim
    ·exact h.elim
   ·exact h.elim
  ·exact h.elim
 ·
  rename_i fn first cap
  refine val (w':=w) (s:=Instr.makeFunc fn (first.map (evO ρ)) (cap.map (evO ρ))) (by simp[execOp,hop]) ?_ h
  simp[Instr.makeFunc]
  exact⟨(map_arr _ _).symm,(map_arr _ _).symm⟩
 ·
  rename_i t
  refine val (w':=w.alloc (.map #[] 0)) (s:=Instr.makeMap t none) (by simp[execOp,hop]) ?_ h
  rfl
 ·
  rename_i t l c
  split at h
  ·rename_i i hi
   split at h
   ·rename_i e hd
    split at h
    ·rename_i j hj
     cases hfz:fineZ j with
     |false=>rw[hfz] at h;exact h.elim
     |true=>
     rw[hfz] at h
     obtain⟨hz,hs⟩:=fineZ_elim hfz
     simp only at h
     unfold MKS at h
     split at h
     ·rename_i k ll k' cc hl hc
      obtain⟨h1,h2,h3,h4,h⟩:=h
      exact val (s:=Instr.makeSlice t (.int k ll) (.int k' cc)) (by simp[execOp,hop,hl,hc]) (run_makeSlice' ok hi hd hj hz hs h1 h2 h3 h4) h
     ·exact h.elim
    ·exact h.elim
   ·exact h.elim
  ·exact h.elim
 ·
  rename_i t x lo hi' mx
  split at h
  ·rename_i i hi
   split at h
   ·rename_i e hd
    split at h
    ·rename_i j hj
     obtain⟨v,hv,hk⟩:=PV_elim h
     exact val (by simp[execOp,hop]) (run_slc ok hi hd hj hv) hk
    ·exact h.elim
   ·rename_i n e hd
    split at h
    ·rename_i j hj
     obtain⟨v,hv,hk⟩:=PV_elim h
     exact val (by simp[execOp,hop]) (run_slcA ok hi hd hj hv) hk
    ·exact h.elim
   ·exact h.elim
  ·exact h.elim
 ·
  rename_i t x n
  split at h
  ·rename_i i hi
   split at h
   ·rename_i fs hd
    split at h
    ·rename_i off ft hf
     split at h
     ·rename_i j hj
      cases hsz:Nat.beq j.size 0 with
      |true=>rw[hsz] at h;exact h.elim
      |false=>
      rw[hsz] at h
      obtain⟨v,hv,hk⟩:=PV_elim h
      exact val (by simp[execOp,hop]) (run_fieldAt ok hi hd hf hj (Nat.ne_of_beq_eq_false hsz) hv) hk
     ·exact h.elim
    ·exact h.elim
   ·exact h.elim
  ·exact h.elim
 ·
  rename_i t x n
  split at h
  ·rename_i i hi
   split at h
   ·rename_i fs hd
    split at h
    ·rename_i off ft hf
     split at h
     ·rename_i j hj
      obtain⟨v,hv,hk⟩:=PV_elim h
      exact val (by simp[execOp,hop]) (run_field ok hi hd hf hj hv) hk
     ·exact h.elim
    ·exact h.elim
   ·exact h.elim
  ·exact h.elim
 ·
  rename_i t x ix
  split at h
  ·rename_i i hi
   split at h
   ·rename_i e hd
    split at h
    ·rename_i j hj
     obtain⟨v,hv,hk⟩:=PV_elim h
     exact val (by simp[execOp,hop]) (run_idxS ok hi hd hj hv) hk
    ·exact h.elim
   ·rename_i n e hd
    split at h
    ·rename_i j hj
     obtain⟨v,hv,hk⟩:=PV_elim h
     exact val (by simp[execOp,hop]) (run_idxA ok hi hd hj hv) hk
    ·exact h.elim
   ·exact h.elim
  ·exact h.elim
 ·
  rename_i t x ix
  split at h
  ·rename_i i hi
   split at h
   ·rename_i hd
    obtain⟨v,hv,hk⟩:=PV_elim h
    exact val (by simp[execOp,hop]) (run_idxStr ok hi hd hv) hk
   ·exact h.elim
  ·exact h.elim
 ·
  rename_i t m k c
  split at h
  ·rename_i i hi
   split at h
   ·rename_i kt et hd
    split at h
    ·rename_i ki ei hki hei
     obtain⟨v,hk,hr⟩:=run_lookup' ok hi hd hki hei h
     exact val (by simp[execOp,hop]) hr hk
    ·exact h.elim
   ·exact h.elim
  ·exact h.elim
 ·
  rename_i t m k v
  split at h
  ·rename_i i hi
   split at h
   ·rename_i kt et hd
    split at h
    ·rename_i ki hki
     obtain⟨w',hk,hr⟩:=run_mapUpdate' ok hi hd hki h
     exact unt (by simp[execOp,hop]) hr hk
    ·exact h.elim
   ·exact h.elim
  ·exact h.elim
 ·obtain⟨v,hv,hk⟩:=PV_elim h
  exact val (by simp[execOp,hop]) (run_ext hv) hk
 ·
  rename_i t x
  split at h
  ·rename_i i hi
   have hu:=ok.und t i hi
   split at h
   ·exact h.elim
   ·rename_i hne
    refine val (w':=w) (s:=Instr.makeInterface t (evO ρ x)) (by simp[execOp,hop]) ?_ h
    cases hd:i.d<;>rw[hd] at hu<;>unfold TD.fits at hu<;>split at hu<;>(try (simp at *;done))<;>rename_i hq<;>
     first |exact absurd hd hne |simp[Instr.makeInterface,run_underlying hq]
  ·exact h.elim
 ·
  rename_i c
  split at h
  ·rename_i f hc
   split at h
   ·rename_i hf
    exact callOk hop hc (by
     show CallV P (.func (.func f) #[] #[]) _ w K
     exact⟨hcal f hf,by simpa using h⟩)
   ·exact h.elim
  ·rename_i f hc hne
   exact callOk hop hne h
  ·rename_i b hc
   exact builtinOk ok hop hc h
  ·rename_i r m hc
   obtain⟨f,aq,hr,hk⟩:=h
   unfold OpK
   have hm:(c.args.toList.map (evO ρ)).toArray=c.args.map (evO ρ):=map_arr _ _
   have :(execOp (evO ρ) o).run P w=.ok (.enter f aq) w:=by
    simp only[execOp,hop,resolve,hc,Sem.run_bind,Sem.run_pure,Result.andThen_ok]
    have :=hr w
    rwa[hm] at this
   rw[this];exact hk
 ·
  rename_i t m k
  split at h
  ·rename_i i hi
   split at h
   ·rename_i kt et hd
    split at h
    ·rename_i ki ei hki hei
     obtain⟨v,w',hk,hr⟩:=run_mapEntry' ok hi hd hki hei h
     exact val (by simp[execOp,hop]) hr hk
    ·exact h.elim
   ·exact h.elim
  ·exact h.elim
 ·rename_i mt m s v
  obtain⟨w',hk,hr⟩:=run_entryStore' (t:=mt) h
  exact unt (by simp[execOp,hop]) hr hk
 ·
  rename_i t m
  split at h
  ·rename_i i hi
   split at h
   ·rename_i kt et hd
    obtain⟨v,w',hk,hr⟩:=run_range' ok hi hd h
    exact val (by simp[execOp,hop]) hr hk
   ·exact h.elim
  ·exact h.elim
 ·
  split at h
  ·obtain⟨v,w',hk,hr⟩:=run_next' (t:=o.type) h
   exact val (by simp[execOp,hop]) hr hk
  ·exact h.elim
 ·obtain⟨v,hk,hr⟩:=run_entry' h
  exact val (by simp[execOp,hop]) hr hk
 ·exact h.elim
end
end Go.Cub
