/-
  Part 2 of the proof that TopNested returns true and leaves what it was given as it was. CONDITIONS: those of the given row and card.
-/
import Derived.Test.YtpelalpajdpkgaaGreatDoorZ00
import Derived.Laws.Cells
set_option linter.all false
namespace Go.Cub
open Go
section
variable {P:Program} {w:World} {tt:TTab}
theorem fits_int {k:IntKind} {d:Option TypeDesc} (h:(TD.int k).fits d):d=some (.int k):=by
 unfold TD.fits at h;split at h<;>simp_all
theorem fits_string {d:Option TypeDesc} (h:TD.string.fits d):d=some .string:=by
 unfold TD.fits at h;split at h<;>simp_all
theorem fits_slice {e:TypeId} {d:Option TypeDesc} (h:(TD.slice e).fits d):d=some (.slice e):=by
 unfold TD.fits at h;split at h<;>simp_all
theorem fits_array {n:Nat} {e:TypeId} {d:Option TypeDesc} (h:(TD.array n e).fits d):d=some (.array n e):=by
 unfold TD.fits at h;split at h<;>simp_all
theorem fits_map {k e:TypeId} {d:Option TypeDesc} (h:(TD.map k e).fits d):d=some (.map k e):=by
 unfold TD.fits at h;split at h<;>simp_all
theorem fits_struct {fs:List (Nat×TypeId)} {d:Option TypeDesc} (h:(TD.struct fs).fits d):∃a:Array Field,d=some (.struct a)∧a.toList.map (fun f=>(f.offset,f.type))=fs:=by
 unfold TD.fits at h;split at h<;>simp_all
theorem run_size (ok:TabOk P tt) {t:TypeId} {i:TI} (ht:tt t=some i):(sizeOf t).run P w=.ok i.size w:=by
 obtain⟨inf,h1,h2,_,_⟩:=ok.info t i ht
 simp[sizeOf,typeInfo,h1,h2]
theorem run_info (ok:TabOk P tt) {t:TypeId} {i:TI} (ht:tt t=some i):∃inf,(typeInfo t).run P w=.ok inf w∧inf.size=i.size∧inf.bytes=i.bytes∧inf.zero=some i.zero:=by
 obtain⟨inf,h1,h2,h3,h4⟩:=ok.info t i ht
 exact⟨inf,by simp[typeInfo,h1],h2,h3,h4⟩
theorem run_zero (ok:TabOk P tt) {t:TypeId} {i:TI} (ht:tt t=some i):(zeroValue t).run P w=.ok i.zero w:=by
 obtain⟨inf,h1,_,_,h4⟩:=ok.info t i ht
 simp[zeroValue,typeInfo,h1,h4]
theorem run_agg (ok:TabOk P tt) {t:TypeId} {i:TI} (ht:tt t=some i):(isAgg t).run P w=.ok i.d.isAgg w:=by
 have h:=ok.und t i ht
 cases hd:i.d<;>rw[hd] at h<;>unfold TD.fits at h<;>split at h<;>(try (simp at *;done))<;>rename_i hu<;>
  simp_all [isAgg,underlying,TD.isAgg]
theorem run_cells (a:Addr):∀(n i:Nat) (acc:Array Value) (cs:List Value),w.cellsAt? a i n=some cs→(loadCellsFrom a i n acc).run P w=.ok (acc++cs.toArray) w
 |0,i,acc,cs,h=>by
  simp only[World.cellsAt?,Option.some.injEq] at h;subst h;simp[loadCellsFrom]
 |n+1,i,acc,cs,h=>by
  simp only[World.cellsAt?] at h
  cases hc:w.cell? (a.add i) with
  |none=>simp[hc] at h
  |some v=>
   simp only[hc] at h
   cases hr:w.cellsAt? a (i+1) n with
   |none=>simp[hr] at h
   |some rest=>
    simp only[hr,Option.map_some,Option.some.injEq] at h;subst h
    simp only[loadCellsFrom,Sem.run_bind,run_load,hc,Result.andThen_ok]
    rw[run_cells a n (i+1) _ rest hr]
    congr 1
    apply Array.ext'
    simp
theorem run_loadCells' (a:Addr) (n:Nat) (cs:List Value) (h:w.cellsAt? a 0 n=some cs):(loadCells a n).run P w=.ok cs.toArray w:=by
 rw[loadCells,run_cells a n 0 #[] cs h];simp
theorem run_put (a:Addr):∀(vs:List Value) (i:Nat) (w w':World),w.put? a i vs=some w'→(storeCells a vs i).run P w=.ok () w'
 |[],i,w,w',h=>by simp only[World.put?,Option.some.injEq] at h;subst h;simp[storeCells]
 |v::vs,i,w,w',h=>by
  simp only[World.put?] at h
  split at h
  ·simp at h
  ·rename_i hn
   have h1:v.oneCell'=true:=by
    cases hv:v.oneCell' with
    |true=>rfl
    |false=>exact absurd (.inl hv) hn
   have h3:w.frozen? (a.add i)=false:=by
    cases hf:w.frozen? (a.add i) with
    |false=>rfl
    |true=>exact absurd (.inr (.inr hf)) hn
   cases hc:w.cell? (a.add i) with
   |none=>exact absurd (.inr (.inl hc)) hn
   |some u=>
    simp only[storeCells,Sem.run_bind,run_store _ _ _ _ _ h1]
    simp only[hc,h3,Bool.false_eq_true,if_false,Result.andThen_ok]
    exact run_put a vs (i+1) _ w' h
theorem run_loadAt1 (ok:TabOk P tt) {t:TypeId} {i:TI} (ht:tt t=some i) (hg:i.d.isAgg=false) {p v:Value} {a:Addr} (hp:p=.pointer (some a)) (hc:w.cell? a=some v):
  (Instr.loadAt t p).run P w=.ok v w:=by
 subst hp
 simp[Instr.loadAt,Instr.sureAddr,loadVar,run_agg ok ht,hg,hc]
theorem run_loadAtN (ok:TabOk P tt) {t:TypeId} {i:TI} (ht:tt t=some i) (hg:i.d.isAgg=true) {a:Addr} {cs:List Value} (hc:w.cellsAt? a 0 i.size=some cs):
  (Instr.loadAt t (.pointer (some a))).run P w=.ok (.agg cs.toArray) w:=by
 simp[Instr.loadAt,Instr.sureAddr,loadVar,run_agg ok ht,hg,run_size ok ht,run_loadCells' a i.size cs hc]
theorem run_storeAtN (ok:TabOk P tt) {t:TypeId} {i:TI} (ht:tt t=some i) {a:Addr} {v:Value} {w':World} (hs:v.cells.size=i.size) (hc:w.put? a 0 v.cells.toList=some w'):
  (Instr.storeAt t (.pointer (some a)) v).run P w=.ok () w':=by
 simp[Instr.storeAt,Instr.sureAddr,storeVar,run_size ok ht,hs,run_put a _ 0 w w' hc]
theorem run_storeAt1 (ok:TabOk P tt) {t:TypeId} {i:TI} (ht:tt t=some i) (hg:i.d.isAgg=false) {a:Addr} {v u:Value} (hc:w.cell? a=some u) (hf:w.frozen? a=false) (hv:v.oneCell'=true):
  (Instr.storeAt t (.pointer (some a)) v).run P w=.ok () (w.setCell a v):=by
 have hcells:v.cells=#[v]:=by cases v<;>simp_all [Value.cells,Value.oneCell']
 refine run_storeAtN ok ht ?_ ?_
 ·rw[hcells,ok.agg t i ht hg];rfl
 ·rw[hcells];simp[World.put?,hv,hc,hf,Addr.add]
theorem run_nil {o:Oper} {ρ:Operand→Value} {x:Operand} (ho:o.op=.nilCheck x) {v:Value} (h:nilV (ρ x)=some v):(execOp ρ o).run P w=.ok (.value v) w:=by
 simp only[execOp,ho]
 cases hx:ρ x with
 |pointer a=>cases a<;>simp_all [nilV]
 |func f a b=>cases f<;>simp_all [nilV]
 |iface t v=>simp_all [nilV]
 |_=>simp_all [nilV]
theorem run_fieldAt (ok:TabOk P tt) {t:TypeId} {i j:TI} (ht:tt t=some i) {fs:List (Nat×TypeId)} (hd:i.d=.struct fs) {n off:Nat} {ft:TypeId} (hf:fs[n]?=some (off,ft))
  (hj:tt ft=some j) (hs:j.size≠0) {p v:Value} (h:fldV off p=some v):(Instr.fieldAt t p n).run P w=.ok v w:=by
 have hu0:=ok.und t i ht
 rw[hd] at hu0
 obtain⟨fa,hu,hm⟩:=fits_struct hu0
 clear hu0
 subst hm
 have hfa:∃f,fa[n]?=some f∧f.offset=off∧f.type=ft:=by
  rw[List.getElem?_map] at hf
  cases hx:fa.toList[n]? with
  |none=>simp[hx] at hf
  |some f=>simp[hx] at hf;exact⟨f,by simpa using hx,hf.1,hf.2⟩
 obtain⟨f,hfa,ho,hft⟩:=hfa
 subst ho hft
 cases p with
 |pointer a=>
  cases a with
  |none=>simp[fldV] at h
  |some a=>
   simp only[fldV,Option.some.injEq] at h;subst h
   simp[Instr.fieldAt,run_underlying hu,hfa,Instr.sureAddr,fieldPlace,run_size ok hj,hs]
 |_=>simp[fldV] at h
theorem run_idxS (ok:TabOk P tt) {t e:TypeId} {i j:TI} (ht:tt t=some i) (hd:i.d=.slice e) (hj:tt e=some j) {x y v:Value} (h:idxS j.size x y=some v):
  (Instr.indexAt t x y).run P w=.ok v w:=by
 have hu:=ok.und t i ht
 rw[hd] at hu
 have hu:=fits_slice hu
 unfold idxS at h
 split at h
 ·rename_i a len c k n
  split at h
  ·rename_i hb
   simp only[Option.some.injEq] at h;subst h
   simp[Instr.indexAt,asIntOf,run_underlying hu,hb.1,hb.2,run_size ok hj]
  ·simp at h
 ·simp at h
theorem run_idxA (ok:TabOk P tt) {t e:TypeId} {n:Nat} {i j:TI} (ht:tt t=some i) (hd:i.d=.array n e) (hj:tt e=some j) {x y v:Value} (h:idxA n j.size x y=some v):
  (Instr.indexAt t x y).run P w=.ok v w:=by
 have hu:=ok.und t i ht
 rw[hd] at hu
 have hu:=fits_array hu
 unfold idxA at h
 split at h
 ·rename_i a k m
  split at h
  ·rename_i hb
   simp only[Option.some.injEq] at h;subst h
   simp[Instr.indexAt,asIntOf,run_underlying hu,Instr.sureAddr,hb.1,hb.2,run_size ok hj]
  ·simp at h
 ·simp at h
theorem run_part (ok:TabOk P tt) {t:TypeId} {i:TI} (ht:tt t=some i) {cs:Array Value} {off:Nat} {v:Value} (h:partV i.d.isAgg off i.size (.agg cs)=some v):
  (part t cs off).run P w=.ok v w:=by
 unfold partV at h
 cases hg:i.d.isAgg with
 |true=>simp[hg] at h;subst h;simp[part,run_agg ok ht,hg,run_size ok ht]
 |false=>simp[hg] at h;simp[part,run_agg ok ht,hg,h]
theorem run_field (ok:TabOk P tt) {t:TypeId} {i j:TI} (ht:tt t=some i) {fs:List (Nat×TypeId)} (hd:i.d=.struct fs) {n off:Nat} {ft:TypeId} (hf:fs[n]?=some (off,ft))
  (hj:tt ft=some j) {x v:Value} (h:partV j.d.isAgg off j.size x=some v):(Instr.field t x n).run P w=.ok v w:=by
 have hu0:=ok.und t i ht
 rw[hd] at hu0
 obtain⟨fa,hu,hm⟩:=fits_struct hu0
 clear hu0
 subst hm
 have hfa:∃f,fa[n]?=some f∧f.offset=off∧f.type=ft:=by
  rw[List.getElem?_map] at hf
  cases hx:fa.toList[n]? with
  |none=>simp[hx] at hf
  |some f=>simp[hx] at hf;exact⟨f,by simpa using hx,hf.1,hf.2⟩
 obtain⟨f,hfa,ho,hft⟩:=hfa
 subst ho hft
 cases x with
 |agg cs=>simp[Instr.field,run_underlying hu,hfa,asAgg,run_part ok hj h]
 |_=>simp[partV] at h
theorem run_idxStr (ok:TabOk P tt) {t:TypeId} {i:TI} (ht:tt t=some i) (hd:i.d=.string) {x y v:Value} (h:idxStr x y=some v):(Instr.index t x y).run P w=.ok v w:=by
 have hu:=ok.und t i ht
 rw[hd] at hu
 have hu:=fits_string hu
 unfold idxStr at h
 split at h
 ·rename_i s k n
  split at h
  ·rename_i hb
   cases hx:s[n.toNat]? with
   |none=>simp[hx] at h
   |some b=>simp[hx] at h;subst h;simp[Instr.index,asIntOf,run_underlying hu,hb,hx]
  ·simp at h
 ·simp at h
theorem run_ext {x v:Value} {n:Nat} (h:extV n x=some v):(Instr.extract x n).run P w=.ok v w:=by
 unfold extV at h
 split at h
 ·simp[Instr.extract,h]
 ·simp at h
theorem run_un {op:UnOp} {x v:Value} (h:unV op x=some v):(Op.unary op x).run P w=.ok v w:=by
 unfold unV at h
 split at h
 ·split at h<;>simp at h;subst h;simp[Op.unary]
 ·split at h<;>simp at h<;>subst h
  ·simp[Op.unary,Op.intArith]
  ·simp[Op.unary,Op.intBits,bitI]
 ·simp at h
theorem run_convI (ok:TabOk P tt) {s d:TypeId} {i j:TI} {k:IntKind} (hs:tt s=some i) (hd:tt d=some j) (hk:j.d=.int k) {k':IntKind} (hk':i.d=.int k') {x v:Value} (h:convI k x=some v):
  (convert s d x).run P w=.ok v w:=by
 have h1:=ok.und s i hs
 have h2:=ok.und d j hd
 rw[hk'] at h1
 rw[hk] at h2
 have h1:=fits_int h1
 have h2:=fits_int h2
 unfold convI at h
 split at h
 ·simp at h;subst h
  simp[convert,run_underlying h1,run_underlying h2,Conv.intToInt]
 ·simp at h
theorem run_convS (ok:TabOk P tt) {s d:TypeId} {i j:TI} (hs:tt s=some i) (hd:tt d=some j) (hk:j.d=.string) (hk':i.d=.string) {x v:Value} (h:convS x=some v):
  (convert s d x).run P w=.ok v w:=by
 have h1:=ok.und s i hs
 have h2:=ok.und d j hd
 rw[hk'] at h1
 rw[hk] at h2
 have h1:=fits_string h1
 have h2:=fits_string h2
 unfold convS at h
 split at h
 ·simp at h;subst h
  simp[convert,run_underlying h1,run_underlying h2]
 ·simp at h
end
end Go.Cub
namespace Go.Cub
open Go
section
variable {P:Program} {w:World} {tt:TTab}
theorem run_sliceBound {v:Value} {n y:Nat} (h:v=.int .i64 n∨∃k,v=.int k (n:Int)) (hy:n≤y) (c:BoundsCode):(Instr.sliceBound v y c).run P w=.ok n w:=by
 have :∃k,v=.int k (n:Int):=by rcases h with h |h;exact⟨_,h⟩;exact h
 obtain⟨k,rfl⟩:=this
 have hb:(0:Int)≤n∧(n:Int)≤y:=⟨by omega,by omega⟩
 simp only[Instr.sliceBound,asIntOf,Sem.run_bind,Sem.run_pure,Result.andThen_ok,Sem.run_ite,hb,and_self,if_true,Int.toNat_natCast]
theorem natOf_some {x:Option Value} {n:Nat} (h:natOf x=some (some n)):∃v,x=some v∧∃k,v=.int k (n:Int):=by
 unfold natOf at h
 split at h
 ·simp at h
 ·rename_i k m
  split at h
  ·rename_i hm;simp only[Option.some.injEq] at h;subst h;exact⟨_,rfl,k,by rw[Int.toNat_of_nonneg hm]⟩
  ·simp at h
 ·simp at h
theorem natOf_none {x:Option Value} (h:natOf x=some none):x=none:=by
 unfold natOf at h
 split at h
 ·rfl
 ·split at h<;>simp at h
 ·simp at h
theorem run_sliceBounds {isS:Bool} {len cap:Nat} {low high max:Option Value} {l h m:Option Nat} (hl:natOf low=some l) (hh:natOf high=some h) (hm:natOf max=some m)
  (hmh:(m.isSome&&h.isNone)=false) (h1:m.getD cap≤cap) (h2:h.getD len≤m.getD cap) (h3:l.getD 0≤h.getD len):
  (Instr.sliceBounds isS len cap low high max).run P w=.ok (l.getD 0,h.getD len,m.getD cap) w:=by
 cases l with
 |none=>
  obtain rfl:=natOf_none hl
  cases h with
  |none=>
   obtain rfl:=natOf_none hh
   cases m with
   |none=>obtain rfl:=natOf_none hm;simp[Instr.sliceBounds]
   |some m=>simp at hmh
  |some h=>
   obtain⟨vh,rfl,kh⟩:=natOf_some hh
   cases m with
   |none=>
    obtain rfl:=natOf_none hm
    simp only[Option.getD_none,Option.getD_some] at *
    simp[Instr.sliceBounds,run_sliceBound (.inr kh) h2]
   |some m=>
    obtain⟨vm,rfl,km⟩:=natOf_some hm
    simp only[Option.getD_none,Option.getD_some] at *
    simp[Instr.sliceBounds,run_sliceBound (.inr kh) h2,run_sliceBound (.inr km) h1]
 |some l=>
  obtain⟨vl,rfl,kl⟩:=natOf_some hl
  cases h with
  |none=>
   obtain rfl:=natOf_none hh
   cases m with
   |none=>
    obtain rfl:=natOf_none hm
    simp only[Option.getD_none,Option.getD_some] at *
    simp[Instr.sliceBounds,run_sliceBound (.inr kl) h3]
   |some m=>simp at hmh
  |some h=>
   obtain⟨vh,rfl,kh⟩:=natOf_some hh
   cases m with
   |none=>
    obtain rfl:=natOf_none hm
    simp only[Option.getD_none,Option.getD_some] at *
    simp[Instr.sliceBounds,run_sliceBound (.inr kh) h2,run_sliceBound (.inr kl) h3]
   |some m=>
    obtain⟨vm,rfl,km⟩:=natOf_some hm
    simp only[Option.getD_some] at *
    simp[Instr.sliceBounds,run_sliceBound (.inr kh) h2,run_sliceBound (.inr km) h1,run_sliceBound (.inr kl) h3]
theorem run_slc (ok:TabOk P tt) {t e:TypeId} {i j:TI} (ht:tt t=some i) (hd:i.d=.slice e) (hj:tt e=some j) {x v:Value} {low high max:Option Value}
  (h:slc j.size x low high max=some v):(Instr.sliceAt t x low high max).run P w=.ok v w:=by
 have hu:=ok.und t i ht
 rw[hd] at hu
 have hu:=fits_slice hu
 unfold slc at h
 split at h
 ·rename_i a len cap l hh m hl hhh hm
  split at h
  ·simp at h
  ·rename_i hmh
   unfold slcV at h
   simp only at h
   split at h
   ·rename_i hb
    simp only[Option.some.injEq] at h;subst h
    have :=run_sliceBounds (P:=P) (w:=w) (isS:=true) (len:=len) (cap:=cap) hl hhh hm (by cases hms:m<;>cases hhs:hh<;>simp_all) hb.1 hb.2.1 hb.2.2
    simp only[Instr.sliceAt,Instr.slice,Sem.run_bind,run_underlying hu,Result.andThen_ok,this,run_size ok hj,Sem.run_pure]
   ·simp at h
 ·simp at h
theorem run_slcA (ok:TabOk P tt) {t e:TypeId} {n:Nat} {i j:TI} (ht:tt t=some i) (hd:i.d=.array n e) (hj:tt e=some j) {x v:Value} {low high:Option Value}
  (h:slcA n j.size x low high=some v):(Instr.sliceAt t x low high none).run P w=.ok v w:=by
 have hu:=ok.und t i ht
 rw[hd] at hu
 have hu:=fits_array hu
 unfold slcA at h
 split at h
 ·rename_i a l hh hl hhh
  unfold slcV at h
  simp only at h
  split at h
  ·rename_i hb
   simp only[Option.some.injEq] at h;subst h
   have :=run_sliceBounds (P:=P) (w:=w) (isS:=false) (len:=n) (cap:=n) hl hhh (max:=none) (m:=none) rfl (by simp) hb.1 hb.2.1 hb.2.2
   simp only[Instr.sliceAt,Sem.run_bind,run_underlying hu,Result.andThen_ok,Instr.sureAddr,Sem.run_pure,this,run_size ok hj,Option.map_some]
   split<;>simp_all
  ·simp at h
 ·simp at h
def placesOf (tt:TTab):List (Nat×TypeId)→Option (List (Nat×Nat))
 |[]=>some []
 |(off,t)::fs=>match tt t,placesOf tt fs with
  |some i,some l=>some ((off,i.size)::l)
  |_,_=>none
theorem run_places (ok:TabOk P tt):∀(fs:List Field) (l:List (Nat×Nat)),placesOf tt (fs.map fun f=>(f.offset,f.type))=some l→
  (fs.mapM (m:=Sem) fun f=>do pure (f.offset, ←sizeOf f.type)).run P w=.ok l w
 |[],l,h=>by simp[placesOf] at h;subst h;simp
 |f::fs,l,h=>by
  simp only[List.map_cons,placesOf] at h
  split at h
  ·rename_i i l' hi hl
   simp only[Option.some.injEq] at h;subst h
   rw[List.mapM_cons]
   simp only[Sem.run_bind,run_size ok hi,Result.andThen_ok,Sem.run_pure,run_places ok fs l' hl]
  ·simp at h
theorem run_buildS (ok:TabOk P tt) {t:TypeId} {i:TI} (ht:tt t=some i) {fs:List (Nat×TypeId)} (hd:i.d=.struct fs) {places:List (Nat×Nat)} (hp:placesOf tt fs=some places)
  {parts:Array (Nat×Value)} {v:Value} (h:buildV places i.zero parts.toList=some v):(Instr.build t parts).run P w=.ok v w:=by
 have hu0:=ok.und t i ht
 rw[hd] at hu0
 obtain⟨fa,hu,hm⟩:=fits_struct hu0
 clear hu0
 subst hm
 unfold buildV at h
 cases hf:Instr.fill (places[·]?) i.zero.cells parts.toList with
 |none=>simp[hf] at h
 |some cells=>
  simp[hf] at h;subst h
  have hpl:(fa.mapM (m:=Sem) fun f=>do pure (f.offset, ←sizeOf f.type)).run P w=.ok places.toArray w:=by
   rw[Array.mapM_eq_mapM_toList]
   simp only[Sem.run_map,run_places ok fa.toList places hp,Result.andThen_ok]
  simp only[Instr.build,Sem.run_bind,run_zero ok ht,Result.andThen_ok,run_underlying hu,hpl]
  simp[hf]
theorem run_buildA (ok:TabOk P tt) {t e:TypeId} {n:Nat} {i j:TI} (ht:tt t=some i) (hd:i.d=.array n e) (hj:tt e=some j)
  {parts:Array (Nat×Value)} {v:Value} (h:(Instr.fill (fun x=>some (x * j.size,j.size)) i.zero.cells parts.toList).map .agg=some v):(Instr.build t parts).run P w=.ok v w:=by
 have hu:=ok.und t i ht
 rw[hd] at hu
 have hu:=fits_array hu
 cases hf:Instr.fill (fun x=>some (x * j.size,j.size)) i.zero.cells parts.toList with
 |none=>simp[hf] at h
 |some cells=>
  simp[hf] at h;subst h
  simp[Instr.build,run_zero ok ht,run_underlying hu,run_size ok hj,hf]
theorem zeros_eq (z:List Value) (n:Nat) (hz:z.length≠0∨n=0):((Array.range (n * z.length)).map (fun i=>z.toArray[i%z.toArray.size]!)).toList=zeros z n:=by
 induction n with
 |zero=>simp[zeros]
 |succ n ih=>
  have hz':z.length≠0:=by rcases hz with h |h;exact h;omega
  have ih:=ih (.inl hz')
  rw[zeros,List.replicate_succ',List.flatten_append, ←zeros, ←ih]
  simp only[Array.toList_map,Array.toList_range,Nat.add_mul,Nat.one_mul,List.range_add,List.map_append,List.map_map,List.flatten_cons,List.flatten_nil,List.append_nil]
  congr 1
  apply List.ext_getElem
  ·simp
  ·intro k h1 h2
   simp only[List.length_map,List.length_range] at h1
   simp only[List.getElem_map,List.getElem_range,Function.comp_apply,List.size_toArray]
   have :(n * z.length+k)%z.length=k:=by rw[Nat.mul_comm,Nat.mul_add_mod];exact Nat.mod_eq_of_lt h1
   rw[this]
   simp[h1]
theorem zeroCells_eq (z:Array Value) (n:Nat) (hz:z.size≠0∨n=0):(Builtin.zeroCells z n).toList=zeros z.toList n:=by
 have :=zeros_eq z.toList n (by simpa using hz)
 simpa[Builtin.zeroCells] using this
theorem run_NEW {elem:TypeId} {v:Value}:(newVar elem v).run P w=.ok ⟨w.heap.size,0,none⟩ (w.alloc (.cells v.cells elem)):=by
 simp[newVar,newRow]
theorem run_alloc' (ok:TabOk P tt) {t:TypeId} {i:TI} (ht:tt t=some i):(Instr.alloc t true (.tuple #[])).run P w=.ok (.pointer (some ⟨w.heap.size,0,none⟩)) (w.alloc (.cells i.zero.cells t)):=by
 simp[Instr.alloc,run_zero ok ht,run_NEW]
theorem run_box' {t:TypeId} {v:Value}:(Instr.box t v).run P w=.ok (.pointer (some ⟨w.heap.size,0,none⟩)) (w.alloc (.cells v.cells t)):=by
 simp[Instr.box,run_NEW]
def buildSl (j:TI) (n:Nat) (parts:List (Nat×Value)):Option (Array Value):=
 if n * j.size>2^24∨j.zero.cells.size≠j.size∨j.size=0 then none else
 Instr.fill (fun x=>some (x * j.size,j.size)) (zeros j.zero.cells.toList n).toArray parts
theorem run_buildSlice' (ok:TabOk P tt) {t e:TypeId} {i j:TI} (ht:tt t=some i) (hd:i.d=.slice e) (hj:tt e=some j) {n:Nat} {parts:Array (Nat×Value)} {cells:Array Value}
  (h:buildSl j n parts.toList=some cells):(Instr.buildSlice t n parts).run P w=.ok (.slice (some ⟨w.heap.size,0,none⟩) n n) (w.alloc (.cells cells e)):=by
 have hu:=ok.und t i ht
 rw[hd] at hu
 have hu:=fits_slice hu
 unfold buildSl at h
 split at h
 ·simp at h
 ·rename_i hb
  have h1:¬n * j.size>2^24:=fun x=>hb (.inl x)
  have h2:j.zero.cells.size=j.size:=by
   rcases Nat.decEq j.zero.cells.size j.size with h |h
   ·exact absurd (.inr (.inl h)) hb
   ·exact h
  have h3:j.size≠0:=fun x=>hb (.inr (.inr x))
  have hz:(Array.range (n * j.size)).map (fun i=>j.zero.cells[i%j.zero.cells.size]!)=(zeros j.zero.cells.toList n).toArray:=by
   apply Array.ext'
   have :=zeros_eq j.zero.cells.toList n (.inl (by simp[h2,h3]))
   simpa[h2] using this
  have h1':¬2^24<n * j.size:=h1
  simp only[Instr.buildSlice,Sem.run_bind,run_underlying hu,run_size ok hj,Result.andThen_ok,Sem.run_ite]
  simp only[gt_iff_lt,h1',if_false]
  by_cases h0:n * j.size=0
  ·have hn:n=0:=by rcases Nat.mul_eq_zero.1 h0 with h |h;exact h;exact absurd h h3
   subst hn
   have hf:Instr.fill (fun x=>some (x * j.size,j.size)) #[] parts.toList=some cells:=by simpa[zeros] using h
   have hr0:(Array.map (fun(_:Nat)=>(default:Value)) (Array.range 0))=#[]:=Array.ext' (by simp)
   simp[newRow,hr0,hf]
  ·simp only[h0,if_false,Sem.run_bind,run_zero ok hj,Result.andThen_ok,Sem.run_pure,hz,h]
   simp[newRow]
theorem run_makeSlice' (ok:TabOk P tt) {t e:TypeId} {i j:TI} (ht:tt t=some i) (hd:i.d=.slice e) (hj:tt e=some j) (hz:j.zero.cells.size=j.size) (hs:j.size≠0) {k k':IntKind} {l c:Int}
  (h0:0≤l) (h1:l≤c) (h2:c≤1099511627776) (hb:j.bytes≤256):
  (Instr.makeSlice t (.int k l) (.int k' c)).run P w=.ok (.slice (some ⟨w.heap.size,0,none⟩) l.toNat c.toNat) (w.alloc (.cells (zeros j.zero.cells.toList c.toNat).toArray e)):=by
 have hu:=ok.und t i ht
 rw[hd] at hu
 have hu:=fits_slice hu
 obtain⟨inf,hi,_,hib,_⟩:=run_info (w:=w) ok hj
 have wl:IntKind.i64.wrap l=l:=by simp[IntKind.wrap,IntKind.bits,IntKind.signed];omega
 have wc:IntKind.i64.wrap c=c:=by simp[IntKind.wrap,IntKind.bits,IntKind.signed];omega
 have hbc:(j.bytes:Int) * c≤2^48:=by
  have :(j.bytes:Int) * c≤256 * 1099511627776:=by
   refine Int.le_trans (Int.mul_le_mul_of_nonneg_right (by omega :(j.bytes:Int)≤256) (by omega)) ?_
   exact Int.mul_le_mul_of_nonneg_left h2 (by omega)
  omega
 have hcond:(decide (c<0)||decide ((j.bytes:Int) * c>2^48)||decide (l<0)||decide (l>c))=false:=by
  simp;omega
 have hz':(Array.range (c.toNat * j.size)).map (fun i=>j.zero.cells[i%j.zero.cells.size]!)=(zeros j.zero.cells.toList c.toNat).toArray:=by
  apply Array.ext'
  have :=zeros_eq j.zero.cells.toList c.toNat (.inl (by simp[hz,hs]))
  simpa[hz] using this
 simp only[Instr.makeSlice,Sem.run_bind,run_underlying hu,Result.andThen_ok,asInt,asIntOf,Sem.run_pure,hi,hib,wl,wc]
 have hcond':((decide (c<0)||decide ((j.bytes:Int) * c>2^48))=true∨l<0∨l>c)=False:=by
  simp;omega
 simp only[hcond,Bool.false_eq_true,if_false,Sem.run_bind,run_askRoom,Result.andThen_ok,run_size ok hj]
 by_cases hn:c.toNat * j.size=0
 ·have hc0:c.toNat=0:=by rcases Nat.mul_eq_zero.1 hn with h |h;exact h;exact absurd h hs
  have hr0:(Array.map (fun(_:Nat)=>(default:Value)) (Array.range 0))=#[]:=Array.ext' (by simp)
  simp[hc0,zeros,newRow,hr0]
 ·simp only[hn,if_false,Sem.run_bind,run_zero ok hj,Result.andThen_ok,Sem.run_pure]
  rw[hz']
  simp[newRow]
end
end Go.Cub
namespace Go.Cub
open Go
section
variable {P:Program} {w:World} {tt:TTab}
theorem keyV_desc (ok:TabOk P tt) {t:TypeId} {i:TI} (ht:tt t=some i) {k:Value} (hk:keyV i.d k=true):
  ∃d,P.underlying t=some d∧MapKept.IsKey d k∧∀u b,eqV k u=some b→Instr.sameNow d k u=some b:=by
 have hu:=ok.und t i ht
 unfold keyV at hk
 split at hk
 ·rename_i kk n m hd
  rw[hd] at hu
  refine⟨_,fits_int hu,by simpa[MapKept.IsKey] using hk,fun u b h=>?_⟩
  cases u<;>simp[eqV] at h
  rename_i k' b'
  simp only[Instr.sameNow,h.1,if_true, ←h.2]
  by_cases hh:m=b'<;>simp[hh]
 ·rename_i s hd
  rw[hd] at hu
  refine⟨_,fits_string hu,trivial,fun u b h=>?_⟩
  cases u<;>simp[eqV] at h
  rename_i b'
  simp only[Instr.sameNow, ←h]
  by_cases hh:s=b'
  ·rw[(MapKept.bytes_beq s b').2 hh];simp[hh]
  ·have :(s==b')=false:=by
    cases hx:(s==b') with
    |false=>rfl
    |true=>exact absurd ((MapKept.bytes_beq s b').1 hx) hh
   rw[this];simp[hh]
 ·rename_i s hd
  rw[hd] at hu
  have hu':P.underlying t=some .bool:=by unfold TD.fits at hu;split at hu<;>simp_all
  refine⟨_,hu',trivial,fun u b h=>?_⟩
  cases u<;>simp[eqV] at h
  rename_i b'
  simp only[Instr.sameNow, ←h]
  cases s<;>cases b'<;>rfl
 ·simp at hk
theorem findNow_of {d:TypeDesc} {k:Value} (hd:∀u b,eqV k u=some b→Instr.sameNow d k u=some b):∀(es:List MapEntry) (i:Nat) (r:Option (Nat×Value)),
  findE k es i=some r→Instr.findNow d k es i=some r
 |[],i,r,h=>by simpa[findE,Instr.findNow] using h
 |e::es,i,r,h=>by
  simp only[findE] at h
  cases he:eqV k e.key with
  |none=>simp[he] at h
  |some b=>
   simp only[he] at h
   cases b with
   |true=>simp only[Option.some.injEq] at h;simp[Instr.findNow,hd _ _ he,h]
   |false=>simp only[Instr.findNow,hd _ _ he];exact findNow_of hd es (i+1) r h
theorem findE_at {k:Value}:∀(es:List MapEntry) (i:Nat) {j:Nat} {v:Value},findE k es i=some (some (j,v))→i≤j∧∃e,es[j - i]?=some e∧eqV k e.key=some true
 |[],i,j,v,h=>by simp[findE] at h
 |e::es,i,j,v,h=>by
  simp only[findE] at h
  cases he:eqV k e.key with
  |none=>simp[he] at h
  |some b=>
   simp only[he] at h
   cases b with
   |true=>
    simp only[Option.some.injEq,Prod.mk.injEq] at h
    exact⟨by omega,e,by simp[h.1],he⟩
   |false=>
    obtain⟨h1,e',h2,h3⟩:=findE_at es (i+1) h
    refine⟨by omega,e',?_,h3⟩
    rw[show j - i=(j - (i+1))+1 by omega]
    simpa using h2
theorem eqV_same {k u:Value} (h:eqV k u=some true):k=u:=by
 unfold eqV at h
 split at h
 ·split at h<;>simp_all
 ·simp_all
 ·simp_all
 ·simp at h
theorem run_stays {d:TypeDesc} {k:Value} (hk:MapKept.IsKey d k) {es:Array MapEntry} {j:Nat} {v:Value} (h:findE k es.toList 0=some (some (j,v))):
  (Instr.keyThatStays (((es[j]?).map (·.key)).getD k) k).run P w=.ok k w:=by
 obtain⟨_,e,h2,h3⟩:=findE_at es.toList 0 h
 have hj:es[j]?=some e:=by simpa using h2
 rw[hj]
 simp only[Option.map_some,Option.getD_some]
 rw[←eqV_same h3]
 exact MapKept.run_keyThatStays hk
theorem run_lookup' (ok:TabOk P tt) {t kt et:TypeId} {i ki ei:TI} (ht:tt t=some i) (hd:i.d=.map kt et) (hk:tt kt=some ki) (he:tt et=some ei) {m k:Value} {c:Bool} {K:Value→Prop}
  (h:LK ki.d c ei.zero m k w K):∃v,K v∧(Instr.lookup t m k c).run P w=.ok v w:=by
 have hu:=ok.und t i ht
 rw[hd] at hu
 have hu:=fits_map hu
 obtain⟨hkv,h⟩:=h
 obtain⟨d,hkd,hik,hs⟩:=keyV_desc ok hk hkv
 cases hents:ents m w with
 |none=>simp[hents] at h
 |some es=>
  simp only[hents] at h
  have hes:∃ea:Array MapEntry,ea.toList=es∧(m=.map none∧ea=#[]∨∃r clock,m=.map (some r)∧w.heap[r]?=some (.map ea clock)):=by
   unfold ents at hents
   split at hents
   ·simp only[Option.some.injEq] at hents;exact⟨#[],by simp[←hents],.inl ⟨rfl,rfl⟩⟩
   ·rename_i r
    split at hents
    ·rename_i ea clock hr;simp only[Option.some.injEq] at hents;exact⟨ea,hents,.inr ⟨r,clock,rfl,hr⟩⟩
    ·simp at hents
   ·simp at hents
  obtain⟨ea,rfl,hm⟩:=hes
  have key:∀r,findE k ea.toList 0=some r→(Instr.lookup t m k c).run P w=
    .ok (if c then .tuple #[(r.map (·.2)).getD ei.zero,.bool r.isSome] else(r.map (·.2)).getD ei.zero) w:=by
   intro r hr
   have hf:=findNow_of hs ea.toList 0 r hr
   rcases hm with ⟨rfl,rfl⟩ |⟨rr,clock,rfl,hb⟩
   ·simp only[findE,Option.some.injEq] at hr;subst hr
    simp[Instr.lookup,run_underlying hu,MapKept.run_checkKey hkd hik,MapKept.run_findKey hkd hf,run_zero ok he]
   ·cases r with
    |none=>simp[Instr.lookup,run_underlying hu,MapKept.run_getObj_map hb,MapKept.run_checkKey hkd hik,MapKept.run_findKey hkd hf,run_zero ok he]
    |some iv=>simp[Instr.lookup,run_underlying hu,MapKept.run_getObj_map hb,MapKept.run_checkKey hkd hik,MapKept.run_findKey hkd hf]
  cases hr:findE k ea.toList 0 with
  |none=>simp[hr] at h
  |some r=>
   simp only[hr] at h
   refine⟨_,?_,key r hr⟩
   cases r with
   |none=>cases c<;>simpa using h
   |some iv=>cases c<;>simpa using h
theorem run_mapUpdate' (ok:TabOk P tt) {t kt et:TypeId} {i ki:TI} (ht:tt t=some i) (hd:i.d=.map kt et) (hk:tt kt=some ki) {m k v:Value} {K:World→Prop}
  (h:MU ki.d m k v w K):∃w',K w'∧(Instr.mapUpdate t m k v).run P w=.ok () w':=by
 have hu:=ok.und t i ht
 rw[hd] at hu
 have hu:=fits_map hu
 obtain⟨hkv,h⟩:=h
 obtain⟨d,hkd,hik,hs⟩:=keyV_desc ok hk hkv
 split at h
 ·rename_i r
  split at h
  ·rename_i es clock hb
   cases hr:findE k es.toList 0 with
   |none=>simp[hr] at h
   |some x=>
    simp only[hr] at h
    have hf:=findNow_of hs es.toList 0 x hr
    cases x with
    |none=>
     refine⟨_,h,?_⟩
     simp only[Instr.mapUpdate,Sem.run_bind,run_underlying hu,Result.andThen_ok,MapKept.run_getObj_map hb,MapKept.run_checkKey hkd hik,MapKept.run_findKey hkd hf]
     rw[MapKept.run_setObj_map _ hb];rfl
    |some iv=>
     refine⟨_,h,?_⟩
     simp only[Instr.mapUpdate,Sem.run_bind,run_underlying hu,Result.andThen_ok,MapKept.run_getObj_map hb,MapKept.run_checkKey hkd hik,MapKept.run_findKey hkd hf,run_stays hik hr]
     rw[MapKept.run_setObj_map _ hb];rfl
  ·exact h.elim
 ·exact h.elim
theorem run_delete' (ok:TabOk P tt) {t kt et ty:TypeId} {i ki:TI} (ht:tt t=some i) (hd:i.d=.map kt et) (hk:tt kt=some ki) {m k:Value} {rest:Array TypeId} {K:World→Prop}
  (h:DEL ki.d m k w K):∃w',K w'∧(Builtin.delete_ (#[t]++rest) ty #[m,k]).run P w=.ok (.tuple #[]) w':=by
 have hu:=ok.und t i ht
 rw[hd] at hu
 have hu:=fits_map hu
 obtain⟨hkv,h⟩:=h
 obtain⟨d,hkd,hik,hs⟩:=keyV_desc ok hk hkv
 have ht0:(#[t]++rest)[0]?=some t:=by rw[Array.getElem?_append_left (by simp)];rfl
 split at h
 ·rename_i r
  split at h
  ·rename_i es clock hb
   cases hr:findE k es.toList 0 with
   |none=>simp[hr] at h
   |some x=>
    simp only[hr] at h
    have hf:=findNow_of hs es.toList 0 x hr
    cases x with
    |none=>
     refine⟨_,h,?_⟩
     simp only[Builtin.delete_,ht0]
     simp[run_underlying hu,MapKept.run_getObj_map hb,MapKept.run_checkKey hkd hik,MapKept.run_findKey hkd hf,MapKept.run_setObj_map _ hb,World.putObj']
    |some iv=>
     refine⟨_,h,?_⟩
     simp only[Builtin.delete_,ht0]
     simp[run_underlying hu,MapKept.run_getObj_map hb,MapKept.run_checkKey hkd hik,MapKept.run_findKey hkd hf,MapKept.run_setObj_map _ hb,World.putObj']
  ·exact h.elim
 ·exact h.elim
end
end Go.Cub
namespace Go.Cub
open Go
section
variable {P:Program} {w:World} {tt:TTab}
theorem nextcap_le {need cap:Nat} (h:cap<need) (hn:need≤68719476736):Builtin.nextslicecap need cap≤2^38:=by
 unfold Builtin.nextslicecap
 split
 ·omega
 ·split
  ·omega
  ·simp only[Builtin.growBy]
   (repeat' split)<;>omega
theorem run_first {size n:Nat} {x:Value} {cs:List Value} (h:srcCells size n x w=some cs):(Builtin.firstCells size n x).run P w=.ok cs.toArray w:=by
 unfold srcCells at h
 split at h
 ·simp only[Builtin.firstCells];exact run_loadCells' _ _ _ h
 ·split at h
  ·simp only[Option.some.injEq] at h;subst h;simp[Builtin.firstCells]
  ·simp at h
 ·simp only[Option.some.injEq] at h;subst h
  simp only[Builtin.firstCells,Sem.run_pure]
  congr 1
  apply Array.ext'
  simp
 ·simp at h
theorem run_len {x:Value} {n:Nat} (h:srcLen x=some n):(Builtin.lenOf x).run P w=.ok n w:=by
 unfold srcLen at h
 split at h<;>simp at h<;>subst h<;>simp[Builtin.lenOf]
theorem zc (z:Value) (n:Nat) (hz:z.cells.size≠0):Builtin.zeroCells z.cells n=(zeros z.cells.toList n).toArray:=by
 apply Array.ext'
 simpa using zeroCells_eq z.cells n (.inl hz)
theorem fits_app {ix:TI} {d:Option TypeDesc} (h:ix.d.fits d) (hx:ix.d=.string∨∃e,ix.d=.slice e):d=some .string∨∃e,d=some (.slice e):=by
 rcases hx with hx |⟨e,hx⟩<;>rw[hx] at h
 ·exact .inl (fits_string h)
 ·exact .inr ⟨e,fits_slice h⟩
theorem srcCells_drew {size n:Nat} {x:Value}:srcCells size n x w.drew=srcCells size n x w:=by
 have h:∀(a:Addr) (n i:Nat),w.drew.cellsAt? a i n=w.cellsAt? a i n:=by
  intro a n
  induction n with
  |zero=>intro i;rfl
  |succ n ih=>intro i;simp only[World.cellsAt?,World.cell?_drew,ih]
 unfold srcCells
 split<;>simp_all
theorem run_append' (ok:TabOk P tt) {t tx e ty:TypeId} {i ix j:TI} (ht:tt t=some i) (hd:i.d=.slice e) (hx:tt tx=some ix) (hnx:ix.d=.string∨∃e,ix.d=.slice e) (hj:tt e=some j)
  (hz:j.zero.cells.size≠0) {s x:Value} {K:Value→World→Prop} (h:APP e j.size j.bytes j.zero s x w K):
  ∃v w',K v w'∧(Builtin.append_ #[t,tx] ty #[s,x]).run P w=.ok v w':=by
 have hu0:=ok.und t i ht
 rw[hd] at hu0
 have hu:=fits_slice hu0
 have hux:=fits_app (ok.und tx ix hx) hnx
 obtain⟨inf,hinf,_,hib,_⟩:=run_info (w:=w) ok hj
 unfold APP at h
 split at h
 ·rename_i base sLen sCap n hn
  split at h
  ·exact h.elim
  ·rename_i new hnew
   have hlen:=run_len (P:=P) (w:=w) hn
   have hfirst:=run_first (P:=P) hnew
   split at h
   ·rename_i hroom
    cases base with
    |none=>
     refine⟨_,_,h,?_⟩
     rcases hux with hux |⟨ex,hux⟩<;>simp[Builtin.append_,run_underlying hu,run_underlying hux,run_size ok hj,hlen,hroom,hfirst]
    |some a=>
     simp only at h
     split at h
     ·rename_i w' hw'
      refine⟨_,_,h,?_⟩
      have hput:=run_put (P:=P) (a.add (sLen * j.size)) new 0 w w' hw'
      rcases hux with hux |⟨ex,hux⟩<;>simp[Builtin.append_,run_underlying hu,run_underlying hux,run_size ok hj,hlen,hroom,hfirst,hput]
     ·exact h.elim
   ·rename_i hroom
    obtain⟨hb,hb0,hb64,h⟩:=h
    split at h
    ·exact h.elim
    ·rename_i old hold
     have hcap:¬281474976710656<Builtin.nextslicecap (sLen+n) sCap * j.bytes:=by
      have :=nextcap_le (need:=sLen+n) (cap:=sCap) (by omega) hb
      have :Builtin.nextslicecap (sLen+n) sCap * j.bytes≤2^38 * 1024:=Nat.mul_le_mul this hb64
      omega
     have h63:¬(9223372036854775807<((sLen:Int)+(n:Int))):=by omega
     have hjb:j.bytes≠0:=by omega
     have hold':=run_first (P:=P) (w:=w.drew) (srcCells_drew.trans hold)
     have hnew':=run_first (P:=P) (w:=w.drew) (srcCells_drew.trans hnew)
     obtain⟨inf',hinf',_,hib',_⟩:=run_info (w:=w.drew) ok hj
     have hq:(Question.appendCap (sLen+n) sCap e).forced=false:=rfl
     generalize hcq:(Question.appendCap (sLen+n) sCap e).cut (w.tape w.drawn (.appendCap (sLen+n) sCap e))=cap
     have hge:sLen+n≤cap:=by rw[←hcq];simp[Question.cut]
     refine⟨_,_,h cap hge,?_⟩
     rcases hux with hux |⟨ex,hux⟩<;>
      simp[Builtin.append_,run_underlying hu,run_underlying hux,run_size ok hj,hlen,hroom,hinf,hib,hjb,h63,hcap,hq,hcq,hinf',hib',hold',hnew',run_zero ok hj,newRow,zc _ _ hz]
 ·exact h.elim
theorem run_appendZ (ok:TabOk P tt) {t tx e ty:TypeId} {i ix j:TI} {k:IntKind} (ht:tt t=some i) (hd:i.d=.slice e) (hx:tt tx=some ix) (hnx:ix.d=.int k) (hj:tt e=some j)
  (hz:j.zero.cells.size=j.size) (hs:j.size≠0) {s x:Value} {K:Value→World→Prop} (h:APZ e j.size j.bytes j.zero s x w K):
  ∃v w',K v w'∧(Builtin.append_ #[t,tx] ty #[s,x]).run P w=.ok v w':=by
 have hu0:=ok.und t i ht
 rw[hd] at hu0
 have hu:=fits_slice hu0
 have hux0:=ok.und tx ix hx
 rw[hnx] at hux0
 have hux:=fits_int hux0
 obtain⟨inf,hinf,_,hib,_⟩:=run_info (w:=w) ok hj
 unfold APZ at h
 split at h
 ·rename_i base sLen sCap kk n
  obtain⟨h0,h40,hb0,hb64,h⟩:=h
  obtain⟨m,rfl⟩:=Int.eq_ofNat_of_zero_le h0
  simp only[Int.toNat_natCast] at h
  have wl0:∀l:Int,0≤l→l≤68719476736→IntKind.i64.wrap l=l:=by
   intro l h1 h2;simp[IntKind.wrap,IntKind.bits,IntKind.signed];omega
  have wl:=wl0 m h0 h40
  have w0:IntKind.i64.wrap 0=0:=wl0 0 (by omega) (by omega)
  have hn0:¬((m:Int)<0):=by omega
  have hmb:¬(281474976710656<(m:Int) * (j.bytes:Int)):=by
   have h1:m≤68719476736:=by omega
   have h2:m * j.bytes≤68719476736 * 1024:=Nat.mul_le_mul h1 hb64
   intro h3
   rw[←Int.natCast_mul] at h3
   omega
  have hz0:j.zero.cells.size≠0:=by rw[hz];exact hs
  have hz00:∀ {m},m * j.size=0→zeros j.zero.cells.toList m=[]:=by
   intro m hm
   have :m=0:=by rcases Nat.mul_eq_zero.1 hm with h |h;exact h;exact absurd h hs
   subst this
   simp[zeros]
  split at h
  ·rename_i hroom
   cases base with
   |none=>
    refine⟨_,_,h,?_⟩
    by_cases hm:m=0
    ·subst hm
     simp only[Nat.add_zero] at *
     simp[Builtin.append_,run_underlying hu,run_underlying hux,run_size ok hj,asInt,asIntOf,w0,hinf,hroom]
    ·simp[Builtin.append_,run_underlying hu,run_underlying hux,run_size ok hj,asInt,asIntOf,wl,hn0,hinf,hib,hmb,hroom,hm,hs,run_zero ok hj]
   |some a=>
    simp only at h
    split at h
    ·rename_i w' hw'
     refine⟨_,_,h,?_⟩
     have hput:=run_put (P:=P) (a.add (sLen * j.size)) _ 0 w w' hw'
     by_cases hm:m=0
     ·subst hm
      simp only[zeros,List.replicate_zero,List.flatten_nil] at hput
      simp only[Nat.add_zero] at *
      simp[Builtin.append_,run_underlying hu,run_underlying hux,run_size ok hj,asInt,asIntOf,w0,hinf,hroom,hput]
     ·have hm0:¬(m * j.size=0):=fun h=>by rcases Nat.mul_eq_zero.1 h with h |h;exact hm h;exact hs h
      simp[Builtin.append_,run_underlying hu,run_underlying hux,run_size ok hj,asInt,asIntOf,wl,hn0,hinf,hib,hmb,hroom,hm0,run_zero ok hj,zc _ _ hz0,hput]
    ·exact h.elim
  ·rename_i hroom
   obtain⟨hb,h⟩:=h
   split at h
   ·exact h.elim
   ·rename_i old hold
    have hcap:¬281474976710656<Builtin.nextslicecap (sLen+m) sCap * j.bytes:=by
     have :=nextcap_le (need:=sLen+m) (cap:=sCap) (by omega) hb
     have :Builtin.nextslicecap (sLen+m) sCap * j.bytes≤2^38 * 1024:=Nat.mul_le_mul this hb64
     omega
    have h63:¬(9223372036854775807<((sLen:Int)+(m:Int))):=by omega
    have hold':=run_first (P:=P) (w:=w.drew) (srcCells_drew.trans hold)
    have hq:(Question.appendCap (sLen+m) sCap e).forced=false:=rfl
    generalize hcq:(Question.appendCap (sLen+m) sCap e).cut (w.tape w.drawn (.appendCap (sLen+m) sCap e))=cap
    have hge:sLen+m≤cap:=by rw[←hcq];simp[Question.cut]
    obtain⟨inf',hinf',_,hib',_⟩:=run_info (w:=w.drew) ok hj
    refine⟨_,_,h cap hge,?_⟩
    by_cases hm:m=0
    ·subst hm
     simp only[Nat.add_zero] at *
     have h63s:¬(9223372036854775807<(sLen:Int)):=by omega
     simp[Builtin.append_,run_underlying hu,run_underlying hux,run_size ok hj,asInt,asIntOf,w0,hinf,hib,hroom,h63s,hcap,hq,hcq,hinf',hib',hold',run_zero ok hj,newRow,zc _ _ hz0,zeros]
    ·have hm0:¬(m * j.size=0):=fun h=>by rcases Nat.mul_eq_zero.1 h with h |h;exact hm h;exact hs h
     simp[Builtin.append_,run_underlying hu,run_underlying hux,run_size ok hj,asInt,asIntOf,wl,hn0,hinf,hib,hmb,hroom,hm0,h63,hcap,hq,hcq,hinf',hib',hold',run_zero ok hj,newRow,zc _ _ hz0]
 ·exact h.elim
theorem run_copy' (ok:TabOk P tt) {t e ty:TypeId} {rest:Array TypeId} {i j:TI} (ht:tt t=some i) (hd:i.d=.slice e) (hj:tt e=some j) {x y:Value} {K:Value→World→Prop} (h:CPY j.size x y w K):
  ∃v w',K v w'∧(Builtin.copy_ (#[t]++rest) ty #[x,y]).run P w=.ok v w':=by
 have hu0:=ok.und t i ht
 rw[hd] at hu0
 have hu:=fits_slice hu0
 have ht0:(#[t]++rest)[0]?=some t:=by rw[Array.getElem?_append_left (by simp)];rfl
 unfold CPY at h
 split at h
 ·rename_i base dLen dCap sl hsl
  have hlen:=run_len (P:=P) (w:=w) hsl
  split at h
  ·exact h.elim
  ·rename_i cs hcs
   have hfirst:=run_first (P:=P) (w:=w) hcs
   have hmin:Nat.min sl dLen=min sl dLen:=rfl
   split at h
   ·rename_i a
    split at h
    ·rename_i w' hw'
     have hput:=run_put (P:=P) a _ 0 w w' hw'
     refine⟨_,_,h,?_⟩
     simp only[Builtin.copy_,ht0]
     simp[run_underlying hu,hlen,run_size ok hj,hmin,hfirst,hput,goInt]
    ·exact h.elim
   ·refine⟨_,_,h,?_⟩
    simp only[Builtin.copy_,ht0]
    simp[run_underlying hu,hlen,run_size ok hj,hmin,hfirst,goInt]
 ·exact h.elim
theorem run_clear' (ok:TabOk P tt) {t e ty:TypeId} {i j:TI} (ht:tt t=some i) (hd:i.d=.slice e) (hj:tt e=some j) (hz:j.zero.cells.size≠0) {x:Value} {K:World→Prop} (h:CLR j.zero x w K):
  ∃w',K w'∧(Builtin.clear_ #[t] ty #[x]).run P w=.ok (.tuple #[]) w':=by
 have hu0:=ok.und t i ht
 rw[hd] at hu0
 have hu:=fits_slice hu0
 unfold CLR at h
 split at h
 ·exact⟨_,h,by simp[Builtin.clear_,run_underlying hu]⟩
 ·rename_i a c
  refine⟨_,h,?_⟩
  cases a<;>simp[Builtin.clear_,run_underlying hu]
 ·rename_i a n c hne
  split at h
  ·rename_i w' hw'
   have hput:=run_put (P:=P) a _ 0 w w' hw'
   refine⟨_,h,?_⟩
   cases n with
   |zero=>exact absurd rfl hne
   |succ n=>simp[Builtin.clear_,run_underlying hu,run_zero ok hj,zc _ _ hz,hput]
  ·exact h.elim
 ·exact h.elim
theorem bytesOf_run {f:Value→ByteArray→Sem (ForInStep ByteArray)} (hf:∀n acc w,(f (.int .u8 n) acc).run P w=.ok (.yield (acc.push (UInt8.ofNat n.toNat))) w):
  ∀(cs:List Value) (acc:ByteArray) (l:List UInt8),bytesOf cs=some l→(forIn cs acc f).run P w=.ok ⟨acc.data++l.toArray⟩ w
 |[],acc,l,h=>by simp[bytesOf] at h;subst h;simp
 |c::cs,acc,l,h=>by
  cases c<;>try (simp[bytesOf] at h;done)
  rename_i k n
  cases k<;>try (simp[bytesOf] at h;done)
  simp only[bytesOf] at h
  cases hb:bytesOf cs with
  |none=>simp[hb] at h
  |some l'=>
   simp[hb] at h;subst h
   simp only[List.forIn_cons,Sem.run_bind,hf,Result.andThen_ok]
   rw[bytesOf_run hf cs _ l' hb]
   simp only[Result.ok.injEq,and_true]
   apply ByteArray.ext
   apply Array.ext'
   cases acc
   simp[ByteArray.push]
theorem run_bts (ok:TabOk P tt) {t e s:TypeId} {i j k:TI} (ht:tt t=some i) (hd:i.d=.slice e) (hj:tt e=some j) (hje:j.d=.int .u8) (hs:tt s=some k) (hk:k.d=.string) {x:Value} {K:Value→Prop} (h:BTS x w K):
  ∃v,K v∧(convert t s x).run P w=.ok v w:=by
 have hu0:=ok.und t i ht
 rw[hd] at hu0
 have hu:=fits_slice hu0
 have hue0:=ok.und e j hj
 rw[hje] at hue0
 have hue:=fits_int hue0
 have hus0:=ok.und s k hs
 rw[hk] at hus0
 have hus:=fits_string hus0
 unfold BTS at h
 split at h
 ·exact⟨_,h,by simp[convert,run_underlying hu,run_underlying hus,run_underlying hue,Conv.bytesToString]⟩
 ·rename_i a len c
  split at h
  ·rename_i l hl
   cases hc:w.cellsAt? a 0 len with
   |none=>simp[hc] at hl
   |some cs=>
    simp[hc] at hl
    refine⟨_,h,?_⟩
    simp only[convert,Sem.run_bind,run_underlying hu,run_underlying hus,run_underlying hue,Result.andThen_ok,Conv.bytesToString,run_loadCells' a len cs hc,List.forIn_toArray]
    rw[bytesOf_run (P:=P) (w:=w) ?hf cs ByteArray.empty l hl]
    ·simp
    ·intro n acc w;rfl
  ·exact h.elim
 ·exact h.elim
end
end Go.Cub
