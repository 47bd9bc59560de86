/-
  Part 7 of the proof that TopNested returns true and leaves what it was given as it was. CONDITIONS: those of the given row and card.
-/
import Derived.Test.YtpelalpajdpkgaaGreatDoorZ05
import Derived.IntWalk
set_option linter.all false
namespace Go.Cub
open Go
section vals
variable {A B:Prop} {K:Value→Prop}
@[simp] theorem PV_some (v:Value):PV (some v) K=K v:=rfl
@[simp] theorem CND_true:CND (.bool true) A B=A:=rfl
@[simp] theorem CND_false:CND (.bool false) A B=B:=rfl
theorem CND_dec {p:Prop} [Decidable p] (ha:p→A) (hb:¬p→B):CND (.bool (decide p)) A B:=by
 by_cases h:p
 ·rw[decide_eq_true h];exact ha h
 ·rw[decide_eq_false h];exact hb h
variable {w:World} {ex:(Value→World→Prop)→Prop} {K2:Value→World→Prop}
@[simp] theorem GRD_tt:GRD (.bool true) true w ex K2=ex K2:=rfl
@[simp] theorem GRD_ff:GRD (.bool false) false w ex K2=ex K2:=rfl
@[simp] theorem GRD_tf:GRD (.bool true) false w ex K2=K2 undef w:=rfl
@[simp] theorem GRD_ft:GRD (.bool false) true w ex K2=K2 undef w:=rfl
@[simp] theorem pickV_true (a b:Value):pickV (.bool true) a b=some a:=rfl
@[simp] theorem pickV_false (a b:Value):pickV (.bool false) a b=some b:=rfl
@[simp] theorem nilV_some (a:Addr):nilV (.pointer (some a))=some (.pointer (some a)):=rfl
@[simp] theorem extV_eq (vs:Array Value) (n:Nat):extV n (.tuple vs)=vs[n]?:=rfl
@[simp] theorem fldV_some (off b o:Nat):fldV off (.pointer (some ⟨b,o,none⟩))=some (.pointer (some ⟨b,o+off,none⟩)):=by
 unfold fldV Addr.add
 by_cases h:off=0
 ·simp[h]
 ·simp[h]
@[simp] theorem partV_false (off size:Nat) (cs:Array Value):partV false off size (.agg cs)=cs[off]?:=rfl
@[simp] theorem partV_true (off size:Nat) (cs:Array Value):partV true off size (.agg cs)=some (.agg (cs.extract off (off+size))):=rfl
@[simp] theorem lenS_eq (a:Option Addr) (n c:Nat):lenS (.slice a n c)=some (.int .i64 n):=rfl
@[simp] theorem lenStr_eq (s:ByteArray):lenStr (.string s)=some (.int .i64 s.size):=rfl
@[simp] theorem capV_eq (a:Option Addr) (n c:Nat):capV (.slice a n c)=some (.int .i64 c):=rfl
@[simp] theorem unV_not (b:Bool):unV .not (.bool b)=some (.bool !b):=rfl
@[simp] theorem convS_eq (s:ByteArray):convS (.string s)=some (.string s):=rfl
@[simp] theorem convI_eq (k k':IntKind) (n:Int):convI k (.int k' n)=some (.int k (k.wrap n)):=rfl
@[simp] theorem maxV_eq (k k':IntKind) (x y:Int):maxV (.int k x) (.int k' y)=some (.int k (if y>x then y else x)):=rfl
@[simp] theorem minV_eq (k k':IntKind) (x y:Int):minV (.int k x) (.int k' y)=some (.int k (if y<x then y else x)):=rfl
section
variable (k:IntKind) (a b:Int)
@[simp] theorem binN_add:binN .add (.int k a) (.int k b)=some (.int k (k.wrap (a+b))):=by simp[binN,binI]
@[simp] theorem binN_sub:binN .sub (.int k a) (.int k b)=some (.int k (k.wrap (a - b))):=by simp[binN,binI]
@[simp] theorem binN_mul:binN .mul (.int k a) (.int k b)=some (.int k (k.wrap (a * b))):=by simp[binN,binI]
@[simp] theorem binN_eql:binN .eql (.int k a) (.int k b)=some (.bool (decide (a=b))):=by simp[binN,binI]
@[simp] theorem binN_neq:binN .neq (.int k a) (.int k b)=some (.bool (decide (a≠b))):=by simp[binN,binI]
@[simp] theorem binN_lss:binN .lss (.int k a) (.int k b)=some (.bool (decide (a<b))):=by simp[binN,binI]
@[simp] theorem binN_leq:binN .leq (.int k a) (.int k b)=some (.bool (decide (a≤b))):=by simp[binN,binI]
@[simp] theorem binN_gtr:binN .gtr (.int k a) (.int k b)=some (.bool (decide (a>b))):=by simp[binN,binI]
@[simp] theorem binN_geq:binN .geq (.int k a) (.int k b)=some (.bool (decide (a≥b))):=by simp[binN,binI]
@[simp] theorem binN_and:binN .and (.int k a) (.int k b)=some (.int k (bitI .and k a b)):=by simp[binN,binI]
@[simp] theorem binN_or:binN .or (.int k a) (.int k b)=some (.int k (bitI .or k a b)):=by simp[binN,binI]
@[simp] theorem binN_xor:binN .xor (.int k a) (.int k b)=some (.int k (bitI .xor k a b)):=by simp[binN,binI]
@[simp] theorem binN_andNot:binN .andNot (.int k a) (.int k b)=some (.int k (bitI .andNot k a b)):=by simp[binN,binI]
theorem binN_quo (h:b≠0):binN .quo (.int k a) (.int k b)=some (.int k (k.wrap (a.tdiv b))):=by simp[binN,binI,h]
theorem binN_rem (h:b≠0):binN .rem (.int k a) (.int k b)=some (.int k (a.tmod b)):=by simp[binN,binI,h]
theorem binN_shl (k':IntKind) (h:0≤b):binN .shl (.int k a) (.int k' b)=some (.int k (k.wrap (a * 2^(min b.toNat k.bits)))):=by
 simp[binN];omega
theorem binN_shr (k':IntKind) (h:0≤b):binN .shr (.int k a) (.int k' b)=some (.int k (a.fdiv (2^(min b.toNat k.bits)))):=by
 simp[binN];omega
end
@[simp] theorem binB_str_eql (s t:ByteArray):binB .string .eql (.string s) (.string t)=some (.bool (decide (s=t))):=rfl
@[simp] theorem binB_str_neq (s t:ByteArray):binB .string .neq (.string s) (.string t)=some (.bool (decide (s≠t))):=rfl
@[simp] theorem binB_ptr_eql (e:TypeId) (a:Option Addr):binB (.ptr e) .eql (.pointer a) (.pointer none)=some (.bool a.isNone):=by cases a<;>rfl
@[simp] theorem binB_ptr_neq (e:TypeId) (a:Option Addr):binB (.ptr e) .neq (.pointer a) (.pointer none)=some (.bool a.isSome):=by cases a<;>rfl
@[simp] theorem binB_slice_eql (e:TypeId) (a:Option Addr) (n c:Nat):binB (.slice e) .eql (.slice a n c) (.slice none 0 0)=some (.bool a.isNone):=by cases a<;>rfl
@[simp] theorem binB_slice_neq (e:TypeId) (a:Option Addr) (n c:Nat):binB (.slice e) .neq (.slice a n c) (.slice none 0 0)=some (.bool a.isSome):=by cases a<;>rfl
@[simp] theorem binB_map_eql (k e:TypeId) (a:Option Nat):binB (.map k e) .eql (.map a) (.map none)=some (.bool a.isNone):=by cases a<;>rfl
@[simp] theorem binB_func_eql (f:Fn) (a b:Array Value):binB .func .eql (.func f a b) .nilFunc=some (.bool false):=rfl
@[simp] theorem binB_func_neq (f:Fn) (a b:Array Value):binB .func .neq (.func f a b) .nilFunc=some (.bool true):=rfl
@[simp] theorem cells_agg (cs:Array Value):(Value.agg cs).cells=cs:=rfl
@[simp] theorem cells_int (k:IntKind) (n:Int):(Value.int k n).cells=#[.int k n]:=rfl
@[simp] theorem cells_bool (b:Bool):(Value.bool b).cells=#[.bool b]:=rfl
@[simp] theorem cells_string (s:ByteArray):(Value.string s).cells=#[.string s]:=rfl
@[simp] theorem cells_pointer (a:Option Addr):(Value.pointer a).cells=#[.pointer a]:=rfl
@[simp] theorem cells_slice (a:Option Addr) (n c:Nat):(Value.slice a n c).cells=#[.slice a n c]:=rfl
@[simp] theorem cells_map (r:Option Nat):(Value.map r).cells=#[.map r]:=rfl
@[simp] theorem cells_func (f:Fn) (a b:Array Value):(Value.func f a b).cells=#[.func f a b]:=rfl
end vals
def row (w:World) (b:Nat):Option (List Value):=match w.heap[b]? with
 |some (.cells c _ (0,0))=>some c.toList
 |_=>none
def mapAt (w:World) (r:Nat):Option (List MapEntry×Nat):=match w.heap[r]? with
 |some (.map es clock)=>some (es.toList,clock)
 |_=>none
structure Mod (S:List Nat) (w w':World):Prop where
 size:w.heap.size≤w'.heap.size
 same:∀b,b<w.heap.size→b∉S→w'.heap[b]?=w.heap[b]?
 env:w'.os=w.os∧w'.output=w.output
abbrev Ext (w w':World):Prop:=Mod [] w w'
section
variable {w w' w'':World} {S T:List Nat} {b:Nat} {cs:List Value}
theorem row_lt (h:row w b=some cs):b<w.heap.size:=by
 unfold row at h
 split at h
 ·rename_i hb
  rcases Nat.lt_or_ge b w.heap.size with hlt |hge
  ·exact hlt
  ·rw[Array.getElem?_eq_none hge] at hb;cases hb
 ·cases h
theorem mapAt_lt {x:List MapEntry×Nat} (h:mapAt w b=some x):b<w.heap.size:=by
 unfold mapAt at h
 split at h
 ·rename_i hb
  rcases Nat.lt_or_ge b w.heap.size with hlt |hge
  ·exact hlt
  ·rw[Array.getElem?_eq_none hge] at hb;cases hb
 ·cases h
theorem Mod.refl (S:List Nat) (w:World):Mod S w w:=⟨Nat.le_refl _,fun _ _ _=>rfl,rfl,rfl⟩
theorem Mod.trans (h:Mod S w w') (h':Mod T w' w'') (hT:∀b∈T,b∈S∨w.heap.size≤b):Mod S w w'':=
 ⟨Nat.le_trans h.size h'.size,fun b hb hS=>(h'.same b (Nat.lt_of_lt_of_le hb h.size) fun hb'=>by
  rcases hT b hb' with h1 |h1
  ·exact hS h1
  ·omega).trans (h.same b hb hS),h'.env.1.trans h.env.1,h'.env.2.trans h.env.2⟩
theorem Mod.mono (h:Mod S w w') (hS:∀b∈S,b∈T):Mod T w w':=⟨h.size,fun b hb hT=>h.same b hb fun hb'=>hT (hS b hb'),h.env⟩
theorem Mod.ext_trans (h:Mod S w w') (h':Ext w' w''):Mod S w w'':=h.trans h' (by simp)
theorem Mod.of_ext (h:Ext w w'):Mod S w w':=h.mono (by simp)
theorem Mod.row (h:Mod S w w') (hr:row w b=some cs) (hS:b∉S):Go.Cub.row w' b=some cs:=by
 have :=h.same b (row_lt hr) hS
 unfold Go.Cub.row at hr ⊢
 rw[this];exact hr
theorem Mod.mapAt (h:Mod S w w') {x:List MapEntry×Nat} (hr:mapAt w b=some x) (hS:b∉S):Go.Cub.mapAt w' b=some x:=by
 have :=h.same b (mapAt_lt hr) hS
 unfold Go.Cub.mapAt at hr ⊢
 rw[this];exact hr
theorem heap_alloc (o:Obj):(w.alloc o).heap=w.heap.push o:=rfl
@[simp] theorem drew_heap:w.drew.heap=w.heap:=rfl
@[simp] theorem row_drew:row w.drew b=row w b:=rfl
@[simp] theorem mapAt_drew:mapAt w.drew b=mapAt w b:=rfl
theorem Ext.drew:Ext w w.drew:=⟨Nat.le_refl _,fun _ _ _=>rfl,rfl,rfl⟩
theorem Ext.alloc (o:Obj):Ext w (w.alloc o):=by
 refine⟨by simp[heap_alloc],fun b hb _=>?_,rfl,rfl⟩
 simp[heap_alloc,Array.getElem?_push,Nat.ne_of_lt hb]
theorem row_alloc_new (c:Array Value) (e:TypeId):row (w.alloc (.cells c e)) w.heap.size=some c.toList:=by simp[row,heap_alloc]
theorem mapAt_alloc_new (es:Array MapEntry) (k:Nat):mapAt (w.alloc (.map es k)) w.heap.size=some (es.toList,k):=by simp[mapAt,heap_alloc]
theorem row_set_same (off:Nat) (v:Value) (h:row w b=some cs):row (w.setCell ⟨b,off,none⟩ v) b=some (cs.set off v):=by
 unfold row at h ⊢
 split at h
 ·rename_i c e hb
  simp only[Option.some.injEq] at h
  simp only[World.setCell,Array.getElem?_modify,if_true,hb,Option.map_some]
  simp[←h]
 ·cases h
theorem Mod.set (off:Nat) (v:Value):Mod [b] w (w.setCell ⟨b,off,none⟩ v):=by
 refine⟨by simp[World.setCell],fun b' _ hS=>?_,rfl,rfl⟩
 have hne:b≠b':=by simpa[eq_comm] using hS
 simp[World.setCell,Array.getElem?_modify,hne]
theorem cell_row (h:row w b=some cs) (off:Nat):w.cell? ⟨b,off,none⟩=cs[off]?:=by
 unfold row at h
 split at h
 ·rename_i c e hb
  simp only[Option.some.injEq] at h
  simp[World.cell?,hb, ←h]
 ·cases h
theorem frozen_row (h:row w b=some cs) (off:Nat):w.frozen? ⟨b,off,none⟩=false:=by
 unfold row at h
 split at h
 ·rename_i c e hb
  simp[World.frozen?,hb]
 ·cases h
theorem L1_of {off:Nat} {v:Value} {K:Value→Prop} (h:row w b=some cs) (hv:cs[off]?=some v) (hk:K v):L1 (.pointer (some ⟨b,off,none⟩)) w K:=by
 simp only[L1,cell_row h,hv];exact hk
theorem cellsAt_row (h:row w b=some cs):∀(n off i:Nat),off+i+n≤cs.length→w.cellsAt? ⟨b,off,none⟩ i n=some ((cs.drop (off+i)).take n)
 |0,off,i,_=>by simp[World.cellsAt?]
 |n+1,off,i,hn=>by
  have hadd:(Addr.add ⟨b,off,none⟩ i)=⟨b,off+i,none⟩:=by unfold Addr.add;by_cases e:i=0<;>simp[e]
  have hlt:off+i<cs.length:=by omega
  have ih:=cellsAt_row h n off (i+1) (by omega)
  simp only[World.cellsAt?,hadd,cell_row h,List.getElem?_eq_getElem hlt,ih,Option.map_some]
  rw[List.drop_eq_getElem_cons hlt,List.take_succ_cons]
  rfl
theorem LN_of {n off:Nat} {K:Value→Prop} (h:row w b=some cs) (hn:off+n≤cs.length) (hk:K (.agg ((cs.drop off).take n).toArray)):LN n (.pointer (some ⟨b,off,none⟩)) w K:=by
 simp only[LN,cellsAt_row h n off 0 (by omega)];exact hk
theorem S1_row {off:Nat} {v:Value} {K:World→Prop} (h:(row w b).isSome=true):S1 (.pointer (some ⟨b,off,none⟩)) v w K=(off<((row w b).getD []).length∧v.oneCell'=true∧K (w.setCell ⟨b,off,none⟩ v)):=by
 cases hr:row w b with
 |none=>rw[hr] at h;cases h
 |some cs=>
  simp only[S1,cell_row hr,frozen_row hr,Option.getD_some]
  by_cases hlt:off<cs.length
  ·simp[List.getElem?_eq_getElem hlt,hlt]
  ·simp[List.getElem?_eq_none (by omega :cs.length≤off),hlt]
theorem S1_of {off:Nat} {v:Value} {K:World→Prop} (h:row w b=some cs) (ho:off<cs.length) (hv:v.oneCell'=true) (hk:∀w',row w' b=some (cs.set off v)→Mod [b] w w'→w'.heap.size=w.heap.size→K w'):
  S1 (.pointer (some ⟨b,off,none⟩)) v w K:=by
 rw[S1_row (by rw[h];rfl),h]
 exact⟨ho,hv,hk _ (row_set_same off v h) (Mod.set off v) (by simp[World.setCell])⟩
def splice (cs:List Value) (off:Nat) (vs:List Value):List Value:=cs.take off++vs++cs.drop (off+vs.length)
theorem put_row:∀(vs:List Value) (w:World) (cs:List Value) (off i:Nat),row w b=some cs→off+i+vs.length≤cs.length→(∀v∈vs,v.oneCell'=true)→
  ∃w',w.put? ⟨b,off,none⟩ i vs=some w'∧row w' b=some (splice cs (off+i) vs)∧Mod [b] w w'∧w'.heap.size=w.heap.size
 |[],w,cs,off,i,h,_,_=>⟨w,rfl,by simpa[splice] using h,Mod.refl _ _,rfl⟩
 |v::vs,w,cs,off,i,h,hn,hv=>by
  have hadd:(Addr.add ⟨b,off,none⟩ i)=⟨b,off+i,none⟩:=by unfold Addr.add;by_cases e:i=0<;>simp[e]
  simp only[List.length_cons] at hn
  have hlt:off+i<cs.length:=by omega
  obtain⟨w',h1,h2,h3,h4⟩:=put_row vs (w.setCell ⟨b,off+i,none⟩ v) _ off (i+1) (row_set_same (off+i) v h) (by simp;omega) (fun x hx=>hv x (List.mem_cons_of_mem _ hx))
  refine⟨w',?_,?_,(Mod.set _ _).trans h3 (by simp),h4.trans (by simp[World.setCell])⟩
  ·simp only[World.put?,hadd,hv v (by simp),cell_row h,List.getElem?_eq_getElem hlt,frozen_row h]
   simpa using h1
  ·rw[h2]
   congr 1
   have e1:(cs.set (off+i) v).take (off+(i+1))=cs.take (off+i)++[v]:=by
    apply List.ext_getElem?
    intro j
    simp only[List.getElem?_take,List.getElem?_set,List.getElem?_append,List.length_take]
    rcases Nat.lt_trichotomy j (off+i) with hj |hj |hj
    ·simp[Nat.min_eq_left (Nat.le_of_lt hlt),hj,Nat.ne_of_gt hj,show j<off+(i+1) by omega]
    ·subst hj
     simp[Nat.min_eq_left (Nat.le_of_lt hlt),hlt,show off+i<off+(i+1) by omega]
    ·have :¬j<off+(i+1):=by omega
     have h3:¬j<off+i:=by omega
     have h4:j - (off+i)≠0:=by omega
     simp[Nat.min_eq_left (Nat.le_of_lt hlt),this,h3,h4]
   simp only[splice,List.length_cons,e1,List.drop_set]
   rw[if_pos (by omega)]
   simp only[List.append_assoc,List.cons_append,List.nil_append]
   rw[show off+(i+1)+vs.length=off+i+(vs.length+1) by omega]
theorem SN_of {n off:Nat} {v:Value} {K:World→Prop} (h:row w b=some cs) (hn:v.cells.size=n) (ho:off+n≤cs.length) (hv:∀x∈v.cells.toList,x.oneCell'=true)
  (hk:∀w',row w' b=some (splice cs off v.cells.toList)→Mod [b] w w'→w'.heap.size=w.heap.size→K w'):SN n (.pointer (some ⟨b,off,none⟩)) v w K:=by
 obtain⟨w',h1,h2,h3,h4⟩:=put_row v.cells.toList w cs off 0 h (by simp[hn];omega) hv
 refine⟨hn,?_⟩
 rw[h1]
 exact hk w' (by simpa using h2) h3 h4
theorem NEW_of {e:TypeId} {c:Array Value} {K:Value→World→Prop} (hk:∀b w',b=w.heap.size→row w' b=some c.toList→Ext w w'→w'.heap.size=w.heap.size+1→K (.pointer (some ⟨b,0,none⟩)) w'):NEW e c w K:=
 hk _ _ rfl (row_alloc_new c e) (Ext.alloc _) (by simp[heap_alloc])
end
end Go.Cub
namespace Go.Cub
open Go
def Sl (w:World) (v:Value) (size n:Nat) (cells:List Value) (F:List Nat):Prop:=
 cells.length=n * size∧((v=.slice none 0 0∧n=0∧F=[])∨∃b off cap cs,v=.slice (some ⟨b,off,none⟩) n cap∧F=[b]∧row w b=some cs∧off+cap * size≤cs.length∧n≤cap∧
  cells=(cs.drop off).take (n * size))
section
variable {w w':World} {v x:Value} {size n:Nat} {cells:List Value} {F S:List Nat}
theorem Sl.nil (w:World) (size:Nat):Sl w (.slice none 0 0) size 0 [] []:=⟨by simp,.inl ⟨rfl,rfl,rfl⟩⟩
theorem Sl.length (h:Sl w v size n cells F):cells.length=n * size:=h.1
theorem Sl.keep (h:Sl w v size n cells F) (hm:Mod S w w') (hd:∀b∈F,b∉S):Sl w' v size n cells F:=by
 refine⟨h.1,?_⟩
 rcases h.2 with h |⟨b,off,cap,cs,h1,h2,h3,h4,h5,h6⟩
 ·exact .inl h
 ·exact .inr ⟨b,off,cap,cs,h1,h2,hm.row h3 (hd b (by simp[h2])),h4,h5,h6⟩
theorem Sl.ext (h:Sl w v size n cells F) (hm:Ext w w'):Sl w' v size n cells F:=h.keep hm (by simp)
theorem Sl.lt (h:Sl w v size n cells F):∀b∈F,b<w.heap.size:=by
 intro b hb
 rcases h.2 with ⟨_,_,h⟩ |⟨b',off,cap,cs,h1,h2,h3,h4⟩
 ·rw[h] at hb;simp at hb
 ·rw[h2] at hb
  simp only[List.mem_singleton] at hb;subst hb
  exact row_lt h3
theorem Sl.len (h:Sl w v size n cells F):lenS v=some (.int .i64 n):=by
 rcases h.2 with ⟨rfl,rfl,_⟩ |⟨b,off,cap,cs,rfl,_⟩<;>rfl
theorem Sl.srcLen (h:Sl w v size n cells F):srcLen v=some n:=by
 rcases h.2 with ⟨rfl,rfl,_⟩ |⟨b,off,cap,cs,rfl,_⟩<;>rfl
theorem Sl.src (h:Sl w v size n cells F):srcCells size n v w=some cells:=by
 rcases h.2 with ⟨rfl,rfl,_⟩ |⟨b,off,cap,cs,rfl,h2,h3,h4,h5,h6⟩
 ·have :=h.1
  simp only[Nat.zero_mul,List.length_eq_zero_iff] at this
  simp[srcCells,this]
 ·have hle:n * size≤cap * size:=Nat.mul_le_mul_right _ h5
  simp only[srcCells]
  rw[cellsAt_row h3 (n * size) off 0 (by omega)]
  simp[h6]
theorem Sl.srcTake (h:Sl w v size n cells F) {m:Nat} (hm:m≤n):srcCells size m v w=some (cells.take (m * size)):=by
 rcases h.2 with ⟨rfl,rfl,_⟩ |⟨b,off,cap,cs,rfl,h2,h3,h4,h5,h6⟩
 ·have :=h.1
  simp only[Nat.zero_mul,List.length_eq_zero_iff] at this
  have :m=0:=by omega
  subst this
  simp[srcCells]
 ·have hle:n * size≤cap * size:=Nat.mul_le_mul_right _ h5
  have hle':m * size≤n * size:=Nat.mul_le_mul_right _ hm
  simp only[srcCells]
  rw[cellsAt_row h3 (m * size) off 0 (by omega)]
  simp[h6,List.take_take,Nat.min_eq_left hle']
theorem Sl.idx (h:Sl w v size n cells F) {k:IntKind} {i:Nat} (hi:i<n):∃b o cs,idxS size v (.int k i)=some (.pointer (some ⟨b,o,none⟩))∧F=[b]∧row w b=some cs∧o+size≤cs.length∧
  (∀j,j<size→cs[o+j]?=cells[i * size+j]?)∧∀(vs:List Value) (q:Nat),q+vs.length≤size→∀w',row w' b=some (splice cs (o+q) vs)→Sl w' v size n (splice cells (i * size+q) vs) F:=by
 rcases h.2 with ⟨rfl,rfl,_⟩ |⟨b,off,cap,cs,rfl,h2,h3,h4,h5,h6⟩
 ·omega
 ·have hle:n * size≤cap * size:=Nat.mul_le_mul_right _ h5
  have hi':(i+1) * size≤n * size:=Nat.mul_le_mul_right _ hi
  rw[Nat.add_one_mul] at hi'
  have hadd:(Addr.add ⟨b,off,none⟩ (i * size))=⟨b,off+i * size,none⟩:=by unfold Addr.add;by_cases e:i * size=0<;>simp[e]
  refine⟨b,off+i * size,cs,?_,h2,h3,by omega,?_,?_⟩
  ·simp only[idxS,Int.toNat_natCast,hadd]
   rw[if_pos ⟨by omega,by omega⟩]
  ·intro j hj
   rw[h6,List.getElem?_take,List.getElem?_drop,if_pos (by omega)]
   congr 1;omega
  ·intro vs q hq w' hw'
   have hl:(splice cells (i * size+q) vs).length=n * size:=by
    have :=h.1
    simp only[splice,List.length_append,List.length_take,List.length_drop]
    omega
   refine⟨hl,.inr ⟨b,off,cap,_,rfl,h2,hw',?_,h5,?_⟩⟩
   ·simp only[splice,List.length_append,List.length_take,List.length_drop];omega
   ·apply List.ext_getElem?
    intro j
    simp only[splice,h6,List.getElem?_take,List.getElem?_drop,List.getElem?_append,List.length_append,List.length_take,List.length_drop]
    (repeat' split)<;>(try omega)<;>(try (congr 1;omega))<;>(try rfl)
    all_goals first |(symm;apply List.getElem?_eq_none;omega) |(apply List.getElem?_eq_none;omega) |skip
theorem zeros_length (z:List Value) (n:Nat):(zeros z n).length=n * z.length:=by
 simp[zeros,List.length_flatten]
theorem APP_of {elem bytes:Nat} {z s:Value} {m:Nat} {old new:List Value} {K:Value→World→Prop} (hs:Sl w s size m old F) (hl:srcLen x=some n) (hc:srcCells size n x w=some new) (hn:new.length=n * size)
  (ho:∀v∈new,v.oneCell'=true) (hb:0<bytes∧bytes≤1024) (hz:z.cells.size=size) (hmn:m+n≤68719476736)
  (hk:∀s' w' F',Sl w' s' size (m+n) (old++new) F'→Mod F w w'→(∀b∈F',b∈F∨w.heap.size≤b)→K s' w'):APP elem size bytes z s x w K:=by
 obtain⟨hlen,hs'⟩:=hs
 have fresh:∀cap,m+n≤cap→K (.slice (some ⟨w.heap.size,0,none⟩) (m+n) cap) (w.drew.alloc (.cells (old++new++zeros z.cells.toList (cap - (m+n))).toArray elem)):=by
  intro cap hcap
  have hzl:z.cells.toList.length=size:=by simpa using hz
  refine hk _ _ [w.heap.size] ⟨by simp[hlen,hn,Nat.add_mul],.inr ⟨w.heap.size,0,cap,_,rfl,rfl,row_alloc_new (w:=w.drew) _ _,?_,hcap,?_⟩⟩ ((Mod.of_ext Ext.drew).ext_trans (Ext.alloc _)) (by simp)
  ·have :(cap - (m+n)) * size+(m+n) * size=cap * size:=by rw[←Nat.add_mul];congr 1;omega
   have h2:(m+n) * size=m * size+n * size:=Nat.add_mul _ _ _
   simp only[List.length_append,zeros_length,hzl,hlen,hn]
   omega
  ·have h2:(m+n) * size=(old++new).length:=by simp[hlen,hn,Nat.add_mul]
   rw[h2,List.drop_zero,List.take_left' rfl]
 rcases hs' with ⟨rfl,rfl,rfl⟩ |⟨b,off,cap,cs,rfl,rfl,h3,h4,h5,h6⟩
 ·have hnil:old=[]:=by simpa using hlen
  subst hnil
  simp only[APP,hl,hc,Nat.zero_add]
  by_cases h0:n=0
  ·subst h0
   have :new=[]:=by simpa using hn
   subst this
   simp only[Nat.le_refl,if_true]
   exact hk _ _ [] (Sl.nil w size) (Mod.refl _ _) (by simp)
  ·rw[if_neg (by omega)]
   refine⟨by omega,hb.1,hb.2,?_⟩
   simp only[srcCells,if_true]
   intro cap hcap
   simpa using fresh cap (by omega)
 ·simp only[APP,hl,hc]
  have hle:m * size≤cap * size:=Nat.mul_le_mul_right _ h5
  by_cases hroom:m+n≤cap
  ·rw[if_pos hroom]
   have h2:(m+n) * size=m * size+n * size:=Nat.add_mul _ _ _
   have h2':(m+n) * size≤cap * size:=Nat.mul_le_mul_right _ hroom
   have hadd:(Addr.add ⟨b,off,none⟩ (m * size))=⟨b,off+m * size,none⟩:=by unfold Addr.add;by_cases e:m * size=0<;>simp[e]
   obtain⟨w',e1,e2,e3,e4⟩:=put_row new w cs (off+m * size) 0 h3 (by omega) ho
   rw[hadd,e1]
   refine hk _ _ [b] ⟨by simp[hlen,hn,h2],.inr ⟨b,off,cap,_,rfl,rfl,e2,?_,hroom,?_⟩⟩ e3 (by simp)
   ·simp only[splice,List.length_append,List.length_take,List.length_drop];omega
   ·rw[h6]
    simp only[splice,Nat.add_zero]
    have e5:(cs.take (off+m * size)++new++cs.drop (off+m * size+new.length)).drop off=(cs.drop off).take (m * size)++(new++cs.drop (off+m * size+new.length)):=by
     rw[List.append_assoc,List.drop_append_of_le_length (by simp;omega)]
     congr 1
     rw[List.drop_take]
     congr 1;omega
    have e6:((cs.drop off).take (m * size)).length=m * size:=by simp;omega
    rw[e5, ←List.append_assoc,List.take_left' (by simp only[List.length_append,e6];omega)]
  ·rw[if_neg hroom]
   refine⟨hmn,hb.1,hb.2,?_⟩
   have hold:srcCells size m (.slice (some ⟨b,off,none⟩) m cap) w=some old:=Sl.src (F:=[b]) ⟨hlen,.inr ⟨b,off,cap,cs,rfl,rfl,h3,h4,h5,h6⟩⟩
   rw[hold]
   exact fresh
theorem PV_of {o:Option Value} {K:Value→Prop} {v:Value} (h:o=some v) (hk:K v):PV o K:=by rw[h];exact hk
theorem NEWS_of {e:TypeId} {n:Nat} {o:Option (Array Value)} {cs:Array Value} {K:Value→World→Prop} (size:Nat) (ho:o=some cs) (hs:cs.size=n * size)
  (hk:∀v w' F',Sl w' v size n cs.toList F'→Ext w w'→(∀b∈F',w.heap.size≤b)→K v w'):NEWS e n o w K:=by
 subst ho
 refine hk _ _ [w.heap.size] ⟨by simpa using hs,.inr ⟨_,0,n,_,rfl,rfl,row_alloc_new _ _,by simp[hs],Nat.le_refl _,?_⟩⟩ (Ext.alloc _) (by simp)
 rw[List.drop_zero,List.take_of_length_le (by simp[hs])]
theorem MKS_of {e bytes n c:Nat} {z:Value} {k k':IntKind} {K:Value→World→Prop} (size:Nat) (hz:z.cells.size=size) (hn:n≤c) (hc:c≤1099511627776) (hb:bytes≤256)
  (hk:∀v w' F',Sl w' v size n (zeros z.cells.toList n) F'→Ext w w'→(∀b∈F',w.heap.size≤b)→K v w'):MKS e bytes z (.int k n) (.int k' c) w K:=by
 refine⟨by omega,by omega,by omega,hb,?_⟩
 simp only[Int.toNat_natCast]
 have hzl:z.cells.toList.length=size:=by simpa using hz
 refine hk _ _ [w.heap.size] ⟨by simp[zeros_length,hzl],.inr ⟨_,0,c,_,rfl,rfl,row_alloc_new _ _,by simp[zeros_length,hzl],hn,?_⟩⟩ (Ext.alloc _) (by simp)
 have :zeros z.cells.toList c=zeros z.cells.toList n++zeros z.cells.toList (c - n):=by
  unfold zeros
  rw[←List.flatten_append,List.replicate_append_replicate,show n+(c - n)=c by omega]
 simp only[List.drop_zero,this]
 rw[List.take_left' (by simp[zeros_length,hzl])]
theorem Sl.slc (h:Sl w v size n cells F) {k k':IntKind} {i j:Nat} (hij:i≤j) (hj:j≤n):∃v',slc size v (some (.int k i)) (some (.int k' j)) none=some v'∧Sl w v' size (j - i) ((cells.drop (i * size)).take ((j - i) * size)) F:=by
 rcases h.2 with ⟨rfl,rfl,rfl⟩ |⟨b,off,cap,cs,rfl,h2,h3,h4,h5,h6⟩
 ·have h1:i=0:=by omega
  have h2:j=0:=by omega
  subst h1;subst h2
  refine⟨.slice none 0 0,by simp[Go.Cub.slc,natOf,slcV],?_⟩
  have :=Sl.nil w size
  simpa using this
 ·have hle:n * size≤cap * size:=Nat.mul_le_mul_right _ h5
  have hadd:(Addr.add ⟨b,off,none⟩ (i * size))=⟨b,off+i * size,none⟩:=by unfold Addr.add;by_cases e:i * size=0<;>simp[e]
  have hji:(j - i) * size+i * size=j * size:=by rw[←Nat.add_mul];congr 1;omega
  have hci:(cap - i) * size+i * size=cap * size:=by rw[←Nat.add_mul];congr 1;omega
  have hjn:j * size≤n * size:=Nat.mul_le_mul_right _ hj
  have hlen:=h.1
  have hdt:(cells.drop (i * size)).take ((j - i) * size)=(cs.drop (off+i * size)).take ((j - i) * size):=by
   rw[h6,List.drop_take,List.drop_drop,List.take_take]
   congr 1;omega
  by_cases hci':cap=i
  ·have hji':j=i:=by omega
   subst hci';subst hji'
   refine⟨.slice (some ⟨b,off,none⟩) 0 0,?_,by simp,.inr ⟨b,off,0,cs,by simp,h2,h3,by omega,by omega,by simp⟩⟩
   simp[Go.Cub.slc,natOf,slcV,h5]
  ·refine⟨.slice (some ⟨b,off+i * size,none⟩) (j - i) (cap - i),?_,?_,.inr ⟨b,off+i * size,cap - i,cs,rfl,h2,h3,by omega,by omega,hdt⟩⟩
   ·have e1:j≤cap:=by omega
    simp[Go.Cub.slc,natOf,slcV,hadd,hij,e1,hci']
   ·rw[List.length_take,List.length_drop,hlen];omega
theorem Sl.slc_to (h:Sl w v size n cells F) {k':IntKind} {j:Nat} (hj:j≤n):∃v',Go.Cub.slc size v none (some (.int k' j)) none=some v'∧Sl w v' size j (cells.take (j * size)) F:=by
 obtain⟨v',h1,h2⟩:=h.slc (k:=.i64) (k':=k') (Nat.zero_le j) hj
 refine⟨v',?_,by simpa using h2⟩
 rw[←h1]
 rcases h.2 with ⟨rfl,rfl,rfl⟩ |⟨b,off,cap,cs,rfl,_⟩<;>simp[Go.Cub.slc,natOf,slcV]
theorem Sl.slc_from (h:Sl w v size n cells F) {k:IntKind} {i:Nat} (hi:i≤n):∃v',Go.Cub.slc size v (some (.int k i)) none none=some v'∧Sl w v' size (n - i) (cells.drop (i * size)) F:=by
 obtain⟨v',h1,h2⟩:=h.slc (k:=k) (k':=.i64) hi (Nat.le_refl n)
 refine⟨v',?_,?_⟩
 ·rw[←h1]
  rcases h.2 with ⟨rfl,rfl,rfl⟩ |⟨b,off,cap,cs,rfl,_⟩<;>simp[Go.Cub.slc,natOf,slcV]
 ·rwa[List.take_of_length_le] at h2
  have :=h.1
  have h3:(n - i) * size+i * size=n * size:=by rw[←Nat.add_mul];congr 1;omega
  rw[List.length_drop];omega
theorem Sl.loadN (h:Sl w v size n cells F) {k:IntKind} {i:Nat} (hi:i<n) {K:Value→Prop} (hk:K (.agg ((cells.drop (i * size)).take size).toArray)):PV (idxS size v (.int k i)) fun t=>LN size t w K:=by
 obtain⟨b,o,cs,h1,hF,hr,ho,hread,_⟩:=h.idx (k:=k) hi
 rw[h1]
 refine LN_of hr ho ?_
 have :(cs.drop o).take size=(cells.drop (i * size)).take size:=by
  apply List.ext_getElem?
  intro j
  simp only[List.getElem?_take,List.getElem?_drop]
  split
  ·rename_i hj;exact hread j hj
  ·rfl
 rw[this];exact hk
theorem splice_one {cs:List Value} {off:Nat} {x:Value} (h:off<cs.length):splice cs off [x]=cs.set off x:=by
 rw[List.set_eq_take_append_cons_drop,if_pos h]
 simp[splice]
end
end Go.Cub
