/-
  Part 8 of the proof that TopNested returns true and leaves what it was given as it was. CONDITIONS: those of the given row and card.
-/
import Derived.Test.YtpelalpajdpkgaaGreatDoorZ06
set_option linter.all false
namespace Go.Cub
open Go
def u8V (b:UInt8):Value:=.int .u8 b.toNat
def rowR (w:World) (b:Nat):Option (List Value):=match w.heap[b]? with
 |some (.cells c _ _)=>some c.toList
 |_=>none
def Bs (w:World) (v:Value) (bs:List UInt8) (F:List Nat):Prop:=((∃a c,v=.slice a 0 c∧(a=none→c=0))∧bs=[]∧F=[])∨
 ∃b off cap cs,v=.slice (some ⟨b,off,none⟩) bs.length cap∧F=[b]∧rowR w b=some cs∧off+bs.length≤cs.length∧bs.length≤cap∧bs.map u8V=(cs.drop off).take bs.length
section
variable {w w':World} {v x:Value} {bs cs:List UInt8} {F S:List Nat}
theorem rowR_get {w w':World} {b:Nat} (e:w'.heap[b]?=w.heap[b]?):rowR w' b=rowR w b:=by simp only[rowR,e]
theorem rowR_lt {b:Nat} {cs:List Value} (h:rowR w b=some cs):b<w.heap.size:=by
 unfold rowR at h
 split at h
 ·rename_i hb
  rcases Nat.lt_or_ge b w.heap.size with hlt |hge
  ·exact hlt
  ·rw[Array.getElem?_eq_none hge] at hb;cases hb
 ·cases h
theorem rowR_of {b:Nat} {cs:List Value} (h:row w b=some cs):rowR w b=some cs:=by
 unfold row at h
 unfold rowR
 split at h
 ·rename_i hb
  rw[hb];exact h
 ·cases h
theorem cell_rowR {b:Nat} {cs:List Value} (h:rowR w b=some cs) (off:Nat):w.cell? ⟨b,off,none⟩=cs[off]?:=by
 unfold rowR at h
 split at h
 ·rename_i c e fr hb
  simp only[Option.some.injEq] at h
  simp[World.cell?,hb, ←h]
 ·cases h
theorem cellsAt_rowR {b:Nat} {cs:List Value} (h:rowR w b=some cs):∀(n off i:Nat),off+i+n≤cs.length→w.cellsAt? ⟨b,off,none⟩ i n=some ((cs.drop (off+i)).take n)
 |0,off,i,_=>by simp[World.cellsAt?]
 |n+1,off,i,hn=>by
  have hadd:(Addr.add ⟨b,off,none⟩ i)=⟨b,off+i,none⟩:=by unfold Addr.add;by_cases e:i=0<;>simp[e]
  have hlt:off+i<cs.length:=by omega
  have ih:=cellsAt_rowR h n off (i+1) (by omega)
  simp only[World.cellsAt?,hadd,cell_rowR h,List.getElem?_eq_getElem hlt,ih,Option.map_some]
  rw[List.drop_eq_getElem_cons hlt,List.take_succ_cons]
  rfl
theorem Bs.keepG (h:Bs w v bs F) (hk:∀b∈F,w'.heap[b]?=w.heap[b]?):Bs w' v bs F:=by
 rcases h with h |⟨b,off,cap,cs,h1,h2,h3,h4⟩
 ·exact .inl h
 ·exact .inr ⟨b,off,cap,cs,h1,h2,by rw[rowR_get (hk b (by simp[h2]))];exact h3,h4⟩
theorem Bs.lt (h:Bs w v bs F):∀b∈F,b<w.heap.size:=by
 intro b hb
 rcases h with ⟨_,_,h⟩ |⟨b',off,cap,cs,h1,h2,h3,h4⟩
 ·rw[h] at hb;simp at hb
 ·rw[h2] at hb
  simp only[List.mem_singleton] at hb;subst hb
  exact rowR_lt h3
theorem Bs.keep (h:Bs w v bs F) (hm:Mod S w w') (hd:∀b∈F,b∉S):Bs w' v bs F:=h.keepG fun b hb=>hm.same b (h.lt b hb) (hd b hb)
theorem Bs.ext (h:Bs w v bs F) (hm:Ext w w'):Bs w' v bs F:=h.keep hm (by simp)
theorem Bs.len (h:Bs w v bs F):lenS v=some (.int .i64 bs.length):=by
 rcases h with ⟨⟨a,c,rfl,_⟩,rfl,_⟩ |⟨b,off,cap,cs,rfl,_⟩<;>rfl
theorem Bs.srcLen (h:Bs w v bs F):srcLen v=some bs.length:=by
 rcases h with ⟨⟨a,c,rfl,_⟩,rfl,_⟩ |⟨b,off,cap,cs,rfl,_⟩<;>rfl
theorem Bs.srcTake (h:Bs w v bs F) {m:Nat} (hm:m≤bs.length):srcCells 1 m v w=some ((bs.map u8V).take m):=by
 rcases h with ⟨⟨a,c,rfl,_⟩,rfl,_⟩ |⟨b,off,cap,cs,rfl,h2,h3,h4,h5,h6⟩
 ·have :m=0:=by simpa using hm
  subst this
  cases a<;>simp[srcCells,World.cellsAt?]
 ·simp only[srcCells,Nat.mul_one]
  rw[cellsAt_rowR h3 m off 0 (by omega)]
  simp[h6,List.take_take,Nat.min_eq_left hm]
theorem Bs.src (h:Bs w v bs F):srcCells 1 bs.length v w=some (bs.map u8V):=by
 rw[h.srcTake (Nat.le_refl _),List.take_of_length_le (by simp)]
theorem Bs.nil (w:World):Bs w (.slice none 0 0) [] []:=.inl ⟨⟨none,0,rfl,fun _=>rfl⟩,rfl,rfl⟩
theorem Bs.of_sl (h:Sl w v 1 bs.length (bs.map u8V) F):Bs w v bs F:=by
 rcases h.2 with ⟨h1,h2,h3⟩ |⟨b,off,cap,cs,h1,h2,h3,h4,h5,h6⟩
 ·exact .inl ⟨⟨none,0,h1,fun _=>rfl⟩,by simpa using h2,h3⟩
 ·exact .inr ⟨b,off,cap,cs,h1,h2,rowR_of h3,by omega,h5,by simpa using h6⟩
theorem Bs.slc_from (h:Bs w v bs F) {k:IntKind} {i:Nat} (hi:i≤bs.length):∃v',Go.Cub.slc 1 v (some (.int k i)) none none=some v'∧Bs w v' (bs.drop i) F:=by
 rcases h with ⟨⟨a,c,rfl,hac⟩,rfl,rfl⟩ |⟨b,off,cap,cs,rfl,h2,h3,h4,h5,h6⟩
 ·have h0:i=0:=by simpa using hi
  subst h0
  refine⟨.slice (if c=0 then a else a.map (·.add 0)) 0 c,by simp[Go.Cub.slc,natOf,slcV],.inl ⟨⟨_,c,rfl,fun h=>?_⟩,rfl,rfl⟩⟩
  cases a with
  |none=>exact hac rfl
  |some a=>split at h<;>first |assumption |cases h
 ·have hadd:(Addr.add ⟨b,off,none⟩ i)=⟨b,off+i,none⟩:=by unfold Addr.add;by_cases e:i=0<;>simp[e]
  have hd:(bs.drop i).map u8V=(cs.drop (off+i)).take (bs.drop i).length:=by
   rw[List.map_drop,h6,List.drop_take,List.drop_drop,List.length_drop]
  by_cases hci:cap=i
  ·refine⟨.slice (some ⟨b,off,none⟩) (bs.length - i) (cap - i),by simp[Go.Cub.slc,natOf,slcV,hci];omega,?_⟩
   have h0:bs.drop i=[]:=List.drop_eq_nil_of_le (by omega)
   rw[h0]
   exact .inr ⟨b,off,cap - i,cs,by simp;omega,h2,h3,by simp;omega,by simp,by simp⟩
  ·refine⟨.slice (some ⟨b,off+i,none⟩) (bs.length - i) (cap - i),by simp[Go.Cub.slc,natOf,slcV,hadd,hci,hi,h5],?_⟩
   exact .inr ⟨b,off+i,cap - i,cs,by rw[List.length_drop],h2,h3,by rw[List.length_drop];omega,by rw[List.length_drop];omega,hd⟩
theorem bytesOf_map:∀bs:List UInt8,bytesOf (bs.map u8V)=some bs
 |[]=>rfl
 |b::bs=>by
  simp only[List.map_cons,u8V,bytesOf]
  rw[bytesOf_map bs]
  simp
theorem Bs.bts (h:Bs w v bs F) {K:Value→Prop} (hk:K (.string ⟨bs.toArray⟩)):BTS v w K:=by
 rcases h with ⟨⟨a,c,rfl,_⟩,rfl,_⟩ |⟨b,off,cap,cs,rfl,h2,h3,h4,h5,h6⟩
 ·cases a with
  |none=>exact hk
  |some a=>simpa[BTS,World.cellsAt?,bytesOf] using hk
 ·simp only[BTS]
  rw[cellsAt_rowR h3 bs.length off 0 (by omega)]
  have :(cs.drop (off+0)).take bs.length=bs.map u8V:=by simpa using h6.symm
  rw[this]
  simp only[Option.bind_some,bytesOf_map]
  exact hk
theorem oneCell_u8 (bs:List UInt8):∀v∈bs.map u8V,v.oneCell'=true:=by
 intro v hv
 obtain⟨b,_,rfl⟩:=List.mem_map.1 hv
 rfl
end
section
variable {w w':World} {r clock:Nat} {es:List MapEntry} {S:List Nat}
theorem ents_of (h:mapAt w r=some (es,clock)):ents (.map (some r)) w=some es:=by
 unfold mapAt at h
 split at h
 ·rename_i e k hb
  simp only[Option.some.injEq,Prod.mk.injEq] at h
  simp[ents,hb,h.1]
 ·cases h
theorem mapAt_heap (h:mapAt w r=some (es,clock)):w.heap[r]?=some (.map es.toArray clock):=by
 unfold mapAt at h
 split at h
 ·rename_i e k hb
  simp only[Option.some.injEq,Prod.mk.injEq] at h
  rw[hb, ←h.1, ←h.2]
 ·cases h
theorem Mod.put (o:Obj):Mod [r] w (w.putObj' r o):=by
 refine⟨by simp[World.putObj'],fun b _ hS=>?_,rfl,rfl⟩
 have hne:r≠b:=by simpa[eq_comm] using hS
 simp[World.putObj',hne]
theorem putObj_size (o:Obj):(w.putObj' r o).heap.size=w.heap.size:=by simp[World.putObj']
theorem mapAt_put (h:r<w.heap.size) (es:Array MapEntry) (clock:Nat):mapAt (w.putObj' r (.map es clock)) r=some (es.toList,clock):=by
 simp[mapAt,World.putObj',h]
end
def keyI (k:IntKind) (n:Nat):Value:=.int k n
def MapI (w:World) (r:Nat) (k:IntKind) (ps:List (Nat×Value)):Prop:=∃es clock,mapAt w r=some (es,clock)∧(es.map fun e=>(e.key,e.val))=(ps.map fun p=>(keyI k p.1,p.2))∧(ps.map (·.1)).Nodup∧(∀e∈es,e.born<clock)∧(es.map (·.born)).Nodup
def lookP (ps:List (Nat×Value)) (n:Nat):Option Value:=match ps with
 |[]=>none
 |p::ps=>if p.1=n then some p.2 else lookP ps n
section
variable {w w':World} {r:Nat} {k:IntKind} {ps:List (Nat×Value)} {S:List Nat}
theorem MapI.keep (h:MapI w r k ps) (hm:Mod S w w') (hd:r∉S):MapI w' r k ps:=by
 obtain⟨es,clock,h1,h2⟩:=h
 exact⟨es,clock,hm.mapAt h1 hd,h2⟩
theorem MapI.lt (h:MapI w r k ps):r<w.heap.size:=by
 obtain⟨es,clock,h1,h2⟩:=h
 exact mapAt_lt h1
theorem findE_pairs (n:Nat):∀(es:List MapEntry) (ps:List (Nat×Value)) (i:Nat),(es.map fun e=>(e.key,e.val))=(ps.map fun p=>(keyI k p.1,p.2))→
  ∃x,findE (keyI k n) es i=some x∧x.map (·.2)=lookP ps n∧∀j v,x=some (j,v)→i≤j∧(ps[j - i]?).map (·.1)=some n
 |[],[],i,h=>⟨none,rfl,rfl,by simp⟩
 |[],p::ps,i,h=>by simp at h
 |e::es,[],i,h=>by simp at h
 |e::es,p::ps,i,h=>by
  simp only[List.map_cons,List.cons.injEq,Prod.mk.injEq] at h
  obtain⟨⟨hk,hv⟩,ht⟩:=h
  obtain⟨x,h1,h2,h3⟩:=findE_pairs n es ps (i+1) ht
  simp only[findE,hk,keyI,eqV,if_true]
  by_cases hn:p.1=n
  ·subst hn
   refine⟨some (i,e.val),by simp,by simp[lookP,hv],?_⟩
   intro j v hjv
   simp only[Option.some.injEq,Prod.mk.injEq] at hjv
   obtain⟨rfl,rfl⟩:=hjv
   simp
  ·have hd:decide ((n:Int)=(p.1:Int))=false:=by simp;omega
   refine⟨x,by simp only[hd];exact h1,by simp[lookP,hn,h2],?_⟩
   intro j v hjv
   obtain⟨h4,h5⟩:=h3 j v hjv
   refine⟨by omega,?_⟩
   rw[show j - i=(j - (i+1))+1 by omega]
   simpa using h5
theorem MapI.look (h:MapI w r k ps) {n:Nat} {z:Value} {K:Value→Prop} (hk:K (.tuple #[(lookP ps n).getD z,.bool (lookP ps n).isSome])):LK (.int k) true z (.map (some r)) (.int k n) w K:=by
 obtain⟨es,clock,h1,h2,_⟩:=h
 obtain⟨x,h3,h4,_⟩:=findE_pairs (k:=k) n es ps 0 h2
 refine⟨by simp[keyV],?_⟩
 simp only[ents_of h1,show Value.int k (n:Int)=keyI k n from rfl,h3]
 cases x with
 |none=>simp only[Option.map_none] at h4;rw[←h4] at hk;exact hk
 |some jv=>simp only[Option.map_some] at h4;rw[←h4] at hk;exact hk
theorem MapI.look' (h:MapI w r k ps) {n:Nat} {z:Value} {K:Value→Prop} (hk:K ((lookP ps n).getD z)):LK (.int k) false z (.map (some r)) (.int k n) w K:=by
 obtain⟨es,clock,h1,h2,_⟩:=h
 obtain⟨x,h3,h4,_⟩:=findE_pairs (k:=k) n es ps 0 h2
 refine⟨by simp[keyV],?_⟩
 simp only[ents_of h1,show Value.int k (n:Int)=keyI k n from rfl,h3]
 cases x with
 |none=>simp only[Option.map_none] at h4;rw[←h4] at hk;exact hk
 |some jv=>simp only[Option.map_some] at h4;rw[←h4] at hk;exact hk
def setP (ps:List (Nat×Value)) (n:Nat) (v:Value):List (Nat×Value):=match ps with
 |[]=>[(n,v)]
 |p::ps=>if p.1=n then(n,v)::ps else p::setP ps n v
def delP (ps:List (Nat×Value)) (n:Nat):List (Nat×Value):=match ps with
 |[]=>[]
 |p::ps=>if p.1=n then ps else p::delP ps n
theorem lookP_setP (ps:List (Nat×Value)) (n m:Nat) (v:Value):lookP (setP ps n v) m=if m=n then some v else lookP ps m:=by
 induction ps with
 |nil=>simp only[setP,lookP];by_cases h:n=m<;>simp[h,eq_comm]
 |cons p ps ih=>
  simp only[setP]
  by_cases h:p.1=n
  ·rw[if_pos h]
   simp only[lookP]
   by_cases h2:m=n
   ·simp[h2]
   ·simp[h2,Ne.symm h2,h]
  ·rw[if_neg h]
   simp only[lookP,ih]
   by_cases h2:p.1=m
   ·simp only[h2,if_true];rw[if_neg (by omega)]
   ·simp[h2]
theorem lookP_none {ps:List (Nat×Value)} {n:Nat}:lookP ps n=none↔n∉ps.map (·.1):=by
 induction ps with
 |nil=>simp[lookP]
 |cons p ps ih=>
  simp only[lookP,List.map_cons,List.mem_cons,not_or]
  by_cases h:p.1=n
  ·simp[h]
  ·simp[h,ih,Ne.symm h]
theorem lookP_delP (ps:List (Nat×Value)) (n m:Nat) (hd:(ps.map (·.1)).Nodup):lookP (delP ps n) m=if m=n then none else lookP ps m:=by
 induction ps with
 |nil=>simp[delP,lookP]
 |cons p ps ih=>
  simp only[List.map_cons,List.nodup_cons] at hd
  simp only[delP]
  by_cases h:p.1=n
  ·rw[if_pos h]
   simp only[lookP]
   by_cases h2:m=n
   ·subst h2;simp only[if_true];rw[lookP_none, ←h];exact hd.1
   ·rw[if_neg h2,if_neg (by omega)]
  ·rw[if_neg h]
   simp only[lookP,ih hd.2]
   by_cases h2:p.1=m
   ·simp only[h2,if_true];rw[if_neg (by omega)]
   ·simp[h2]
theorem setP_keys (ps:List (Nat×Value)) (n:Nat) (v:Value):∀m,m∈(setP ps n v).map (·.1)↔m=n∨m∈ps.map (·.1):=by
 intro m
 have h1:=lookP_setP ps n m v
 have h2:=lookP_none (ps:=setP ps n v) (n:=m)
 have h3:=lookP_none (ps:=ps) (n:=m)
 by_cases h:m=n
 ·simp only[h,if_true] at h1 h2 ⊢
  rw[h1] at h2
  simp only[reduceCtorEq,false_iff,Decidable.not_not] at h2
  simp[h2]
 ·rw[if_neg h] at h1
  rw[h1] at h2
  simp only[h,false_or]
  exact Decidable.not_iff_not.1 (h2.symm.trans h3)
theorem setP_nodup (ps:List (Nat×Value)) (n:Nat) (v:Value) (hd:(ps.map (·.1)).Nodup):((setP ps n v).map (·.1)).Nodup:=by
 induction ps with
 |nil=>simp[setP]
 |cons p ps ih=>
  simp only[List.map_cons,List.nodup_cons] at hd
  simp only[setP]
  by_cases h:p.1=n
  ·rw[if_pos h];simpa[←h] using hd
  ·rw[if_neg h]
   simp only[List.map_cons,List.nodup_cons]
   refine⟨?_,ih hd.2⟩
   rw[setP_keys]
   rintro(h1 |h1)
   ·exact h h1
   ·exact hd.1 h1
theorem delP_sub (ps:List (Nat×Value)) (n:Nat):(delP ps n).Sublist ps:=by
 induction ps with
 |nil=>exact .slnil
 |cons p ps ih=>
  simp only[delP]
  split
  ·exact .cons _ (List.Sublist.refl _)
  ·exact ih.cons_cons _
theorem MU_es (n:Nat) (v:Value):∀(es:List MapEntry) (ps:List (Nat×Value)) (i:Nat),(es.map fun e=>(e.key,e.val))=(ps.map fun p=>(keyI k p.1,p.2))→
  (findE (keyI k n) es i=some none∧setP ps n v=ps++[(n,v)])∨
  ∃j u,findE (keyI k n) es i=some (some (i+j,u))∧((es.modify j fun e=> {e with key:=keyI k n,val:=v}).map fun e=>(e.key,e.val))=((setP ps n v).map fun p=>(keyI k p.1,p.2))
 |[],[],i,h=>.inl ⟨rfl,rfl⟩
 |[],p::ps,i,h=>by simp at h
 |e::es,[],i,h=>by simp at h
 |e::es,p::ps,i,h=>by
  simp only[List.map_cons,List.cons.injEq,Prod.mk.injEq] at h
  obtain⟨⟨hk,hv⟩,ht⟩:=h
  by_cases hn:p.1=n
  ·subst hn
   refine .inr ⟨0,e.val,by simp[findE,hk,keyI,eqV],?_⟩
   simp[setP,ht]
  ·have hd:decide ((n:Int)=(p.1:Int))=false:=by simp;omega
   rcases MU_es n v es ps (i+1) ht with ⟨h1,h2⟩ |⟨j,u,h1,h2⟩
   ·exact .inl ⟨by simp only[findE,hk,keyI,eqV,if_true,hd];exact h1,by simp[setP,hn,h2]⟩
   ·refine .inr ⟨j+1,u,by simp only[findE,hk,keyI,eqV,if_true,hd];rw[show i+(j+1)=i+1+j by omega];exact h1,?_⟩
    simp only[List.modify_succ_cons,List.map_cons,setP,hn,if_false,h2,hk,hv]
theorem modify_born (es:List MapEntry) (j:Nat) (f:MapEntry→MapEntry) (hf:∀e,(f e).born=e.born):(es.modify j f).map (·.born)=es.map (·.born):=by
 induction es generalizing j with
 |nil=>cases j<;>rfl
 |cons e es ih=>
  cases j with
  |zero=>simp[hf]
  |succ j=>simp[ih]
theorem modify_lt {es:List MapEntry} {j clock:Nat} {f:MapEntry→MapEntry} (hf:∀e,(f e).born=e.born) (h:∀e∈es,e.born<clock):∀e∈es.modify j f,e.born<clock:=by
 intro e he
 have h1:e.born∈(es.modify j f).map (·.born):=List.mem_map_of_mem he
 rw[modify_born es j f hf] at h1
 obtain⟨e',h2,h3⟩:=List.mem_map.1 h1
 rw[←h3];exact h e' h2
theorem MapI.set (h:MapI w r k ps) {n:Nat} {v:Value} {K:World→Prop} (hk:∀w',MapI w' r k (setP ps n v)→Mod [r] w w'→w'.heap.size=w.heap.size→K w'):MU (.int k) (.map (some r)) (.int k n) v w K:=by
 obtain⟨es,clock,h1,h2,h3,h4,h5⟩:=h
 have hb:=mapAt_heap h1
 have hlt:=mapAt_lt h1
 refine⟨by simp[keyV],?_⟩
 simp only[hb]
 rcases MU_es n v es ps 0 h2 with ⟨e1,e2⟩ |⟨j,u,e1,e2⟩
 ·rw[show findE (.int k n) es.toArray.toList 0=findE (keyI k n) es 0 from rfl,e1]
  refine hk _ ⟨es++[{key:=keyI k n,val:=v,born:=clock}],clock+1,?_,?_,setP_nodup ps n v h3,?_,?_⟩ (Mod.put _) (putObj_size _)
  ·rw[mapAt_put hlt];simp[keyI]
  ·simp[h2,e2]
  ·intro e he
   rcases List.mem_append.1 he with he |he
   ·have :=h4 e he;omega
   ·simp only[List.mem_singleton] at he;subst he;simp
  ·rw[List.map_append,List.nodup_append]
   refine⟨h5,by simp,?_⟩
   intro a ha b hb' e
   simp only[List.map_cons,List.map_nil,List.mem_singleton] at hb'
   obtain⟨x,hx,rfl⟩:=List.mem_map.1 ha
   have :=h4 x hx
   omega
 ·rw[show findE (.int k n) es.toArray.toList 0=findE (keyI k n) es 0 from rfl,e1]
  simp only[Nat.zero_add]
  refine hk _ ⟨es.modify j (fun e=> {e with key:=keyI k n,val:=v}),clock,?_,e2,setP_nodup ps n v h3,?_,?_⟩ (Mod.put _) (putObj_size _)
  ·rw[mapAt_put hlt];simp[keyI]
  ·exact modify_lt (fun _=>rfl) h4
  ·rw[modify_born es j (fun e=> {e with key:=keyI k n,val:=v}) (fun _=>rfl)];exact h5
theorem DEL_es (n:Nat):∀(es:List MapEntry) (ps:List (Nat×Value)) (i:Nat),(es.map fun e=>(e.key,e.val))=(ps.map fun p=>(keyI k p.1,p.2))→
  (findE (keyI k n) es i=some none∧delP ps n=ps)∨
  ∃j u,j<es.length∧findE (keyI k n) es i=some (some (i+j,u))∧((es.eraseIdx j).map fun e=>(e.key,e.val))=((delP ps n).map fun p=>(keyI k p.1,p.2))
 |[],[],i,h=>.inl ⟨rfl,rfl⟩
 |[],p::ps,i,h=>by simp at h
 |e::es,[],i,h=>by simp at h
 |e::es,p::ps,i,h=>by
  simp only[List.map_cons,List.cons.injEq,Prod.mk.injEq] at h
  obtain⟨⟨hk,hv⟩,ht⟩:=h
  by_cases hn:p.1=n
  ·subst hn
   refine .inr ⟨0,e.val,by simp,by simp[findE,hk,keyI,eqV],?_⟩
   simp[delP,ht]
  ·have hd:decide ((n:Int)=(p.1:Int))=false:=by simp;omega
   rcases DEL_es n es ps (i+1) ht with ⟨h1,h2⟩ |⟨j,u,h0,h1,h2⟩
   ·exact .inl ⟨by simp only[findE,hk,keyI,eqV,if_true,hd];exact h1,by simp[delP,hn,h2]⟩
   ·refine .inr ⟨j+1,u,by simp[h0],by simp only[findE,hk,keyI,eqV,if_true,hd];rw[show i+(j+1)=i+1+j by omega];exact h1,?_⟩
    simp only[List.eraseIdx_cons_succ,List.map_cons,delP,hn,if_false,h2,hk,hv]
theorem MapI.del (h:MapI w r k ps) {n:Nat} {K:World→Prop} (hk:∀w',MapI w' r k (delP ps n)→Mod [r] w w'→w'.heap.size=w.heap.size→K w'):DEL (.int k) (.map (some r)) (.int k n) w K:=by
 obtain⟨es,clock,h1,h2,h3,h4,h5⟩:=h
 have hb:=mapAt_heap h1
 have hlt:=mapAt_lt h1
 have hnd:((delP ps n).map (·.1)).Nodup:=((delP_sub ps n).map _).nodup h3
 refine⟨by simp[keyV],?_⟩
 simp only[hb]
 rcases DEL_es n es ps 0 h2 with ⟨e1,e2⟩ |⟨j,u,e0,e1,e2⟩
 ·rw[show findE (.int k n) es.toArray.toList 0=findE (keyI k n) es 0 from rfl,e1]
  exact hk _ ⟨es,clock,by rw[mapAt_put hlt],by rw[e2];exact h2,hnd,h4,h5⟩ (Mod.put _) (putObj_size _)
 ·rw[show findE (.int k n) es.toArray.toList 0=findE (keyI k n) es 0 from rfl,e1]
  simp only[Nat.zero_add]
  refine hk _ ⟨es.eraseIdx j,clock,?_,e2,hnd,fun e he=>h4 e ((List.eraseIdx_sublist ..).subset he),((List.eraseIdx_sublist ..).map _).nodup h5⟩ (Mod.put _) (putObj_size _)
  rw[mapAt_put hlt]
  simp[Array.eraseIdxIfInBounds,e0]
def MapMid (w:World) (r:Nat) (k:IntKind) (ps:List (Nat×Value)) (n:Nat) (stamp:Nat):Prop:=∃es clock j,mapAt w r=some (es,clock)∧(∀v,((es.modify j fun e=> {e with val:=v}).map fun e=>(e.key,e.val))=((setP ps n v).map fun p=>(keyI k p.1,p.2)))∧
 (ps.map (·.1)).Nodup∧(∀e∈es,e.born<clock)∧(es.map (·.born)).Nodup∧(es[j]?).map (·.born)=some stamp
theorem MapMid.keep {n stamp:Nat} (h:MapMid w r k ps n stamp) (hm:Mod S w w') (hd:r∉S):MapMid w' r k ps n stamp:=by
 obtain⟨es,clock,j,h1,h2⟩:=h
 exact⟨es,clock,j,hm.mapAt h1 hd,h2⟩
theorem modify_val_key (es:List MapEntry) (j:Nat) (key v:Value):((es.modify j fun e=> {e with key:=key}).modify j fun e=> {e with val:=v})=es.modify j fun e=> {e with key:=key,val:=v}:=by
 induction es generalizing j with
 |nil=>cases j<;>rfl
 |cons e es ih=>
  cases j with
  |zero=>simp
  |succ j=>simp[ih]
theorem modify_last (es:List MapEntry) (e:MapEntry) (f:MapEntry→MapEntry):(es++[e]).modify es.length f=es++[f e]:=by
 induction es with
 |nil=>rfl
 |cons x es ih=>simp[ih]
theorem MapI.men (h:MapI w r k ps) {n:Nat} {z:Value} {K:Value→World→Prop} (hk:∀x stamp w',MapMid w' r k ps n stamp→Mod [r] w w'→w'.heap.size=w.heap.size→K (.tuple #[x,.int .i64 (stamp:Nat)]) w'):MEN (.int k) z (.map (some r)) (.int k n) w K:=by
 obtain⟨es,clock,h1,h2,h3,h4,h5⟩:=h
 have hb:=mapAt_heap h1
 have hlt:=mapAt_lt h1
 refine⟨by simp[keyV],?_⟩
 simp only[hb]
 by_cases hf:findE (keyI k n) es 0=some none
 ·rw[show findE (.int k n) es.toArray.toList 0=findE (keyI k n) es 0 from rfl,hf]
  refine hk _ _ _ ⟨es++[{key:=keyI k n,val:=z,born:=clock}],clock+1,es.length,?_,?_,h3,?_,?_,by simp⟩ (Mod.put _) (putObj_size _)
  ·rw[mapAt_put hlt];simp[keyI]
  ·intro v
   rcases MU_es n v es ps 0 h2 with ⟨e1,e2⟩ |⟨j,u,e1,e2⟩
   ·rw[e2,modify_last]
    simp[h2]
   ·rw[hf] at e1;cases e1
  ·intro e he
   rcases List.mem_append.1 he with he |he
   ·have :=h4 e he;omega
   ·simp only[List.mem_singleton] at he;subst he;simp
  ·rw[List.map_append,List.nodup_append]
   refine⟨h5,by simp,?_⟩
   intro a ha b hb' e
   simp only[List.map_cons,List.map_nil,List.mem_singleton] at hb'
   obtain⟨x,hx,rfl⟩:=List.mem_map.1 ha
   have :=h4 x hx
   omega
 ·rcases MU_es n z es ps 0 h2 with ⟨e1,e2⟩ |⟨j,u,e1,e2⟩
  ·exact absurd e1 hf
  rw[show findE (.int k n) es.toArray.toList 0=findE (keyI k n) es 0 from rfl,e1]
  simp only[Nat.zero_add] at e1 ⊢
  obtain⟨_,e,e3,_⟩:=findE_at es 0 e1
  have e3':es[j]?=some e:=by simpa using e3
  refine hk _ _ _ ⟨es.modify j (fun e=> {e with key:=keyI k n}),clock,j,?_,?_,h3,?_,?_,?_⟩ (Mod.put _) (putObj_size _)
  ·rw[mapAt_put hlt];simp[keyI]
  ·intro v
   rcases MU_es n v es ps 0 h2 with ⟨e5,e6⟩ |⟨j',u',e5,e6⟩
   ·rw[e5] at e1;cases e1
   ·have :j'=j:=by rw[e5] at e1;simp only[Option.some.injEq,Prod.mk.injEq] at e1;omega
    subst this
    rw[modify_val_key,e6]
  ·exact modify_lt (fun _=>rfl) h4
  ·rw[modify_born es j (fun e=> {e with key:=keyI k n}) (fun _=>rfl)];exact h5
  ·simp[e3']
theorem idx_born {es:List MapEntry} {j stamp:Nat} (hn:(es.map (·.born)).Nodup) (hj:(es[j]?).map (·.born)=some stamp):es.toArray.findIdx? (fun e=>(e.born:Int)==(stamp:Int))=some j:=by
 rw[List.findIdx?_toArray]
 induction es generalizing j with
 |nil=>simp at hj
 |cons e es ih=>
  simp only[List.map_cons,List.nodup_cons] at hn
  rw[List.findIdx?_cons]
  cases j with
  |zero=>
   simp only[List.getElem?_cons_zero,Option.map_some,Option.some.injEq] at hj
   simp[hj]
  |succ j=>
   simp only[List.getElem?_cons_succ] at hj
   have hne:e.born≠stamp:=by
    intro he
    apply hn.1
    rw[he]
    cases h:es[j]? with
    |none=>rw[h] at hj;cases hj
    |some x=>
     rw[h] at hj
     simp only[Option.map_some,Option.some.injEq] at hj
     rw[←hj]
     exact List.mem_map_of_mem (List.mem_of_getElem? h)
   have :((e.born:Int)==(stamp:Int))=false:=by simp;omega
   rw[this,ih hn.2 hj]
   rfl
theorem MapMid.est {n stamp:Nat} (h:MapMid w r k ps n stamp) {v:Value} {k':IntKind} {K:World→Prop} (hk:∀w',MapI w' r k (setP ps n v)→Mod [r] w w'→w'.heap.size=w.heap.size→K w'):EST (.map (some r)) (.int k' (stamp:Nat)) v w K:=by
 obtain⟨es,clock,j,h1,h2,h3,h4,h5,h6⟩:=h
 have hb:=mapAt_heap h1
 have hlt:=mapAt_lt h1
 simp only[EST,hb,idx_born h5 h6]
 refine hk _ ⟨es.modify j (fun e=> {e with val:=v}),clock,?_,h2 v,setP_nodup ps n v h3,modify_lt (fun _=>rfl) h4,?_⟩ (Mod.put _) (putObj_size _)
 ·rw[mapAt_put hlt];simp
 ·rw[modify_born es j (fun e=> {e with val:=v}) (fun _=>rfl)];exact h5
theorem MKM_of {K:Value→World→Prop} (hk:∀r w',r=w.heap.size→(∀k,MapI w' r k [])→Ext w w'→w'.heap.size=w.heap.size+1→K (.map (some r)) w'):MKM w K:=
 hk _ _ rfl (fun _=>⟨[],0,mapAt_alloc_new _ _,rfl,by simp,by simp,by simp⟩) (Ext.alloc _) (by simp[heap_alloc])
theorem MapI.len (h:MapI w r k ps) {K:Value→Prop} (hk:K (.int .i64 ps.length)):LENM (.map (some r)) w K:=by
 obtain⟨es,clock,h1,h2,_⟩:=h
 have :es.length=ps.length:=by simpa using congrArg List.length h2
 simp only[LENM,ents_of h1,this];exact hk
end
end Go.Cub
namespace Go.Cub
open Go
def tab (k N:Nat) (f:Nat→Nat→Value):List Value:=(List.range N).flatMap fun i=>(List.range k).map (f i)
theorem tab_length (k N:Nat) (f:Nat→Nat→Value):(tab k N f).length=N * k:=by
 unfold tab
 induction N with
 |zero=>simp
 |succ N ih=>simp[List.range_succ,ih,Nat.add_mul]
theorem tab_succ (k N:Nat) (f:Nat→Nat→Value):tab k (N+1) f=tab k N f++(List.range k).map (f N):=by
 simp[tab,List.range_succ]
theorem tab_get {k N:Nat} (f:Nat→Nat→Value) {i j:Nat} (hi:i<N) (hj:j<k):(tab k N f)[i * k+j]?=some (f i j):=by
 induction N with
 |zero=>omega
 |succ N ih=>
  rw[tab_succ]
  by_cases h:i<N
  ·have :i * k+j<N * k:=by
    have :(i+1) * k≤N * k:=Nat.mul_le_mul_right _ h
    rw[Nat.add_one_mul] at this;omega
   rw[List.getElem?_append_left (by rw[tab_length];exact this)]
   exact ih h
  ·have :i=N:=by omega
   subst this
   rw[List.getElem?_append_right (by rw[tab_length];omega),tab_length,Nat.add_sub_cancel_left]
   simp[hj]
theorem tab_congr {k N:Nat} {f g:Nat→Nat→Value} (h:∀i,i<N→∀j,j<k→f i j=g i j):tab k N f=tab k N g:=by
 induction N with
 |zero=>rfl
 |succ N ih=>
  rw[tab_succ,tab_succ,ih fun i hi=>h i (by omega)]
  congr 1
  apply List.map_congr_left
  intro j hj
  exact h N (by omega) j (by simpa using hj)
theorem tab_row {k N:Nat} (f:Nat→Nat→Value) {i:Nat} (hi:i<N):((tab k N f).drop (i * k)).take k=(List.range k).map (f i):=by
 apply List.ext_getElem?
 intro j
 rw[List.getElem?_take]
 by_cases hj:j<k
 ·rw[if_pos hj,List.getElem?_drop,tab_get f hi hj]
  simp[hj]
 ·rw[if_neg hj]
  simp[hj]
theorem tab_ext {k N:Nat} {l:List Value} {f:Nat→Nat→Value} (hl:l.length=N * k) (h:∀i,i<N→∀j,j<k→l[i * k+j]?=some (f i j)):l=tab k N f:=by
 apply List.ext_getElem?
 intro m
 by_cases hm:m<N * k
 ·have hk:0<k:=by
   rcases Nat.eq_zero_or_pos k with h0 |h0
   ·subst h0;simp at hm
   ·exact h0
  have h1:m/k<N:=by rw[Nat.div_lt_iff_lt_mul hk];exact hm
  have h2:m%k<k:=Nat.mod_lt _ hk
  have h3:m/k * k+m%k=m:=by rw[Nat.mul_comm];exact Nat.div_add_mod m k
  have e1:=h _ h1 _ h2
  have e2:=tab_get f h1 h2
  rw[h3] at e1 e2
  rw[e1,e2]
 ·rw[List.getElem?_eq_none (by omega),List.getElem?_eq_none (by rw[tab_length];omega)]
def setRow (f:Nat→Nat→Value) (i q:Nat) (vs:List Value):Nat→Nat→Value:=fun i' j'=>if i'=i then(if q≤j'∧j'<q+vs.length then(vs[j' - q]?).getD undef else f i' j') else f i' j'
theorem tab_splice {k N:Nat} (f:Nat→Nat→Value) {i q:Nat} {vs:List Value} (hi:i<N) (hq:q+vs.length≤k):splice (tab k N f) (i * k+q) vs=tab k N (setRow f i q vs):=by
 have hle:(i+1) * k≤N * k:=Nat.mul_le_mul_right _ hi
 rw[Nat.add_one_mul] at hle
 refine tab_ext ?_ ?_
 ·simp only[splice,List.length_append,List.length_take,List.length_drop,tab_length];omega
 ·intro a ha b hb
  have hae:(a+1) * k≤N * k:=Nat.mul_le_mul_right _ ha
  rw[Nat.add_one_mul] at hae
  have hg:=tab_get f ha hb
  have hl1:((tab k N f).take (i * k+q)).length=i * k+q:=by rw[List.length_take,tab_length];omega
  simp only[splice,setRow]
  by_cases hai:a=i
  ·subst hai
   rw[if_pos rfl]
   by_cases hq1:b<q
   ·rw[if_neg (by omega),List.append_assoc,List.getElem?_append_left (by rw[hl1];omega),List.getElem?_take,if_pos (by omega)]
    exact hg
   ·by_cases hq2:b<q+vs.length
    ·rw[if_pos ⟨by omega,hq2⟩,List.append_assoc,List.getElem?_append_right (by rw[hl1];omega),hl1,List.getElem?_append_left (by omega)]
     rw[show a * k+b - (a * k+q)=b - q by omega]
     rw[List.getElem?_eq_getElem (by omega)]
     rfl
    ·rw[if_neg (by omega),List.getElem?_append_right (by rw[List.length_append,hl1];omega),List.length_append,hl1,List.getElem?_drop]
     rw[show a * k+q+vs.length+(a * k+b - (a * k+q+vs.length))=a * k+b by omega]
     exact hg
  ·rw[if_neg hai]
   rcases Nat.lt_or_gt_of_ne hai with h |h
   ·have :(a+1) * k≤i * k:=Nat.mul_le_mul_right _ h
    rw[Nat.add_one_mul] at this
    rw[List.append_assoc,List.getElem?_append_left (by rw[hl1];omega),List.getElem?_take,if_pos (by omega)]
    exact hg
   ·have :(i+1) * k≤a * k:=Nat.mul_le_mul_right _ h
    rw[Nat.add_one_mul] at this
    rw[List.getElem?_append_right (by rw[List.length_append,hl1];omega),List.length_append,hl1,List.getElem?_drop]
    rw[show i * k+q+vs.length+(a * k+b - (i * k+q+vs.length))=a * k+b by omega]
    exact hg
def Tb (w:World) (v:Value) (k N:Nat) (f:Nat→Nat→Value) (F:List Nat):Prop:=Sl w v k N (tab k N f) F
section
variable {w w':World} {v:Value} {k N:Nat} {f:Nat→Nat→Value} {F S:List Nat}
theorem Tb.keep (h:Tb w v k N f F) (hm:Mod S w w') (hd:∀b∈F,b∉S):Tb w' v k N f F:=Sl.keep h hm hd
theorem Tb.ext (h:Tb w v k N f F) (hm:Ext w w'):Tb w' v k N f F:=Sl.ext h hm
theorem Tb.lt (h:Tb w v k N f F):∀b∈F,b<w.heap.size:=Sl.lt h
theorem Tb.len (h:Tb w v k N f F):lenS v=some (.int .i64 N):=Sl.len h
theorem Tb.congr {g:Nat→Nat→Value} (h:Tb w v k N f F) (hg:∀i,i<N→∀j,j<k→f i j=g i j):Tb w v k N g F:=by
 unfold Tb at *
 rwa[←tab_congr hg]
theorem Tb.at (h:Tb w v k N f F) {kd:IntKind} {i:Nat} (hi:i<N):∃b o,idxS k v (.int kd i)=some (.pointer (some ⟨b,o,none⟩))∧F=[b]∧
  (∀j,j<k→∀K:Value→Prop,K (f i j)→L1 (.pointer (some ⟨b,o+j,none⟩)) w K)∧
  (∀K:Value→Prop,K (.agg ((List.range k).map (f i)).toArray)→LN k (.pointer (some ⟨b,o,none⟩)) w K)∧
  (∀j x,j<k→x.oneCell'=true→∀K:World→Prop,(∀w',Tb w' v k N (setRow f i j [x]) F→Mod F w w'→w'.heap.size=w.heap.size→K w')→S1 (.pointer (some ⟨b,o+j,none⟩)) x w K)∧
  (∀(x:Value),x.cells.size=k→(∀y∈x.cells.toList,y.oneCell'=true)→∀K:World→Prop,(∀w',Tb w' v k N (setRow f i 0 x.cells.toList) F→Mod F w w'→w'.heap.size=w.heap.size→K w')→SN k (.pointer (some ⟨b,o,none⟩)) x w K):=by
 obtain⟨b,o,cs,h1,hF,hr,ho,hread,hwrite⟩:=Sl.idx h (k:=kd) hi
 refine⟨b,o,h1,hF,?_,?_,?_,?_⟩
 ·intro j hj K hk
  exact L1_of hr ((hread j hj).trans (tab_get f hi hj)) hk
 ·intro K hk
  refine LN_of hr ho ?_
  have :(cs.drop o).take k=(List.range k).map (f i):=by
   rw[←tab_row f hi]
   apply List.ext_getElem?
   intro j
   simp only[List.getElem?_take,List.getElem?_drop]
   split
   ·rename_i hj;exact hread j hj
   ·rfl
  rw[this];exact hk
 ·intro j x hj hx K hk
  refine S1_of hr (by omega) hx fun w' hr' hm hz=>?_
  subst hF
  refine hk w' ?_ hm hz
  have :=hwrite [x] j (by simp;omega) w' (by rw[splice_one (by omega)];exact hr')
  rwa[tab_splice f hi (by simp;omega)] at this
 ·intro x hx hy K hk
  refine SN_of hr hx ho hy fun w' hr' hm hz=>?_
  subst hF
  refine hk w' ?_ hm hz
  have hxl:x.cells.toList.length=k:=by simpa using hx
  have :=hwrite x.cells.toList 0 (by omega) w' (by simpa using hr')
  rwa[tab_splice f hi (by omega)] at this
end
end Go.Cub
