/-
  Part 31 of the proof that TopNested returns true and leaves what it was given as it was. CONDITIONS: those of the given row and card.
-/
import Derived.Test.YtpelalpajdpkgaaGreatDoorZ29
set_option linter.all false
namespace Go.Cub
structure AOp where
 kind:Nat
 ticks:Nat
 key:ByteArray
 val:List UInt8
 ttl:Nat
 count:Nat
 bytes:Nat
 cur:Nat
 bir:Nat
structure CSt where
 U:List Ent
 bn:Nat
 now:Nat
 o:Nat
structure Rs where
 err:Int
 hit:Bool
 val:List UInt8
 nev:Nat
def delK (U:List Ent) (k:ByteArray):List Ent:=U.filter fun e=>decide (e.key≠k)
def lookU (U:List Ent) (k:ByteArray):Option Ent:=U.find? fun e=>decide (e.key=k)
def upU (s:CSt) (o:AOp):List Ent:=s.U.filter fun e=> !dueT e.dl (addT s.now o.ticks)
def advS (s:CSt) (o:AOp) (U:List Ent):CSt:=⟨U,s.bn,addT s.now o.ticks,s.o⟩
def freeN (o:Nat):Option Nat:=(List.range 64).find? fun k=> !o.testBit k
def setS (N:Nat) (s:CSt) (o:AOp) (d:Nat):CSt×Rs:=
 if chkE o.key o.val.length 1≠0 then(s,⟨chkE o.key o.val.length 1,false,[],0⟩) else
 match lookU (upU s o) o.key with
 |some e=>(advS s o (delK (upU s o) o.key++[{e with val:=o.val,dl:=d}]),⟨0,false,[],0⟩)
 |none=>if (upU s o).length<N then(⟨upU s o++[(⟨o.key,o.val,d,s.bn+1⟩:Ent)],s.bn+1,addT s.now o.ticks,s.o⟩,⟨0,false,[],0⟩)
  else(⟨(upU s o++[(⟨o.key,o.val,d,s.bn+1⟩:Ent)]).tail,s.bn+1,addT s.now o.ticks,s.o⟩,⟨0,false,[],1⟩)
def stpK:Nat→Nat→CSt→AOp→CSt×Rs
 |1,N,s,o=>setS N s o 18446744073709551615
 |2,N,s,o=>if o.ttl=0 then(s,⟨2,false,[],0⟩) else setS N s o (addT (addT s.now o.ticks) o.ttl)
 |3,_,s,o=>if keyErr o.key≠0 then(s,⟨keyErr o.key,false,[],0⟩) else
  match lookU (upU s o) o.key with
  |some e=>(advS s o (delK (upU s o) o.key++[e]),⟨0,true,e.val,0⟩)
  |none=>(advS s o (upU s o),⟨0,false,[],0⟩)
 |4,_,s,o=>if keyErr o.key≠0 then(s,⟨keyErr o.key,false,[],0⟩) else(advS s o (upU s o),⟨0,(lookU (upU s o) o.key).isSome,[],0⟩)
 |5,_,s,o=>if firstE [keyErr o.key,ttlErr o.ttl]≠0 then(s,⟨firstE [keyErr o.key,ttlErr o.ttl],false,[],0⟩) else
  match lookU (upU s o) o.key with
  |some e=>(advS s o (delK (upU s o) o.key++[{e with dl:=addT (addT s.now o.ticks) o.ttl}]),⟨0,true,[],0⟩)
  |none=>(advS s o (upU s o),⟨0,false,[],0⟩)
 |6,_,s,o=>if keyErr o.key≠0 then(s,⟨keyErr o.key,false,[],0⟩) else(advS s o (delK (upU s o) o.key),⟨0,(lookU (upU s o) o.key).isSome,[],0⟩)
 |7,_,s,o=>(advS s o [],⟨0,false,[],0⟩)
 |11,_,s,o=>(match freeN s.o with
  |some k=>(⟨upU s o,s.bn,addT s.now o.ticks,s.o ||| 2^k⟩,⟨0,false,[],0⟩)
  |none=>(advS s o (upU s o),⟨7,false,[],0⟩))
 |12,_,s,o=>if hasC s.o o.cur then(advS s o (upU s o),⟨0,false,[],0⟩) else(s,⟨9,false,[],0⟩)
 |13,_,s,o=>(advS s o (upU s o),⟨curE s.o o.cur,false,[],0⟩)
 |14,_,s,o=>(⟨upU s o,s.bn,addT s.now o.ticks,if hasC s.o o.cur then s.o &&& (18446744073709551616 - (2^o.cur+1)) else s.o⟩,⟨curE s.o o.cur,false,[],0⟩)
 |_,_,s,o=>(advS s o (upU s o),⟨0,false,[],0⟩)
def stp (N:Nat) (s:CSt) (o:AOp):CSt×Rs:=stpK o.kind N s o
def core (e:Ent):ByteArray×List UInt8×Nat:=(e.key,e.val,e.dl)
def Sub (A B:List Ent):Prop:=(A.map core).Sublist (B.map core)
section
variable {A B:List Ent} {k:ByteArray} {e f:Ent} {N M:Nat}
theorem lookU_some (h:lookU A k=some e):e∈A∧e.key=k:=⟨List.mem_of_find?_eq_some h,by simpa using List.find?_some h⟩
theorem lookU_none (h:lookU A k=none):∀e∈A,e.key≠k:=by simpa[lookU,List.find?_eq_none] using h
theorem lookU_none' (h:∀e∈A,e.key≠k):lookU A k=none:=by simpa[lookU,List.find?_eq_none] using h
theorem key_inj:∀ {A:List Ent},(A.map (·.key)).Nodup→e∈A→f∈A→e.key=f.key→e=f
 |x::A,hn,he,hf,hk=>by
  simp only[List.map_cons,List.nodup_cons] at hn
  rcases List.mem_cons.1 he with h1 |h1<;>rcases List.mem_cons.1 hf with h2 |h2
  ·rw[h1,h2]
  ·exact absurd (List.mem_map.2 ⟨f,h2,by rw[←hk,h1]⟩) hn.1
  ·exact absurd (List.mem_map.2 ⟨e,h1,by rw[hk,h2]⟩) hn.1
  ·exact key_inj hn.2 h1 h2 hk
theorem lookU_eq (hn:(A.map (·.key)).Nodup) (he:e∈A) (hk:e.key=k):lookU A k=some e:=by
 cases h:lookU A k with
 |none=>exact absurd hk (lookU_none h e he)
 |some f=>
  obtain⟨h1,h2⟩:=lookU_some h
  rw[key_inj hn h1 he (h2.trans hk.symm)]
theorem mem_delK:e∈delK A k↔e∈A∧e.key≠k:=by simp[delK]
theorem delK_none (h:∀e∈A,e.key≠k):delK A k=A:=by
 unfold delK
 rw[List.filter_eq_self]
 intro e he
 simpa using h e he
theorem delK_len:∀ {A:List Ent},(A.map (·.key)).Nodup→e∈A→e.key=k→(delK A k).length+1=A.length
 |x::A,hn,he,hk=>by
  simp only[List.map_cons,List.nodup_cons] at hn
  rcases List.mem_cons.1 he with rfl |he
  ·have e1:delK (e::A) k=delK A k:=by simp[delK,hk]
   rw[e1,delK_none fun y hy hyk=>hn.1 (List.mem_map.2 ⟨y,hy,hyk.trans hk.symm⟩)]
   rfl
  ·have hne:x.key≠k:=fun hx=>hn.1 (List.mem_map.2 ⟨e,he,hk.trans hx.symm⟩)
   have e1:delK (x::A) k=x::delK A k:=by simp[delK,hne]
   have :=delK_len hn.2 he hk
   rw[e1,List.length_cons,List.length_cons,this]
theorem Sub.len (h:Sub A B):A.length≤B.length:=by simpa using List.Sublist.length_le h
theorem Sub.keys (h:Sub A B):(A.map (·.key)).Sublist (B.map (·.key)):=by
 have :=List.Sublist.map (fun x:ByteArray×List UInt8×Nat=>x.1) h
 rw[List.map_map,List.map_map] at this
 exact this
theorem Sub.filter {p:Ent→Bool} (q:ByteArray×List UInt8×Nat→Bool) (hq:∀e,q (core e)=p e) (h:Sub A B):Sub (A.filter p) (B.filter p):=by
 have e1:p=q ∘ core:=by funext e;exact(hq e).symm
 have :=List.Sublist.filter q h
 unfold Sub
 rw[List.filter_map,List.filter_map] at this
 rw[e1];exact this
theorem Sub.due (h:Sub A B) (t:Nat):Sub (A.filter fun e=> !dueT e.dl t) (B.filter fun e=> !dueT e.dl t):=h.filter (fun x=> !dueT x.2.2 t) fun _=>rfl
theorem Sub.due' (h:Sub A B) (t:Nat):Sub (A.filter fun e=>dueT e.dl t) (B.filter fun e=>dueT e.dl t):=h.filter (fun x=>dueT x.2.2 t) fun _=>rfl
theorem Sub.delK (h:Sub A B) (k:ByteArray):Sub (delK A k) (delK B k):=h.filter (fun x=>decide (x.1≠k)) fun _=>rfl
theorem Sub.app (h:Sub A B) (hc:core e=core f):Sub (A++[e]) (B++[f]):=by
 unfold Sub
 rw[List.map_append,List.map_append,List.map_cons,List.map_cons,hc]
 exact h.append_right _
theorem Sub.app1 (h:Sub A B):Sub A (B++[f]):=by
 unfold Sub
 rw[List.map_append]
 exact h.trans (List.sublist_append_left _ _)
theorem Sub.tail (h:Sub A B):Sub A.tail B:=by
 unfold Sub
 rw[List.map_tail]
 exact(List.tail_sublist _).trans h
theorem Sub.tails (h:Sub A B):Sub A.tail B.tail:=by
 unfold Sub
 rw[List.map_tail,List.map_tail]
 have key:∀ {l l':List (ByteArray×List UInt8×Nat)},l.Sublist l'→l.tail.Sublist l'.tail:=by
  intro l l' h
  cases h with
  |slnil=>exact .slnil
  |cons a h=>exact(List.tail_sublist _).trans h
  |cons_cons a h=>exact h
 exact key h
theorem Sub.mem (h:Sub A B) (he:e∈A):∃f∈B,core f=core e:=by
 have :=h.subset (List.mem_map.2 ⟨e,he,rfl⟩)
 exact List.mem_map.1 this
theorem split_len (A:List Ent) (p:Ent→Bool):(A.filter fun e=> !p e).length+(A.filter p).length=A.length:=by
 induction A with
 |nil=>rfl
 |cons a A ih=>
  simp only[List.filter_cons,List.length_cons]
  cases p a<;>simp <;>omega
structure SideL (N M:Nat) (A B:List Ent):Prop where
 sub:Sub A B
 nd:(B.map (·.key)).Nodup
 la:A.length≤N
 lb:B.length≤M
 df:B.length+N≤A.length+M
theorem SideL.nda (h:SideL N M A B):(A.map (·.key)).Nodup:=h.sub.keys.nodup h.nd
theorem SideL.up (h:SideL N M A B) (t:Nat):SideL N M (A.filter fun e=> !dueT e.dl t) (B.filter fun e=> !dueT e.dl t):=by
 have h1:=split_len A fun e=>dueT e.dl t
 have h2:=split_len B fun e=>dueT e.dl t
 have h3:=(h.sub.due' t).len
 have :=h.la
 have :=h.lb
 have :=h.df
 exact⟨h.sub.due t,(List.filter_sublist.map _).nodup h.nd,by omega,by omega,by omega⟩
theorem nd_use (hn:(A.map (·.key)).Nodup) (hk:f.key=k):((delK A k++[f]).map (·.key)).Nodup:=by
 rw[List.map_append,List.nodup_append]
 refine⟨(List.filter_sublist.map _).nodup hn,by simp,?_⟩
 intro a ha b hb e1
 obtain⟨x,hx,rfl⟩:=List.mem_map.1 ha
 simp only[List.map_cons,List.map_nil,List.mem_singleton] at hb
 exact(mem_delK.1 hx).2 (by rw[e1,hb,hk])
theorem SideL.found (h:SideL N M A B) (h1:lookU A k=some e):∃f,lookU B k=some f∧core f=core e:=by
 obtain⟨he,hk⟩:=lookU_some h1
 obtain⟨f,hf,hc⟩:=h.sub.mem he
 refine⟨f,lookU_eq h.nd hf ?_,hc⟩
 rw[←hk]
 exact congrArg (·.1) hc
theorem SideL.use2 {e' f':Ent} (h:SideL N M A B) (h1:lookU A k=some e) (h2:lookU B k=some f) (hc:core e'=core f') (hk:f'.key=k):SideL N M (delK A k++[e']) (delK B k++[f']):=by
 obtain⟨a1,a2⟩:=lookU_some h1
 obtain⟨b1,b2⟩:=lookU_some h2
 have h3:=delK_len h.nda a1 a2
 have h4:=delK_len h.nd b1 b2
 have :=h.la
 have :=h.lb
 have :=h.df
 exact⟨(h.sub.delK k).app hc,nd_use h.nd hk,by simp;omega,by simp;omega,by simp;omega⟩
theorem SideL.use1 {f':Ent} (h:SideL N M A B) (h1:lookU A k=none) (h2:lookU B k=some f) (hk:f'.key=k):SideL N M A (delK B k++[f']):=by
 obtain⟨b1,b2⟩:=lookU_some h2
 have h4:=delK_len h.nd b1 b2
 have h5:=h.sub.delK k
 rw[delK_none (lookU_none h1)] at h5
 have :=h.la
 have :=h.lb
 have :=h.df
 exact⟨h5.app1,nd_use h.nd hk,by omega,by simp;omega,by simp;omega⟩
theorem SideL.del (h:SideL N M A B):SideL N M (delK A k) (delK B k):=by
 have h5:=h.sub.delK k
 have :=h.la
 have :=h.lb
 have :=h.df
 refine⟨h5,(List.filter_sublist.map _).nodup h.nd,?_,?_,?_⟩
 ·exact Nat.le_trans (List.length_filter_le _ _) h.la
 ·exact Nat.le_trans (List.length_filter_le _ _) h.lb
 ·cases h2:lookU B k with
  |none=>
   have h1:lookU A k=none:=by
    cases h1:lookU A k with
    |none=>rfl
    |some e=>
     obtain⟨f,hf,_⟩:=h.found h1
     rw[h2] at hf;cases hf
   rw[delK_none (lookU_none h1),delK_none (lookU_none h2)]
   exact h.df
  |some f=>
   obtain⟨b1,b2⟩:=lookU_some h2
   have h4:=delK_len h.nd b1 b2
   cases h1:lookU A k with
   |none=>
    rw[delK_none (lookU_none h1)]
    omega
   |some e=>
    obtain⟨a1,a2⟩:=lookU_some h1
    have h3:=delK_len h.nda a1 a2
    omega
theorem SideL.set1 {e' f':Ent} (h:SideL N M A B) (h1:lookU A k=none) (h2:lookU B k=some f) (hc:core e'=core f') (hk:f'.key=k):
  (A.length<N→SideL N M (A++[e']) (delK B k++[f']))∧(¬A.length<N→SideL N M (A++[e']).tail (delK B k++[f'])):=by
 obtain⟨b1,b2⟩:=lookU_some h2
 have h4:=delK_len h.nd b1 b2
 have h5:=h.sub.delK k
 rw[delK_none (lookU_none h1)] at h5
 have :=h.la
 have :=h.lb
 have :=h.df
 refine⟨fun hl=>⟨h5.app hc,nd_use h.nd hk,by simp;omega,by simp;omega,by simp;omega⟩,fun hl=>⟨(h5.app hc).tail,nd_use h.nd hk,by simp;omega,by simp;omega,by simp;omega⟩⟩
theorem nd_app (hn:(A.map (·.key)).Nodup) (h1:lookU A k=none) (hk:f.key=k):((A++[f]).map (·.key)).Nodup:=by
 have :=nd_use hn hk
 rwa[delK_none (lookU_none h1)] at this
theorem SideL.set2 {e' f':Ent} (h:SideL N M A B) (h2:lookU B k=none) (hc:core e'=core f') (hk:f'.key=k):
  (A.length<N→B.length<M→SideL N M (A++[e']) (B++[f']))∧(¬A.length<N→B.length<M→SideL N M (A++[e']).tail (B++[f']))∧
  (¬A.length<N→¬B.length<M→SideL N M (A++[e']).tail (B++[f']).tail)∧(A.length<N→B.length<M):=by
 have hn:=nd_app h.nd h2 hk
 have :=h.la
 have :=h.lb
 have :=h.df
 refine⟨fun h3 h4=>⟨h.sub.app hc,hn,by simp;omega,by simp;omega,by simp;omega⟩,fun h3 h4=>⟨(h.sub.app hc).tail,hn,by simp;omega,by simp;omega,by simp;omega⟩,
  fun h3 h4=>⟨(h.sub.app hc).tails,?_,by simp;omega,by simp;omega,by simp;omega⟩,fun h3=>by omega⟩
 rw[List.map_tail]
 exact(List.tail_sublist _).nodup hn
theorem SideL.nil (_:SideL N M A B) (hNM:N≤M):SideL N M [] []:=⟨.slnil,by simp,by simp,by simp,by simpa using hNM⟩
end
structure Side (N M:Nat) (x y:CSt):Prop where
 l:SideL N M x.U y.U
 now:x.now=y.now
 o:x.o=y.o
def Fits (N M:Nat) (p q:CSt×Rs):Prop:=Side N M p.1 q.1∧p.2.err=q.2.err∧(p.2.hit=true→q.2.hit=true∧p.2.val=q.2.val)∧p.2.nev≤1∧q.2.nev≤p.2.nev
section
variable {N M:Nat} {x y:CSt} {o:AOp}
theorem Side.up (h:Side N M x y):SideL N M (upU x o) (upU y o):=by
 have :=h.l.up (addT x.now o.ticks)
 unfold upU
 rw[←h.now]
 exact this
theorem Side.adv (h:Side N M x y) {A B:List Ent} (hl:SideL N M A B):Side N M (advS x o A) (advS y o B):=⟨hl,by simp[advS,h.now],h.o⟩
theorem Side.same (h:Side N M x y) {r:Rs} (hr:r.nev=0):Fits N M (x,r) (y,r):=⟨h,rfl,fun h=>⟨h,rfl⟩,by simp[hr],Nat.le_refl _⟩
theorem Side.mk' (h:Side N M x y) {A B:List Ent} {e:Int} {b c:Bool} {v v':List UInt8} (hl:SideL N M A B) (hb:b=true→c=true∧v=v'):Fits N M (advS x o A,⟨e,b,v,0⟩) (advS y o B,⟨e,c,v',0⟩):=
 ⟨h.adv hl,rfl,hb,by simp,by simp⟩
theorem set_fits (h:Side N M x y) (d:Nat):Fits N M (setS N x o d) (setS M y o d):=by
 unfold setS
 split
 ·exact h.same rfl
 ·have hu:=h.up (o:=o)
  cases h1:lookU (upU x o) o.key with
  |some e=>
   obtain⟨f,h2,hc⟩:=hu.found h1
   rw[h2]
   have hk:=(lookU_some h1).2
   have hk2:=(lookU_some h2).2
   refine h.mk' (hu.use2 h1 h2 ?_ hk2) (by simp)
   simp only[core,hk,hk2]
  |none=>
   cases h2:lookU (upU y o) o.key with
   |some f=>
    have hk2:=(lookU_some h2).2
    obtain⟨g1,g2⟩:=hu.set1 (e':=⟨o.key,o.val,d,x.bn+1⟩) (f':= {f with val:=o.val,dl:=d}) h1 h2 (by simp only[core,hk2]) hk2
    simp only
    split
    ·rename_i hl
     exact⟨⟨g1 hl,by simp[advS,h.now],h.o⟩,rfl,by simp,by simp,by simp⟩
    ·rename_i hl
     exact⟨⟨g2 hl,by simp[advS,h.now],h.o⟩,rfl,by simp,by simp,by simp⟩
   |none=>
    obtain⟨g1,g2,g3,g4⟩:=hu.set2 (e':=⟨o.key,o.val,d,x.bn+1⟩) (f':=⟨o.key,o.val,d,y.bn+1⟩) h2 rfl rfl
    simp only
    by_cases hl:(upU x o).length<N
    ·rw[if_pos hl,if_pos (g4 hl)]
     exact⟨⟨g1 hl (g4 hl),by simp[h.now],h.o⟩,rfl,by simp,by simp,by simp⟩
    ·rw[if_neg hl]
     by_cases hm:(upU y o).length<M
     ·rw[if_pos hm]
      exact⟨⟨g2 hl hm,by simp[h.now],h.o⟩,rfl,by simp,by simp,by simp⟩
     ·rw[if_neg hm]
      exact⟨⟨g3 hl hm,by simp[h.now],h.o⟩,rfl,by simp,by simp,by simp⟩
theorem stpK_fits (hNM:N≤M) (h:Side N M x y):∀k:Nat,Fits N M (stpK k N x o) (stpK k M y o)
 |1=>set_fits h _
 |2=>by
  simp only[stpK]
  split
  ·exact h.same rfl
  ·rw[h.now]
   exact set_fits h _
 |3=>by
  have hu:=h.up (o:=o)
  simp only[stpK]
  split
  ·exact h.same rfl
  ·cases h1:lookU (upU x o) o.key with
   |some e=>
    obtain⟨f,h2,hc⟩:=hu.found h1
    rw[h2]
    exact h.mk' (hu.use2 h1 h2 hc.symm (lookU_some h2).2) fun _=>⟨rfl,(congrArg (·.2.1) hc).symm⟩
   |none=>
    cases h2:lookU (upU y o) o.key with
    |some f=>exact h.mk' (hu.use1 h1 h2 (lookU_some h2).2) (by simp)
    |none=>exact h.mk' hu (by simp)
 |4=>by
  have hu:=h.up (o:=o)
  simp only[stpK]
  split
  ·exact h.same rfl
  ·refine h.mk' hu fun hs=>⟨?_,rfl⟩
   cases h1:lookU (upU x o) o.key with
   |some e=>
    obtain⟨f,h2,hc⟩:=hu.found h1
    rw[h2];rfl
   |none=>rw[h1] at hs;cases hs
 |5=>by
  have hu:=h.up (o:=o)
  simp only[stpK]
  split
  ·exact h.same rfl
  ·cases h1:lookU (upU x o) o.key with
   |some e=>
    obtain⟨f,h2,hc⟩:=hu.found h1
    rw[h2]
    have hk:=(lookU_some h1).2
    have hk2:=(lookU_some h2).2
    have hv:f.val=e.val:=congrArg (·.2.1) hc
    refine h.mk' (hu.use2 h1 h2 ?_ hk2) fun _=>⟨rfl,rfl⟩
    simp only[core,hk,hk2,hv,h.now]
   |none=>
    cases h2:lookU (upU y o) o.key with
    |some f=>exact h.mk' (hu.use1 h1 h2 (lookU_some h2).2) (by simp)
    |none=>exact h.mk' hu (by simp)
 |6=>by
  have hu:=h.up (o:=o)
  simp only[stpK]
  split
  ·exact h.same rfl
  ·refine h.mk' hu.del fun hs=>⟨?_,rfl⟩
   cases h1:lookU (upU x o) o.key with
   |some e=>
    obtain⟨f,h2,hc⟩:=hu.found h1
    rw[h2];rfl
   |none=>rw[h1] at hs;cases hs
 |7=>h.mk' (h.up (o:=o) |>.nil hNM) (by simp)
 |11=>by
  have hu:=h.up (o:=o)
  simp only[stpK]
  rw[←h.o]
  cases freeN x.o with
  |some k=>exact⟨⟨hu,by simp[h.now],by simp⟩,rfl,by simp,by simp,by simp⟩
  |none=>exact h.mk' hu (by simp)
 |12=>by
  simp only[stpK]
  rw[←h.o]
  split
  ·exact h.mk' (h.up (o:=o)) (by simp)
  ·exact h.same rfl
 |13=>by
  simp only[stpK]
  rw[←h.o]
  exact h.mk' (h.up (o:=o)) (by simp)
 |14=>by
  simp only[stpK]
  rw[←h.o]
  exact⟨⟨h.up (o:=o),by simp[h.now],by simp⟩,rfl,by simp,by simp,by simp⟩
 |0=>h.mk' (h.up (o:=o)) (by simp)
 |8=>h.mk' (h.up (o:=o)) (by simp)
 |9=>h.mk' (h.up (o:=o)) (by simp)
 |10=>h.mk' (h.up (o:=o)) (by simp)
 |k+15=>h.mk' (h.up (o:=o)) (by simp)
theorem stp_fits (hNM:N≤M) (h:Side N M x y) (o:AOp):Fits N M (stp N x o) (stp M y o):=stpK_fits hNM h _
end
structure StOk (N K nb:Nat) (s:CSt):Prop where
 nd:(s.U.map (·.key)).Nodup
 len:s.U.length≤N
 cost:∀e∈s.U,costE e≤K
 bn:s.bn≤nb
end Go.Cub
namespace Go.Cub
open Go Go.Proofs Go.IntWalk
section
variable {R:Value→World→Prop} {w:World} {C:List HP} {u u2:HP→List HP} {v x:Value} {xs bs:List UInt8}
theorem CPYo [f:Foc C (.v v) (sle v u8E xs) u] [g:Foc C (.v x) (imm x bs) u2] {K:Value→World→Prop} (H:Own w.hp C)
  (h:∀w',Own w'.hp (u (sle v u8E (bs.take xs.length++xs.drop bs.length)))→K (.int .i64 (min bs.length xs.length:Nat)) w'):CPY 1 v x w K:=by
 obtain⟨G,sx⟩:=(g.get H).im
 obtain⟨F,G',a,hu⟩:=(f.get H).upd
 have sv:Sl w v 1 xs.length (u8E.fl xs) F:=a.1
 have hsrc:=sx.srcTake (m:=min bs.length xs.length) (Nat.min_le_left _ _)
 have hl:srcLen x=some bs.length:=sx.srcLen
 rw[u8E_fl] at sv
 rcases sv.2 with ⟨rfl,h2,rfl⟩ |⟨b,off,cap,cs,rfl,rfl,h3,h4,h5,h6⟩
 ·have :xs=[]:=by simpa using h2
  subst this
  have hsrc':srcCells 1 (min bs.length 0) x w=some ((bs.map u8V).take (min bs.length 0)):=hsrc
  simp only[CPY,hl,hsrc']
  refine h w (f.put ?_)
  simpa using f.get H
 ·simp only[CPY,hl,hsrc]
  have hlen:((bs.map u8V).take (min bs.length xs.length)).length=min bs.length xs.length:=by simp
  obtain⟨w',e1,e2,e3,e4⟩:=put_row ((bs.map u8V).take (min bs.length xs.length)) w cs off 0 h3 (by rw[hlen];omega) (fun y hy=>oneCell_u8 bs y (List.mem_of_mem_take hy))
  rw[e1]
  refine h w' (f.put (hu _ _ [b] [] (fun c hc hF=>e3.same c hc hF) e3.he ⟨?_,rfl⟩ (fun c hc=>.inl hc) (by simp)))
  have hlen2:(bs.take xs.length++xs.drop bs.length).length=xs.length:=by simp;omega
  show Sl w' _ 1 (bs.take xs.length++xs.drop bs.length).length _ [b]
  rw[hlen2]
  refine⟨by rw[u8E_fl,List.length_map,hlen2,Nat.mul_one],.inr ⟨b,off,cap,_,rfl,rfl,e2,?_,h5,?_⟩⟩
  ·simp only[splice,List.length_append,List.length_take,List.length_drop,hlen];omega
  ·rw[u8E_fl]
   apply List.ext_getElem?
   intro j
   have h6':=congrArg (fun l=>l[j]?) h6
   simp only[List.getElem?_take,List.getElem?_drop,List.getElem?_map,Nat.mul_one] at h6'
   simp only[splice,List.map_append,List.map_take,List.map_drop,List.getElem?_take,List.getElem?_drop,List.getElem?_append,List.length_append,List.length_take,List.length_drop,List.length_map,Nat.add_zero,Nat.mul_one,List.getElem?_map]
   have e5:∀i,(List.map u8V bs)[i]?=(bs[i]?).map u8V:=fun i=>List.getElem?_map ..
   by_cases hj:j<xs.length
   ·by_cases hjb:j<bs.length
    ·(repeat' split)<;>first |omega |(congr 2;omega) |rfl
    ·(repeat' split)<;>first |omega |skip
     all_goals first |(rw[if_pos hj] at h6';rw[show bs.length+(j - min xs.length bs.length)=j by omega];rw[←h6'];congr 1;omega) |skip
     all_goals first |(rw[if_pos hj] at h6';rw[show bs.length+(j - min xs.length bs.length)=j by omega];rw[h6'];congr 1;omega) |skip
   ·rw[if_neg hj]
    (repeat' split)<;>first |omega |skip
    all_goals (simp;omega)
theorem imslc [f:Foc C (.v v) (imm v bs) u] {kd:IntKind} {i:Nat} {K:Value→Prop} (H:Own w.hp C) (hi:i≤bs.length) (h:∀v':SV,Own w.hp (u (imm (svV v') (bs.drop i)))→K (svV v')):PV (slc 1 v (some (.int kd i)) none none) K:=by
 obtain⟨G,s⟩:=(f.get H).im
 obtain⟨v',e,_⟩:=Bs.slc_from (k:=kd) s hi
 have H':Own w.hp (imm v' (bs.drop i)::f.rest):=by
  refine(f.get H).imp fun F G a=>?_
  obtain⟨v'',e',s'⟩:=Bs.slc_from (k:=kd) (show Bs _ _ _ _ from a.1) hi
  rw[e] at e'
  simp only[Option.some.injEq] at e'
  subst e'
  exact⟨F,G,⟨s',a.2⟩,fun b hb=>hb,fun b hb=>.inr hb⟩
 obtain⟨y,rfl⟩:=imm_sv H'
 exact PV_of e (h y (f.put H'))
end
def tk (n:Nat) (bs:List UInt8):List UInt8:=bs.take n++List.replicate (n - bs.length) 0
theorem tk_len (n:Nat) (bs:List UInt8):(tk n bs).length=n:=by simp[tk];omega
def numL (l:List UInt8):Nat:=l.foldl (fun x b=>x * 256+b.toNat) 0
def rdr (rd:Nat) (bs:List UInt8):HP:=.ex fun v:SV=>.all [pt rd [svV v],imm (svV v) bs]
instance {rd:Nat} {bs:List UInt8}:Keyed (rdr rd bs) (.b rd):=⟨⟩
section
variable {R:Value→World→Prop} {w:World} {C:List HP} {u u2:HP→List HP} {rd n:Nat} {bs:List UInt8}
attribute [local irreducible] PV CND GRD L1 LN S1 SN NEW NEWS MKS MKM LK MU DEL LENM APP CPY BTS Call CallV
theorem rdr_iff {h:Hp}:Own h (rdr rd bs::C)↔∃v:SV,Own h (pt rd [svV v]::imm (svV v) bs::C):=by
 simp only[rdr,own_ex,all2]
theorem k_take [f:Foc C (.b rd) (rdr rd bs) u] (H:Own w.hp C) (hn:n≤100000) (h:∀t w',Own w'.hp (sle t u8E (tk n bs)::u (rdr rd (bs.drop n)))→R t w'):Call Pg 81 #[ptrV rd,.int .i64 n] w R:=by
 obtain⟨v,H⟩:=rdr_iff.1 (f.get H)
 refine c_81 ?_
 simp only[F_81]
 refine MKSo (k1:=.i64) (k2:=.i64) (m:=n) (c:=n) u8E (0:UInt8) H rfl (Nat.le_refl _) (by omega) (by decide) fun t w H=>?_
 (repeat first |refine L1o H rfl ?_ |refine Oc ?_)
 refine CPYo (v:=t) (x:=svV v) (w:=w.drew) H fun w H=>?_
 rw[List.length_replicate,List.drop_replicate] at H
 have H:Own w.hp (sle t u8E (tk n bs)::_):=H
 refine⟨L1o H rfl rfl,?_⟩
 refine imslc (v:=svV v) (kd:=.i64) (i:=min bs.length (List.replicate n (0:UInt8)).length) H (by rw[List.length_replicate];omega) fun v' H=>?_
 have e:bs.drop (min bs.length (List.replicate n (0:UInt8)).length)=bs.drop n:=by
  rw[List.length_replicate]
  rcases Nat.le_total bs.length n with h1 |h1
  ·rw[Nat.min_eq_left h1,List.drop_eq_nil_of_le (Nat.le_refl _),List.drop_eq_nil_of_le h1]
  ·rw[Nat.min_eq_right h1]
 rw[e] at H
 refine Ob ?_
 refine S1o H rfl rfl fun w H=>?_
 exact h t w (f.put1 (Own.bk1 (rdr_iff.2 ⟨v',H.mv2.mv2⟩)))
theorem shl8 {x:Nat} (hx:x<1099511627776):IntKind.i64.wrap ((x:Int) * 2^min 8 IntKind.i64.bits)=((x * 256:Nat):Int):=by
 have e:min 8 IntKind.i64.bits=8:=by decide
 rw[e,i64_in _ (by omega)]
 simp
theorem or8 {x:Nat} {b:UInt8} (hx:x<1099511627776):bitI .or .i64 ((x * 256:Nat):Int) ((b.toNat:Nat):Int)=((x * 256+b.toNat:Nat):Int):=by
 have hb:b.toNat<256:=b.toNat_lt
 rw[(bitI_nat (k:=.i64) (a:=x * 256) (b:=b.toNat) (by show _<2^64;omega) (by show _<2^64;omega)).2.1]
 have e:x * 256 ||| b.toNat=x * 256+b.toNat:=by
  have :=Nat.two_pow_add_eq_or_of_lt (i:=8) hb x
  rw[Nat.mul_comm x 256]
  exact this.symm
 rw[e,i64_in _ (by omega)]
theorem numL_lt:∀(l:List UInt8) (x k:Nat),x<256^k→l.foldl (fun x b=>x * 256+b.toNat) x<256^(k+l.length)
 |[],x,k,h=>h
 |b::l,x,k,h=>by
  have hb:b.toNat<256:=b.toNat_lt
  have :=numL_lt l (x * 256+b.toNat) (k+1) (by rw[Nat.pow_succ];omega)
  rw[List.length_cons,show k+(l.length+1)=k+1+l.length by omega]
  exact this
theorem numL_tk (n:Nat) (bs:List UInt8):numL (tk n bs)<256^n:=by
 have :=numL_lt (tk n bs) 0 0 (by simp)
 rwa[tk_len,Nat.zero_add] at this
theorem k_number [f:Foc C (.b rd) (rdr rd bs) u] (H:Own w.hp C) (hn:n≤3) (h:∀w',Own w'.hp (u (rdr rd (bs.drop n)))→R (.int .i64 (numL (tk n bs):Nat)) w'):Call Pg 38 #[ptrV rd,.int .i64 n] w R:=by
 refine c_38 ?_
 simp only[F_38]
 refine k_take (rd:=rd) H (by omega) fun t w H=>?_
 rw[leno (v:=t) H]
 refine Ob ?_
 have h:=h w H.drop
 have hlen:=tk_len n bs
 generalize hl:tk n bs=l at H hlen h
 clear hl
 have loop:∀(k j x:Nat),j+k=l.length→x<256^j→numL l=(l.drop j).foldl (fun x b=>x * 256+b.toNat) x→B_38_3 R (.int .i64 x) t (.int .i64 l.length) (.int .i64 j) w:=by
  intro k
  induction k with
  |zero=>
   intro j x hj hx he
   rw[List.drop_eq_nil_of_le (by omega)] at he
   refine B_38_3.intro ?_
   simp only[P_38_3]
   refine Ob ?_
   have he:numL l=x:=he
   rw[←he];exact h
  |succ k ih=>
   intro j x hj hx he
   have hlt:j<l.length:=by omega
   rw[List.drop_eq_getElem_cons hlt] at he
   have hb:l[j].toNat<256:=l[j].toNat_lt
   have hx40:x<1099511627776:=Nat.lt_of_lt_of_le hx (Nat.le_trans (Nat.pow_le_pow_right (by decide) (show j≤3 by omega)) (by decide))
   refine B_38_3.intro ?_
   simp only[P_38_3]
   refine Ob ?_
   refine idxo (v:=t) (E:=u8E) H hlt ?_
   refine L1e (v:=t) (E:=u8E) (j:=0) H (List.getElem?_eq_getElem hlt) rfl ?_
   rw[shl8 hx40]
   simp only[u8V]
   have hb2:0≤((l[j].toNat:Nat):Int)∧((l[j].toNat:Nat):Int)≤255:=by omega
   refine Ob ?_
   rw[or8 hx40]
   rw[show((j:Int)+1)=((j+1:Nat):Int) by simp]
   exact ih (j+1) _ (by omega) (by rw[Nat.pow_succ];omega) he
 exact loop l.length 0 0 (by omega) (by simp) rfl
end
end Go.Cub
namespace Go.Cub
open Go Go.Proofs Go.IntWalk
section
variable {w:World} {L:List HP} {u:HP→List HP} {b n:Nat} {cs:List Value} {v:Value}
theorem splice_all {vs:List Value} (h:cs.length=vs.length):splice cs 0 vs=vs:=by simp[splice,h]
theorem SNw [f:Foc L (.b b) (pt b cs) u] {K:World→Prop} {vs:List Value} (H:Own w.hp L) (hn:vs.length=n) (hc:cs.length=n) (hx:∀x∈vs,x.oneCell'=true)
  (hk:∀w',Own w'.hp (u (pt b vs))→K w'):SN n (ptrV b) (.agg vs.toArray) w K:=by
 refine SNo (b:=b) (cs:=cs) H (by simpa[Value.cells] using hn) (by omega) (by simpa[Value.cells] using hx) fun w' H=>hk w' ?_
 have e:(Value.agg vs.toArray).cells.toList=vs:=by simp[Value.cells]
 rw[e,splice_all (by omega)] at H
 exact H
theorem LNw [f:Foc L (.b b) (pt b cs) u] {K:Value→Prop} (H:Own w.hp L) (hc:cs.length=n) (hk:K (.agg cs.toArray)):LN n (ptrV b) w K:=by
 refine LNo (b:=b) H (by omega) ?_
 rw[List.drop_zero,List.take_of_length_le (by omega)]
 exact hk
end
def opC (o:AOp) (v:SV):List Value:=[.int .i64 o.kind,.int .u64 o.ticks,.string o.key,svV v,.int .u64 o.ttl,.int .i64 o.count,.int .i64 o.bytes,.int .i64 o.cur,.int .u64 o.bir]
theorem opC_one (o:AOp) (v:SV):∀x∈opC o v,x.oneCell'=true:=by
 intro x h
 simp[opC] at h
 rcases h with rfl |rfl |rfl |rfl |rfl |rfl |rfl |rfl |rfl<;>rfl
def opE:Enc (AOp×SV):=⟨9,fun y=>opC y.1 y.2,fun _=>rfl,fun x=>opC_one x.1 x.2⟩
def opB (M:List (AOp×SV)):List (SV×List UInt8):=M.map fun y=>(y.2,y.1.val)
abbrev PS:=AOp×List UInt8
def pKey (s:PS):PS:=({s.1 with key:=⟨(tk (numL (tk 1 s.2)%32) (s.2.drop 1)).toArray⟩},(s.2.drop 1).drop (numL (tk 1 s.2)%32))
def pVal (s:PS):PS:=({s.1 with val:=tk (numL (tk 1 s.2)) (s.2.drop 1)},(s.2.drop 1).drop (numL (tk 1 s.2)))
def pTtl (s:PS):PS:=({s.1 with ttl:=numL (tk 2 s.2)},s.2.drop 2)
def pBud (s:PS):PS:=({s.1 with count:=numL (tk 2 s.2),bytes:=numL (tk 3 (s.2.drop 2))},(s.2.drop 2).drop 3)
def pAim (s:PS):PS:=({s.1 with cur:=numL (tk 1 s.2)},s.2.drop 1)
def pBir (s:PS):PS:=({s.1 with bir:=numL (tk 2 s.2)},s.2.drop 2)
abbrev Prt:=FuncId×FuncId×(PS→PS)
def prKey:Prt:=(142,143,pKey)
def prVal:Prt:=(144,145,pVal)
def prTtl:Prt:=(146,147,pTtl)
def prBud:Prt:=(149,150,pBud)
def prAim:Prt:=(151,152,pAim)
def prBir:Prt:=(153,154,pBir)
def prtL:Nat→List Prt
 |1=>[prKey,prVal]
 |2=>[prKey,prVal,prTtl]
 |3=>[prKey]
 |4=>[prKey]
 |5=>[prKey,prTtl]
 |6=>[prKey]
 |8=>[prBud]
 |12=>[prAim]
 |13=>[prAim,prBir]
 |14=>[prAim]
 |_=>[]
def partE:Enc Prt:=⟨2,fun y=>[.func (.func y.1) #[] #[],.func (.func y.2.1) #[] #[]],fun _=>rfl,fun x v h=>by simp at h;rcases h with rfl |rfl<;>rfl⟩
def Part (f:FuncId) (fn:PS→PS):Prop:=∀(w:World) (C:List HP) (rd t4:Nat) (o:AOp) (bs:List UInt8) (v:SV) (K:Value→World→Prop),Own w.hp (rdr rd bs::pt t4 (opC o v)::imm (svV v) o.val::C)→
 (∀w' v',Own w'.hp (rdr rd (fn (o,bs)).2::pt t4 (opC (fn (o,bs)).1 v')::imm (svV v') (fn (o,bs)).1.val::C)→K (.tuple #[]) w')→CallV Pg (.func (.func f) #[] #[]) #[ptrV rd,ptrV t4] w K
section
variable {R:Value→World→Prop} {w:World} {C:List HP} {u u2:HP→List HP} {rd n:Nat} {bs:List UInt8}
attribute [local irreducible] PV CND GRD L1 LN S1 SN NEW NEWS MKS MKM LK MU DEL LENM APP CPY BTS Call CallV
theorem rem32 {x:Nat}:binN .rem (.int .i64 x) (.int .i64 32)=some (.int .i64 (x%32:Nat)):=by
 rw[binN_rem _ _ _ (by decide)];rfl
theorem rem16 {x:Nat}:binN .rem (.int .i64 x) (.int .i64 16)=some (.int .i64 (x%16:Nat)):=by
 rw[binN_rem _ _ _ (by decide)];rfl
theorem num1 (bs:List UInt8):numL (tk 1 bs)<256:=by simpa using numL_tk 1 bs
theorem num2 (bs:List UInt8):numL (tk 2 bs)<65536:=by simpa using numL_tk 2 bs
theorem part_key:Part 142 pKey:=by
 intro w C rd t4 o bs v K H h
 refine callV_fn (Tryz.calOk _ (by rfl)) ?_
 show Call Pg 142 #[ptrV rd,ptrV t4] w _
 refine c_142 ?_
 simp only[F_142]
 refine k_number (n:=1) (rd:=rd) H (by omega) fun w H=>?_
 rw[rem32]
 refine Ob ?_
 refine k_take (rd:=rd) (n:=numL (tk 1 bs)%32) H (by omega) fun t w H=>?_
 have H:=freeze (v:=t) H
 refine BTSo (v:=t) H ?_
 refine Ob ?_
 refine S1o (b:=t4) H rfl rfl fun w H=>?_
 exact h w v H.drop
theorem part_value:Part 144 pVal:=by
 intro w C rd t4 o bs v K H h
 refine callV_fn (Tryz.calOk _ (by rfl)) ?_
 show Call Pg 144 #[ptrV rd,ptrV t4] w _
 refine c_144 ?_
 simp only[F_144]
 have hx:=num1 bs
 refine k_number (n:=1) (rd:=rd) H (by omega) fun w H=>?_
 refine k_take (rd:=rd) (n:=numL (tk 1 bs)) H (by omega) fun t w H=>?_
 have H:=freeze (v:=t) H
 obtain⟨x,rfl⟩:=imm_sv H
 refine Ob ?_
 refine S1o (b:=t4) H rfl rfl fun w H=>?_
 exact h w x H.mv2.mv2.dp3
theorem part_ttl:Part 146 pTtl:=by
 intro w C rd t4 o bs v K H h
 refine callV_fn (Tryz.calOk _ (by rfl)) ?_
 show Call Pg 146 #[ptrV rd,ptrV t4] w _
 refine c_146 ?_
 simp only[F_146]
 have hx:=num2 bs
 refine k_number (n:=2) (rd:=rd) H (by omega) fun w H=>?_
 refine Ob ?_
 refine S1o (b:=t4) H rfl rfl fun w H=>?_
 exact h w v H
theorem part_budgets:Part 149 pBud:=by
 intro w C rd t4 o bs v K H h
 refine callV_fn (Tryz.calOk _ (by rfl)) ?_
 show Call Pg 149 #[ptrV rd,ptrV t4] w _
 refine c_149 ?_
 simp only[F_149]
 refine k_number (n:=2) (rd:=rd) H (by omega) fun w H=>?_
 refine Ob ?_
 refine S1o (b:=t4) H rfl rfl fun w H=>?_
 refine k_number (n:=3) (rd:=rd) H (by omega) fun w H=>?_
 refine Ob ?_
 refine S1o (b:=t4) H rfl rfl fun w H=>?_
 exact h w v H
theorem part_aim:Part 151 pAim:=by
 intro w C rd t4 o bs v K H h
 refine callV_fn (Tryz.calOk _ (by rfl)) ?_
 show Call Pg 151 #[ptrV rd,ptrV t4] w _
 refine c_151 ?_
 simp only[F_151]
 refine k_number (n:=1) (rd:=rd) H (by omega) fun w H=>?_
 refine Ob ?_
 refine S1o (b:=t4) H rfl rfl fun w H=>?_
 exact h w v H
theorem part_birth:Part 153 pBir:=by
 intro w C rd t4 o bs v K H h
 refine callV_fn (Tryz.calOk _ (by rfl)) ?_
 show Call Pg 153 #[ptrV rd,ptrV t4] w _
 refine c_153 ?_
 simp only[F_153]
 have hx:=num2 bs
 refine k_number (n:=2) (rd:=rd) H (by omega) fun w H=>?_
 refine Ob ?_
 refine S1o (b:=t4) H rfl rfl fun w H=>?_
 exact h w v H
theorem mkp (p:Prt) (H:Own w.hp C) (h:∀w',Own w'.hp C→R (.agg (partE.c p).toArray) w'):
  NEW 93 #[.nilFunc,.nilFunc] w fun t0 w_1=>
   PV (buildV [(0,1),(1,1)] (.agg #[.nilFunc,.nilFunc]) [(0,.func (.func p.1) #[] #[]),(1,.func (.func p.2.1) #[] #[])]) fun t1=>
   SN 2 t0 t1 w_1 fun w_2=>
   LN 2 t0 w_2 fun r0=>
   R r0 w_2:=by
 refine NEWo H fun t0 w H=>?_
 refine PV_of (v:=.agg (partE.c p).toArray) rfl ?_
 refine SNw H rfl rfl (partE.one p) fun w H=>?_
 refine LNw H rfl ?_
 exact h w H.drop
theorem c_pkey (H:Own w.hp C) (h:∀w',Own w'.hp C→R (.agg (partE.c prKey).toArray) w'):Call Pg 82 #[] w R:=by
 refine c_82 ?_
 simp only[F_82]
 exact mkp prKey H h
theorem c_pvalue (H:Own w.hp C) (h:∀w',Own w'.hp C→R (.agg (partE.c prVal).toArray) w'):Call Pg 83 #[] w R:=by
 refine c_83 ?_
 simp only[F_83]
 exact mkp prVal H h
theorem c_pttl (H:Own w.hp C) (h:∀w',Own w'.hp C→R (.agg (partE.c prTtl).toArray) w'):Call Pg 84 #[] w R:=by
 refine c_84 ?_
 simp only[F_84]
 exact mkp prTtl H h
theorem c_pbudgets (H:Own w.hp C) (h:∀w',Own w'.hp C→R (.agg (partE.c prBud).toArray) w'):Call Pg 85 #[] w R:=by
 refine c_85 ?_
 simp only[F_85]
 exact mkp prBud H h
theorem c_paim (H:Own w.hp C) (h:∀w',Own w'.hp C→R (.agg (partE.c prAim).toArray) w'):Call Pg 86 #[] w R:=by
 refine c_86 ?_
 simp only[F_86]
 exact mkp prAim H h
theorem c_pbirth (H:Own w.hp C) (h:∀w',Own w'.hp C→R (.agg (partE.c prBir).toArray) w'):Call Pg 87 #[] w R:=by
 refine c_87 ?_
 simp only[F_87]
 exact mkp prBir H h
theorem kinds_cases {P:Nat→Prop} (h1:P 1) (h2:P 2) (h3:P 3) (h4:P 4) (h5:P 5) (h6:P 6) (h7:P 7) (h8:P 8) (h9:P 9) (h10:P 10) (h11:P 11) (h12:P 12) (h13:P 13) (h14:P 14) {k:Nat} (hk:k∈kindsL):P k:=by
 simp only[kindsL,List.mem_cons,List.mem_nil_iff,or_false] at hk
 rcases hk with rfl |rfl |rfl |rfl |rfl |rfl |rfl |rfl |rfl |rfl |rfl |rfl |rfl |rfl |rfl |rfl<;>assumption
theorem c_parts {k:Nat} (hk:k∈kindsL) (H:Own w.hp C) (h:∀t w',Own w'.hp (sle t partE (prtL k)::C)→R t w'):Call Pg 39 #[.int .i64 k] w R:=by
 revert k
 have nil:∀ {w:World},Own w.hp C→(∀t w',Own w'.hp (sle t partE []::C)→R t w')→R (.slice none 0 0) w:=fun H h=>h _ _ (sl_nil partE H)
 intro k hk
 refine kinds_cases (P:=fun k=>(∀t w',Own w'.hp (sle t partE (prtL k)::C)→R t w')→Call Pg 39 #[.int .i64 k] w R) ?_ ?_ ?_ ?_ ?_ ?_ ?_ ?_ ?_ ?_ ?_ ?_ ?_ ?_ hk<;>intro h<;>refine c_39 ?_<;>simp only[F_39]<;>simp(disch:=omega) only[wp,wc]
 ·refine c_pkey H fun w H=>?_
  refine c_pvalue H fun w H=>?_
  exact NEWSo partE [prKey,prVal] H (cs:=_) rfl rfl rfl h
 ·refine c_pkey H fun w H=>?_
  refine c_pvalue H fun w H=>?_
  refine c_pttl H fun w H=>?_
  exact NEWSo partE [prKey,prVal,prTtl] H (cs:=_) rfl rfl rfl h
 ·refine c_pkey H fun w H=>?_
  exact NEWSo partE [prKey] H (cs:=_) rfl rfl rfl h
 ·refine c_pkey H fun w H=>?_
  exact NEWSo partE [prKey] H (cs:=_) rfl rfl rfl h
 ·refine c_pkey H fun w H=>?_
  refine c_pttl H fun w H=>?_
  exact NEWSo partE [prKey,prTtl] H (cs:=_) rfl rfl rfl h
 ·refine c_pkey H fun w H=>?_
  exact NEWSo partE [prKey] H (cs:=_) rfl rfl rfl h
 ·exact nil H h
 ·refine c_pbudgets H fun w H=>?_
  exact NEWSo partE [prBud] H (cs:=_) rfl rfl rfl h
 ·exact nil H h
 ·exact nil H h
 ·exact nil H h
 ·refine c_paim H fun w H=>?_
  exact NEWSo partE [prAim] H (cs:=_) rfl rfl rfl h
 ·refine c_paim H fun w H=>?_
  refine c_pbirth H fun w H=>?_
  exact NEWSo partE [prAim,prBir] H (cs:=_) rfl rfl rfl h
 ·refine c_paim H fun w H=>?_
  exact NEWSo partE [prAim] H (cs:=_) rfl rfl rfl h
theorem prtL_ok (k:Nat):∀p∈prtL k,Part p.1 p.2.2:=by
 have h1:Part prKey.1 prKey.2.2:=part_key
 have h2:Part prVal.1 prVal.2.2:=part_value
 have h3:Part prTtl.1 prTtl.2.2:=part_ttl
 have h4:Part prBud.1 prBud.2.2:=part_budgets
 have h5:Part prAim.1 prAim.2.2:=part_aim
 have h6:Part prBir.1 prBir.2.2:=part_birth
 intro p hp
 unfold prtL at hp
 split at hp<;>simp only[List.mem_cons,List.not_mem_nil,or_false] at hp<;>first |exact hp.elim |skip
 all_goals first |(subst hp;assumption) |(rcases hp with rfl |rfl |rfl<;>assumption) |(rcases hp with rfl |rfl<;>assumption)
end
end Go.Cub
