/-
  Part 24 of the proof that TopNested returns true and leaves what it was given as it was. CONDITIONS: those of the given row and card.
-/
import Derived.Test.YtpelalpajdpkgaaGreatDoorZ22
set_option linter.all false
namespace Go.Cub
open Go Go.Proofs Go.IntWalk
structure Grp where
 cs:List Nat
 sl:Nat→Nat
def grE:Enc Grp:=⟨9,fun g=>.int .u64 (wd g.cs)::(List.range 8).map fun i=>.int .u32 (g.sl i),fun _=>by simp,fun x v h=>by
 simp only[List.mem_cons,List.mem_map,List.mem_range] at h
 rcases h with rfl |⟨i,_,rfl⟩<;>rfl⟩
def Cell (gs:List Grp) (g l t s:Nat):Prop:=∃gr,gs[g]?=some gr∧gr.cs[l]?=some t∧t<128∧gr.sl l=s
def NoE (gs:List Grp) (g:Nat):Prop:=∀gr,gs[g]?=some gr→128∉gr.cs
def fullN (gr:Grp):Nat:=(gr.cs.filter fun c=>decide (c<128)).length
def tombN (gr:Grp):Nat:=(gr.cs.filter fun c=>decide (c=254)).length
structure IxOk (k:Nat) (gs:List Grp) (S:List (Nat×Nat)) (T:Nat):Prop where
 hk:k≤20
 len:gs.length=2^k
 ok:∀gr∈gs,OkW gr.cs
 nd:(S.map (·.2)).Nodup
 sum:∀x∈S,x.1<18446744073709551616
 has:∀x∈S,∃i,i<2^k∧(∃l,Cell gs (pat (x.1/128) k i) l (x.1%128) x.2)∧∀j,j<i→NoE gs (pat (x.1/128) k j)
 cell:∀g l t s,Cell gs g l t s→∃x∈S,x.2=s∧x.1%128=t
 uniq:∀g l t s g' l' t',Cell gs g l t s→Cell gs g' l' t' s→g=g'∧l=l'
 cnt:(gs.map fullN).sum=S.length
 tomb:(gs.map tombN).sum=T
def six (p k:Nat) (S:List (Nat×Nat)):HP:=.ex fun gs=>.ex fun T=>.ex fun s=>.all [.pu (IxOk k gs S T),pt p [s,.int .i64 S.length,.int .i64 (T:Nat)],sle s grE gs]
instance {p k:Nat} {S:List (Nat×Nat)}:Keyed (six p k S) (.b p):=⟨⟩
def Same (B:HP) (fv:Value) (S:List (Nat×Nat)) (P:Nat→Bool):Prop:=
 ∀x∈S,∀w X,Own w.hp (B::X)→CallV Pg fv #[.int .u32 x.2] w fun v w'=>v=.bool (P x.2)∧Own w'.hp (B::X)
theorem emptyS_zero {cs:List Nat} (hl:cs.length=8):emptyS cs=0↔128∉cs:=by
 rw[emptyS,mset_zero hl]
 constructor
 ·intro h hm
  have :=h 128 hm
  simp at this
 ·intro h c hc
  simp only[beq_eq_false_iff_ne,ne_eq]
  rintro rfl
  exact h hc
section
variable {R:Value→World→Prop} {w:World} {C:List HP} {u:HP→List HP} {p k T sum:Nat} {S:List (Nat×Nat)} {gs:List Grp} {s fv:Value} {P:Nat→Bool} {B:HP}
attribute [local irreducible] PV CND GRD L1 LN S1 SN NEW NEWS MKS MKM LK MU DEL LENM APP CPY BTS Call CallV
theorem six_iff {h:Hp}:Own h (six p k S::C)↔∃gs T s,IxOk k gs S T∧Own h (pt p [s,.int .i64 S.length,.int .i64 (T:Nat)]::sle s grE gs::C):=by
 simp only[six,own_ex,all3,own_pu]
theorem pat_lt (part k i:Nat):pat part k i<2^k:=Nat.mod_lt _ (Nat.two_pow_pos k)
def Miss (gs:List Grp) (k sum:Nat) (P:Nat→Bool) (j:Nat):Prop:=
 (∀l t s,Cell gs (pat (sum/128) k j) l t s→t=sum%128→P s=false)
theorem miss_all (hx:IxOk k gs S T) (hP:∀x∈S,P x.2=true→x.1=sum) {i:Nat} (hi:i≤2^k) (hm:∀j,j<i→Miss gs k sum P j) (hend:i=2^k∨∃j,j<i∧¬NoE gs (pat (sum/128) k j)):∀x∈S,P x.2=false:=by
 intro x hxS
 cases hp:P x.2 with
 |false=>rfl
 |true=>
  have hs:=hP x hxS hp
  obtain⟨i',h1,⟨l,h2⟩,h3⟩:=hx.has x hxS
  rw[hs] at h2 h3
  have hi':i'<i:=by
   rcases hend with rfl |⟨j,hj,hn⟩
   ·exact h1
   ·rcases Nat.lt_or_ge i' i with h |h
    ·exact h
    ·exact absurd (h3 j (by omega)) hn
  have :=hm i' hi' l _ _ h2 rfl
  rw[hp] at this;cases this
def fFound (gs:List Grp) (sum:Nat) (P:Nat→Bool) (g l:Nat):Prop:=∃s,Cell gs g l (sum%128) s∧P s=true
def fRes (s:Value):Option (Nat×Nat)→Value×Nat
 |some (g,l)=>(elp 9 s g 0,l)
 |none=>(nilP,0)
theorem six_find_in {l t12 g tw sum:Nat} {r:Loop} {t3 t4 t5 t6 t7 t8:Nat} {PR X:HP} {K:Option Code→List Deferred→World→Prop} {n Tt:Int} {gr:Grp} (hx:IxOk k gs S T) (hsame:Same B fv S P) (hgr:gs[g]?=some gr) (hs:sum<18446744073709551616)
  (H:Own w.hp [pt tw [.int .u8 (mset (fun c=>c==sum%128) gr.cs)],lp l r,PR,X,pt t12 [elp 9 s g 0],pt t6 [nilP],pt t7 [.int .i64 0],pt t8 [.int .i64 0],pt t3 [ptrV p],pt t4 [.int .u64 sum],pt t5 [fv],pt p [s,.int .i64 n,.int .i64 Tt],sle s grE gs,B])
  (h1:∀w,(∀l t s,Cell gs g l t s→t=sum%128→P s=false)→Own w.hp [lp l r,PR,X,pt t12 [elp 9 s g 0],pt t6 [nilP],pt t7 [.int .i64 0],pt t8 [.int .i64 0],pt t3 [ptrV p],pt t4 [.int .u64 sum],pt t5 [fv],pt p [s,.int .i64 n,.int .i64 Tt],sle s grE gs,B]→K none [] w)
  (h2:∀w l',fFound gs sum P g l'→Own w.hp [lp l r,PR,X,pt t6 [elp 9 s g 0],pt t7 [.int .i64 (l':Nat)],pt t8 [.int .i64 0],pt t3 [ptrV p],pt t4 [.int .u64 sum],pt t5 [fv],pt p [s,.int .i64 n,.int .i64 Tt],sle s grE gs,B]→K (some .ret) [] w):
  RF Pg 232 (some l) 58 [(5,ptrV t5),(6,ptrV t6),(7,ptrV t7),(8,ptrV t8),(12,ptrV t12)] (.func (.func 330) #[] #[ptrV tw]) par_232_7 as_232_7 bd_232_7 ([]) w K:=by
 have hok:=hx.ok gr (List.mem_of_getElem? hgr)
 have hms:=mset_lt (p:=fun c=>c==sum%128) hok.1
 have hl0:w.heap[l]?=some (.loop r):=Own.lp H.mv1
 refine RFo2 (fun i=>.all [.pu (∀l'∈(lanes (mset (fun c=>c==sum%128) gr.cs)).take i,P (gr.sl l')=false),lp l r,PR,X,pt t12 [elp 9 s g 0],pt t6 [nilP],pt t7 [.int .i64 0],pt t8 [.int .i64 0],pt t3 [ptrV p],pt t4 [.int .u64 sum],pt t5 [fv],pt p [s,.int .i64 n,.int .i64 Tt],sle s grE gs,B])
  (fun j=>.ex fun l'=>.all [.pu (j=.ret∧fFound gs sum P g l'),lp l r,PR,X,pt t6 [elp 9 s g 0],pt t7 [.int .i64 (l':Nat)],pt t8 [.int .i64 0],pt t3 [ptrV p],pt t4 [.int .u64 sum],pt t5 [fv],pt p [s,.int .i64 n,.int .i64 Tt],sle s grE gs,B])
  (iter_word hms) ?_ hl0 ?_ ?_ ?_
 ·exact(all14.2 (own_pu.2 ⟨by simp,H.mv13.mv13.mv13.mv13.mv13.mv13.mv13.mv13.mv13.mv13.mv13.mv13.mv13⟩)).mv1
 ·intro l2 i x hxi r2 w X2 hrd hst H
  rw[List.getElem?_map,Option.map_eq_some_iff] at hxi
  obtain⟨la,hla,rfl⟩:=hxi
  obtain⟨c,hc,hcb⟩:=(mem_lanes hok.1).1 (List.mem_of_getElem? hla)
  have hcb:c=sum%128:=by simpa using hcb
  have hla8:la<8:=by have :=lt_of_get hc;rw[hok.1] at this;exact this
  have hcell:Cell gs g la (sum%128) (gr.sl la):=⟨gr,hgr,by rw[hc,hcb],Nat.mod_lt _ (by decide),rfl⟩
  obtain⟨x,hxS,hx2,_⟩:=hx.cell _ _ _ _ hcell
  refine y_232_7 H.lp hrd.fn hrd.params hrd.aq hrd.body hrd.size hrd.live ?_
  simp only[D_232_7]
  refine BRo H hst fun w H=>?_
  have H:=all14.1 H.mv2
  obtain⟨hpu,H⟩:=own_pu.1 H
  (repeat first |refine L1o H rfl ?_ |refine Oc ?_)
  refine L1e (E:=grE) (v:=s) H hgr (j:=1+la * 1) (z:=.int .u32 (gr.sl la)) ?_ ?_
  ·simp only[grE,Nat.mul_one,Nat.add_comm 1 la,List.getElem?_cons_succ,List.getElem?_map,List.getElem?_range hla8];rfl
  rw[←hx2]
  refine CallV.mono (hsame x hxS w.drew _ H.mv15.mv15.mv15.mv14.mv14.mv14.mv14.mv14.mv14.mv14.mv14.mv14.mv14.mv14.mv14.mv15) ?_
  rintro v w' ⟨rfl,H⟩
  have H:=H.mv12.mv12.mv12.mv12.mv12.mv12.mv12.mv12.mv12.mv12.mv12.mv12.mv15.mv15.mv15
  cases hp:P x.2 with
  |true=>
   (repeat first |refine L1o H rfl ?_ |refine Oc ?_)
   refine S1o H rfl rfl fun w H=>?_
   (repeat first |refine L1o H rfl ?_ |refine Oc ?_)
   refine S1o H rfl rfl fun w H=>?_
   (repeat first |refine L1o H rfl ?_ |refine Oc ?_)
   refine S1o H rfl rfl fun w H=>?_
   have H:=H.mv2.mv1.mv15.mv15.mv15.mv15.mv15.mv15.mv15.mv15.mv15.mv14.mv14.mv14.dp14.dp14
   refine ERj hrd (Own.mv1 (own_ex.2 ⟨la,all13.2 (own_pu.2 ⟨⟨rfl,gr.sl la,hcell,by rw[←hx2];exact hp⟩,H⟩)⟩))
  |false=>
   refine Ob ?_
   have H:=H.mv2.mv2.mv2.mv15.mv15.mv15.mv15.mv15.mv15.mv15.mv15.mv15.mv15.mv15.mv15.mv15
   refine ERn hrd (Own.bk2 (all14.2 (own_pu.2 ⟨?_,H⟩)))
   intro l' hl'
   rw[List.take_add_one,hla] at hl'
   rcases List.mem_append.1 hl' with h |h
   ·exact hpu l' h
   ·simp only[Option.toList_some,List.mem_singleton] at h
    rw[h, ←hx2];exact hp
 ·intro w H
  have H:=all14.1 H.mv1
  obtain⟨hpu,H⟩:=own_pu.1 H
  rw[List.length_map,List.take_length] at hpu
  refine h1 w ?_ H.mv12.mv12.mv12.mv12.mv12.mv12.mv12.mv12.mv12.mv12.mv12.mv12.mv12.dp13
  rintro la t sl ⟨gr',e1,e2,e3,rfl⟩ rfl
  rw[hgr] at e1
  obtain rfl:=Option.some.inj e1
  exact hpu la ((mem_lanes hok.1).2 ⟨_,e2,by simp⟩)
 ·intro j w H
  obtain⟨l',H⟩:=own_ex.1 H
  obtain⟨⟨e,hf⟩,H2⟩:=own_pu.1 (all13.1 H)
  subst e
  exact h2 w l' hf H2
theorem JMP_exit {kn kr:Prop} {ke:Nat→Prop} {i:Nat} (h:ke i):JMP (some (.exit i)) kn ke kr:=h
theorem exM_eq {i:Nat} {A B:Prop} (h:A):exM i i A B:=by
 unfold exM
 rw[Nat.beq_refl]
 exact h
theorem c_six_find {n Tt:Int} (hfv:fv.cells=#[fv]) (hx:IxOk k gs S T) (hsame:Same B fv S P) (hs:sum<18446744073709551616) (hP:∀x∈S,P x.2=true→x.1=sum)
  (H:Own w.hp [pt p [s,.int .i64 n,.int .i64 Tt],sle s grE gs,B])
  (h1:∀w',(∀x∈S,P x.2=false)→Own w'.hp [pt p [s,.int .i64 n,.int .i64 Tt],sle s grE gs,B]→R (.tuple #[nilP,.int .i64 0,.int .i64 9]) w')
  (h2:∀w' g l,fFound gs sum P g l→Own w'.hp [pt p [s,.int .i64 n,.int .i64 Tt],sle s grE gs,B]→R (.tuple #[elp 9 s g 0,.int .i64 (l:Nat),.int .i64 0]) w'):
  Call Pg 232 #[ptrV p,.int .u64 sum,fv] w R:=by
 refine c_232 ?_
 simp only[F_232]
 refine NEWo H fun t3 w H=>?_
 refine NEWo H fun t4 w H=>?_
 refine NEWo H fun t5 w H=>?_
 refine NEWo H fun t6 w H=>?_
 refine NEWo H fun t7 w H=>?_
 refine NEWo H fun t8 w H=>?_
 rw[hfv] at H
 have H:Own w.hp [pt t8 [.int .i64 0],pt t7 [.int .i64 0],pt t6 [nilP],pt t5 [fv],pt t4 [.int .u64 sum],pt t3 [ptrV p],pt p [s,.int .i64 n,.int .i64 Tt],sle s grE gs,B]:=H
 have hl:=leno (v:=s) H
 rw[hx.len] at hl
 (repeat first |refine L1o H rfl ?_ |refine Oc ?_)
 rw[hl]
 refine Ob ?_
 refine c_hash_Part hs ?_
 refine⟨L1o (w:=w.drew) H rfl rfl,?_⟩
 refine⟨L1o (w:=w.drew) H rfl rfl,?_⟩
 refine c_probe_All (k:=k) (w:=w.drew) rfl hx.hk H fun a1 a2 a3 w H=>?_
 refine Ob ?_
 have hp:sum/128<18446744073709551616:=Nat.lt_of_le_of_lt (Nat.div_le_self _ _) hs
 refine RFo (fun i=>.all [.pu (∀j,j<i→Miss gs k sum P j),pt t6 [nilP],pt t7 [.int .i64 0],pt t8 [.int .i64 0],pt t3 [ptrV p],pt t4 [.int .u64 sum],pt t5 [fv],pt p [s,.int .i64 n,.int .i64 Tt],sle s grE gs,B])
  (fun j=>.ex fun z:Option (Nat×Nat)=>.all [.pu (match z with |some (g,l)=>j=.ret∧fFound gs sum P g l |none=>j=.exit 0∧∀x∈S,P x.2=false),pt t6 [(fRes s z).1],pt t7 [.int .i64 ((fRes s z).2:Nat)],pt t8 [.int .i64 0],pt t3 [ptrV p],pt t4 [.int .u64 sum],pt t5 [fv],pt p [s,.int .i64 n,.int .i64 Tt],sle s grE gs,B])
  (iter_probe (k:=k) rfl hx.hk hp) ?_ ?_ ?_ ?_
 ·exact(all10.2 (own_pu.2 ⟨by simp,H.mv9.mv9.mv9.mv7.mv8.mv9.mv7.mv8.mv9⟩)).mv1
 ·intro l i x hxi r w X hrd hst H
  rw[List.getElem?_map,Option.map_eq_some_iff] at hxi
  obtain⟨i',hi',rfl⟩:=hxi
  have hik:i<2^k:=by simpa using lt_of_get hi'
  rw[List.getElem?_range hik] at hi'
  obtain rfl:=Option.some.inj hi'
  have hgl:pat (sum/128) k i<gs.length:=by rw[hx.len];exact pat_lt _ _ _
  have hgr:gs[pat (sum/128) k i]?=some gs[pat (sum/128) k i]:=List.getElem?_eq_getElem hgl
  generalize hgg:gs[pat (sum/128) k i]=gr at hgr
  have hok:=hx.ok gr (List.mem_of_getElem? hgr)
  have ht:sum%128<128:=Nat.mod_lt _ (by decide)
  refine y_232_4 H.lp hrd.fn hrd.params hrd.aq hrd.body hrd.size hrd.live ?_
  simp only[D_232_4]
  refine BRo H hst fun w H=>?_
  have H:=all10.1 H.mv2
  obtain⟨hpu,H⟩:=own_pu.1 H
  (repeat first |refine L1o H rfl ?_ |refine Oc ?_)
  refine idxo (v:=s) (E:=grE) H hgl ?_
  refine NEWo H fun t12 w H=>?_
  refine S1o H rfl rfl fun w H=>?_
  have H:Own w.hp (pt t12 [elp 9 s (pat (sum/128) k i) 0]::_):=H
  (repeat first |refine L1o H rfl ?_ |refine Oc ?_)
  refine L1e (v:=s) (E:=grE) (j:=0) H hgr rfl ?_
  (repeat first |refine L1o H rfl ?_ |refine Oc ?_)
  refine c_hash_Tag hs ?_
  refine⟨L1e (v:=s) (E:=grE) (w:=w.drew) (j:=0) H hgr rfl rfl,?_⟩
  refine⟨L1o (w:=w.drew) H rfl rfl,?_⟩
  refine c_ctl_Match hok.1 hok.by_ ht ?_
  refine c_word_All (w:=w.drew) (mset_lt hok.1) H fun tw w H=>?_
  refine six_find_in hx hsame hgr hs H.mv10.mv10.mv10.mv10.mv10.mv10.mv10.mv10.mv10.mv10.mv13.mv13.mv13.mv13 ?_ ?_
  ·intro w hm H
   refine JMP_none ?_
   have hmi:∀j,j<i+1→Miss gs k sum P j:=by
    intro j hj
    by_cases e:j=i
    ·subst e;exact hm
    ·exact hpu j (by omega)
   (repeat first |refine L1o H rfl ?_ |refine Oc ?_)
   refine L1e (v:=s) (E:=grE) (j:=0) H hgr rfl ?_
   refine c_Empties hok.1 hok.by_ ?_
   by_cases he:emptyS gr.cs=0
   ·rw[he]
    refine Ob ?_
    refine ERn hrd (Own.bk2 (all10.2 (own_pu.2 ⟨hmi,H.mv2.mv2.mv2.mv12.mv12.mv12.mv12.mv12.mv12.mv12.mv12.mv12.dp12⟩)))
   ·have :=mset_lt (p:=fun c=>c==128) hok.1
    refine Ob ?_
    have hne:¬NoE gs (pat (sum/128) k i):=fun h=>he ((emptyS_zero hok.1).2 (h gr hgr))
    refine ERj hrd (Own.mv1 (own_ex.2 ⟨none,all10.2 (own_pu.2 ⟨⟨rfl,miss_all hx hP (i:=i+1) hik hmi (.inr ⟨i,by omega,hne⟩)⟩,H.mv2.mv1.mv12.mv12.mv12.mv12.mv12.mv12.mv12.mv12.mv12.dp11.dp11⟩)⟩))
  ·intro w l' hf H
   refine JMP_ret ?_
   refine ERj hrd (Own.mv1 (own_ex.2 ⟨some (pat (sum/128) k i,l'),all10.2 (own_pu.2 ⟨⟨rfl,hf⟩,H.mv2.mv1.mv11.mv11.mv11.mv11.mv11.mv11.mv11.mv11.mv11.dp11⟩)⟩))
 ·intro d w H
  refine JMP_none ?_
  have H:=all10.1 H.mv2
  obtain⟨hpu,H⟩:=own_pu.1 H
  rw[List.length_map,List.length_range] at hpu
  refine S1o H rfl rfl fun w H=>?_
  refine S1o H rfl rfl fun w H=>?_
  refine S1o H rfl rfl fun w H=>?_
  refine RETo H fun w H=>RET_nil ?_
  (repeat first |refine L1o H rfl ?_ |refine Oc ?_)
  exact h1 w (miss_all hx hP (Nat.le_refl _) hpu (.inl rfl)) H.mv8.mv8.mv8.dp3.dp3.dp3.dp3.dp3.dp3.dp3.dp3
 ·intro j d w H
  obtain⟨z,H⟩:=own_ex.1 H.mv1
  obtain⟨hz,H⟩:=own_pu.1 (all10.1 H)
  match z,hz,H with
  |none,⟨e,hz1⟩,H1=>
   subst e
   have hz:=hz1
   have H:=H1
   refine JMP_exit (exM_eq ?_)
   refine S1o H rfl rfl fun w H=>?_
   refine S1o H rfl rfl fun w H=>?_
   refine S1o H rfl rfl fun w H=>?_
   refine RETo H fun w H=>RET_nil ?_
   (repeat first |refine L1o H rfl ?_ |refine Oc ?_)
   exact h1 w hz H.mv8.mv8.mv8.dp3.dp3.dp3.dp3.dp3.dp3.dp3
  |some (g,l'),⟨e,hz1⟩,H1=>
   subst e
   have hz:=hz1
   have H:=H1
   refine JMP_ret ?_
   refine RETo H fun w H=>RET_nil ?_
   (repeat first |refine L1o H rfl ?_ |refine Oc ?_)
   exact h2 w g l' hz H.mv8.mv8.mv8.dp3.dp3.dp3.dp3.dp3.dp3.dp3
end
end Go.Cub
namespace Go.Cub
theorem cnt_set {α:Type} (p:α→Bool) {y:α}:∀ {xs:List α} {i:Nat} {x:α},xs[i]?=some x→((xs.set i y).filter p).length+(if p x then 1 else 0)=(xs.filter p).length+(if p y then 1 else 0)
 |[],i,x,h=>by simp at h
 |a::xs,0,x,h=>by
  simp only[List.getElem?_cons_zero,Option.some.injEq] at h
  subst h
  simp only[List.set_cons_zero,List.filter_cons]
  by_cases h1:p a<;>by_cases h2:p y<;>simp[h1,h2]
 |a::xs,i+1,x,h=>by
  have ih:=cnt_set p (y:=y) (xs:=xs) (i:=i) (x:=x) (by simpa using h)
  simp only[List.set_cons_succ,List.filter_cons]
  by_cases h1:p a<;>simp[h1]<;>omega
theorem sum_set {α:Type} (f:α→Nat) {y:α}:∀ {xs:List α} {i:Nat} {x:α},xs[i]?=some x→((xs.set i y).map f).sum+f x=(xs.map f).sum+f y
 |[],i,x,h=>by simp at h
 |a::xs,0,x,h=>by
  simp only[List.getElem?_cons_zero,Option.some.injEq] at h
  subst h
  simp only[List.set_cons_zero,List.map_cons,List.sum_cons];omega
 |a::xs,i+1,x,h=>by
  have ih:=sum_set f (y:=y) (xs:=xs) (i:=i) (x:=x) (by simpa using h)
  simp only[List.set_cons_succ,List.map_cons,List.sum_cons];omega
def putG (gr:Grp) (l c s:Nat):Grp:=⟨gr.cs.set l c,fun j=>if j=l then s else gr.sl j⟩
section
variable {k T sum slot g l c:Nat} {S:List (Nat×Nat)} {gs:List Grp} {gr:Grp}
theorem cell_put (hg:gs[g]?=some gr) (hl:gr.cs[l]?=some c) {c' s' g1 l1 t s:Nat}:Cell (gs.set g (putG gr l c' s')) g1 l1 t s↔(g1=g∧l1=l∧t=c'∧c'<128∧s=s')∨(¬(g1=g∧l1=l)∧Cell gs g1 l1 t s):=by
 have hgl:=Go.Cub.lt_of_get hg
 have hll:=Go.Cub.lt_of_get hl
 unfold Cell
 by_cases h1:g1=g
 ·subst h1
  simp only[List.getElem?_set_self hgl,Option.some.injEq,exists_eq_left']
  by_cases h2:l1=l
  ·subst h2
   simp only[putG,List.getElem?_set_self hll,Option.some.injEq,if_true]
   constructor
   ·rintro⟨rfl,h,rfl⟩
    exact .inl ⟨trivial,trivial,rfl,h,rfl⟩
   ·rintro(⟨_,_,rfl,h,rfl⟩ |⟨h,_⟩)
    ·exact⟨rfl,h,rfl⟩
    ·exact absurd ⟨trivial,trivial⟩ h
  ·simp only[putG,List.getElem?_set_ne (Ne.symm h2),if_neg h2,hg,Option.some.injEq,exists_eq_left']
   constructor
   ·exact fun h=>.inr ⟨fun e=>h2 e.2,h⟩
   ·rintro(⟨_,e,_⟩ |⟨_,h⟩)
    ·exact absurd e h2
    ·exact h
 ·rw[List.getElem?_set_ne (Ne.symm h1)]
  constructor
  ·exact fun h=>.inr ⟨fun e=>h1 e.1,h⟩
  ·rintro(⟨e,_⟩ |⟨_,h⟩)
   ·exact absurd e h1
   ·exact h
theorem noE_put (hg:gs[g]?=some gr) {c' s' g1:Nat} (hc:c'≠128∨128∈gr.cs) (h:NoE gs g1):NoE (gs.set g (putG gr l c' s')) g1:=by
 have hgl:=Go.Cub.lt_of_get hg
 intro gr1 e
 by_cases h1:g1=g
 ·subst h1
  rw[List.getElem?_set_self hgl] at e
  obtain rfl:=Option.some.inj e
  have h2:=h gr hg
  have hc:c'≠128:=by
   rcases hc with h |h
   ·exact h
   ·exact absurd h h2
  intro hm
  rcases List.mem_or_eq_of_mem_set hm with hm |hm
  ·exact h2 hm
  ·exact hc hm.symm
 ·rw[List.getElem?_set_ne (Ne.symm h1)] at e
  exact h gr1 e
theorem fullN_put (hl:gr.cs[l]?=some c) {c' s':Nat}:fullN (putG gr l c' s')+(if c<128 then 1 else 0)=fullN gr+(if c'<128 then 1 else 0):=by
 have :=cnt_set (fun c=>decide (c<128)) (y:=c') hl
 simpa[fullN,putG] using this
theorem tombN_put (hl:gr.cs[l]?=some c) {c' s':Nat}:tombN (putG gr l c' s')+(if c=254 then 1 else 0)=tombN gr+(if c'=254 then 1 else 0):=by
 have :=cnt_set (fun c=>decide (c=254)) (y:=c') hl
 simpa[tombN,putG] using this
theorem not_cell (hg:gs[g]?=some gr) (hl:gr.cs[l]?=some c) (hc:128≤c) {t s:Nat}:¬Cell gs g l t s:=by
 rintro⟨gr',e1,e2,e3,_⟩
 rw[hg] at e1
 obtain rfl:=Option.some.inj e1
 rw[hl] at e2
 obtain rfl:=Option.some.inj e2
 omega
theorem ix_insert (hx:IxOk k gs S T) (hs:sum<18446744073709551616) (hn:slot∉S.map (·.2)) {i:Nat} (hi:i<2^k) (hg:gs[pat (sum/128) k i]?=some gr) (hl:gr.cs[l]?=some c) (hc:c=128∨c=254) (hE:∀j,j<i→NoE gs (pat (sum/128) k j)):
  IxOk k (gs.set (pat (sum/128) k i) (putG gr l (sum%128) slot)) ((sum,slot)::S) (T - if c=254 then 1 else 0):=by
 have ht:sum%128<128:=Nat.mod_lt _ (by decide)
 have hnc:∀t s,¬Cell gs (pat (sum/128) k i) l t s:=fun t s=>not_cell hg hl (by omega)
 have hne:(sum%128≠128∨128∈gr.cs):=.inl (by omega)
 have keep:∀g1 l1 t s,Cell gs g1 l1 t s→Cell (gs.set (pat (sum/128) k i) (putG gr l (sum%128) slot)) g1 l1 t s:=fun g1 l1 t s h=>
  (cell_put hg hl).2 (.inr ⟨fun e=>by obtain⟨rfl,rfl⟩:=e;exact hnc _ _ h,h⟩)
 refine {hk:=hx.hk,len:=by simpa using hx.len,ok:=?_,nd:=?_,sum:=?_,has:=?_,cell:=?_,uniq:=?_,cnt:=?_,tomb:=?_}
 ·intro gr' hm
  rcases List.mem_or_eq_of_mem_set hm with hm |rfl
  ·exact hx.ok gr' hm
  ·exact(hx.ok gr (List.mem_of_getElem? hg)).set (.inl ht)
 ·simp only[List.map_cons,List.nodup_cons]
  exact⟨hn,hx.nd⟩
 ·intro x hm
  rcases List.mem_cons.1 hm with rfl |hm
  ·exact hs
  ·exact hx.sum x hm
 ·intro x hm
  rcases List.mem_cons.1 hm with rfl |hm
  ·exact⟨i,hi,⟨l,(cell_put hg hl).2 (.inl ⟨rfl,rfl,rfl,ht,rfl⟩)⟩,fun j hj=>noE_put hg hne (hE j hj)⟩
  ·obtain⟨i',h1,⟨l',h2⟩,h3⟩:=hx.has x hm
   exact⟨i',h1,⟨l',keep _ _ _ _ h2⟩,fun j hj=>noE_put hg hne (h3 j hj)⟩
 ·intro g1 l1 t s h
  rcases (cell_put hg hl).1 h with ⟨_,_,rfl,_,rfl⟩ |⟨_,h⟩
  ·exact⟨(sum,s),by simp,rfl,rfl⟩
  ·obtain⟨x,h1,h2,h3⟩:=hx.cell _ _ _ _ h
   exact⟨x,by simp[h1],h2,h3⟩
 ·intro g1 l1 t s g2 l2 t2 h1 h2
  have no:∀ {g l t},¬Cell gs g l t slot:=fun h=>by
   obtain⟨x,a,b,_⟩:=hx.cell _ _ _ _ h
   exact hn (List.mem_map.2 ⟨x,a,b⟩)
  rcases (cell_put hg hl).1 h1 with ⟨a1,a2,_,_,a3⟩ |⟨_,b1⟩<;>rcases (cell_put hg hl).1 h2 with ⟨c1,c2,_,_,c3⟩ |⟨_,b2⟩
  ·exact⟨a1.trans c1.symm,a2.trans c2.symm⟩
  ·rw[a3] at b2;exact absurd b2 no
  ·rw[c3] at b1;exact absurd b1 no
  ·exact hx.uniq _ _ _ _ _ _ _ b1 b2
 ·have h1:=sum_set fullN (y:=putG gr l (sum%128) slot) hg
  have h2:=fullN_put (c':=sum%128) (s':=slot) hl
  rw[hx.cnt] at h1
  rw[if_neg (by omega),if_pos ht] at h2
  simp only[List.length_cons];omega
 ·have h1:=sum_set tombN (y:=putG gr l (sum%128) slot) hg
  have h2:=tombN_put (c':=sum%128) (s':=slot) hl
  rw[hx.tomb] at h1
  rw[if_neg (show ¬sum%128=254 by omega)] at h2
  by_cases h:c=254
  ·rw[if_pos h] at h2 ⊢;omega
  ·rw[if_neg h] at h2 ⊢;omega
theorem len_filter_ne:∀ {S:List (Nat×Nat)},(S.map (·.2)).Nodup→∀ {x:Nat×Nat},x∈S→(S.filter fun y=>decide (y.2≠x.2)).length+1=S.length
 |a::S,hnd,x,hx=>by
  simp only[List.map_cons,List.nodup_cons] at hnd
  rcases List.mem_cons.1 hx with rfl |hx
  ·have :S.filter (fun y=>decide (y.2≠x.2))=S:=by
    rw[List.filter_eq_self]
    intro y hy
    simp only[ne_eq,decide_eq_true_eq]
    exact fun e=>hnd.1 (List.mem_map.2 ⟨y,hy,e⟩)
   simp only[List.filter_cons,ne_eq,not_true,decide_false,Bool.false_eq_true,if_false,List.length_cons]
   have h2:=congrArg List.length this
   simp only[ne_eq] at h2
   omega
  ·have ih:=len_filter_ne hnd.2 hx
   have hne:a.2≠x.2:=fun e=>hnd.1 (List.mem_map.2 ⟨x,hx,e.symm⟩)
   simp only[List.filter_cons,hne,ne_eq,not_false_eq_true,decide_true,if_true,List.length_cons] at ih ⊢
   omega
theorem ix_remove (hx:IxOk k gs S T) {x:Nat×Nat} (hxS:x∈S) (hg:gs[g]?=some gr) (hl:gr.cs[l]?=some c) (hc:c<128) (hsl:gr.sl l=x.2):
  IxOk k (gs.set g (putG gr l (if emptyS gr.cs=0 then 254 else 128) 0)) (S.filter fun y=>decide (y.2≠x.2)) (T+if emptyS gr.cs=0 then 1 else 0):=by
 have hok:=hx.ok gr (List.mem_of_getElem? hg)
 have hcell:Cell gs g l c x.2:=⟨gr,hg,hl,hc,hsl⟩
 generalize hc':(if emptyS gr.cs=0 then 254 else 128)=c'
 have hokc:Okc c':=by subst hc';unfold Okc;split<;>simp
 have hge:¬c'<128:=by subst hc';split<;>omega
 have hne:(c'≠128∨128∈gr.cs):=by
  subst hc'
  by_cases h:emptyS gr.cs=0
  ·rw[if_pos h];exact .inl (by decide)
  ·rw[if_neg h]
   rw[emptyS_zero hok.1] at h
   exact .inr (by simpa using h)
 have cp:∀g1 l1 t s,Cell (gs.set g (putG gr l c' 0)) g1 l1 t s↔(¬(g1=g∧l1=l)∧Cell gs g1 l1 t s):=fun g1 l1 t s=>by
  rw[cell_put hg hl]
  constructor
  ·rintro(⟨_,_,_,h,_⟩ |h)
   ·exact absurd h hge
   ·exact h
  ·exact .inr
 refine {hk:=hx.hk,len:=by simpa using hx.len,ok:=?_,nd:=?_,sum:=?_,has:=?_,cell:=?_,uniq:=?_,cnt:=?_,tomb:=?_}
 ·intro gr' hm
  rcases List.mem_or_eq_of_mem_set hm with hm |rfl
  ·exact hx.ok gr' hm
  ·exact hok.set hokc
 ·exact(List.filter_sublist.map _).nodup hx.nd
 ·exact fun y hy=>hx.sum y (List.mem_filter.1 hy).1
 ·intro y hy
  obtain⟨hy1,hy2⟩:=List.mem_filter.1 hy
  have hy2:y.2≠x.2:=by simpa using hy2
  obtain⟨i',h1,⟨l',h2⟩,h3⟩:=hx.has y hy1
  refine⟨i',h1,⟨l',(cp _ _ _ _).2 ⟨?_,h2⟩⟩,fun j hj=>noE_put hg hne (h3 j hj)⟩
  rintro⟨e1,e2⟩
  rw[e1,e2] at h2
  obtain⟨gr1,a1,a2,a3,a4⟩:=h2
  rw[hg] at a1
  obtain rfl:=Option.some.inj a1
  exact hy2 (by rw[←a4,hsl])
 ·intro g1 l1 t s h
  obtain⟨h0,h⟩:=(cp _ _ _ _).1 h
  obtain⟨y,h1,h2,h3⟩:=hx.cell _ _ _ _ h
  refine⟨y,List.mem_filter.2 ⟨h1,?_⟩,h2,h3⟩
  simp only[ne_eq,decide_eq_true_eq]
  intro e
  rw[←h2,e] at h
  exact h0 (hx.uniq _ _ _ _ _ _ _ h hcell)
 ·intro g1 l1 t s g2 l2 t2 h1 h2
  exact hx.uniq _ _ _ _ _ _ _ ((cp _ _ _ _).1 h1).2 ((cp _ _ _ _).1 h2).2
 ·have h1:=sum_set fullN (y:=putG gr l c' 0) hg
  have h2:=fullN_put (c':=c') (s':=0) hl
  have h3:=len_filter_ne hx.nd hxS
  rw[hx.cnt] at h1
  rw[if_pos hc,if_neg hge] at h2
  omega
 ·have h1:=sum_set tombN (y:=putG gr l c' 0) hg
  have h2:=tombN_put (c':=c') (s':=0) hl
  rw[hx.tomb] at h1
  rw[if_neg (show ¬c=254 by omega)] at h2
  subst hc'
  by_cases h:emptyS gr.cs=0
  ·simp only[h,if_true] at h1 h2 ⊢;omega
  ·simp only[h,if_false] at h1 h2 ⊢;simp at h2;omega
theorem pigeon:∀(n:Nat) (f:Nat→Nat),(∀i,i<n→f i<n)→(∀i j,i<n→j<n→f i=f j→i=j)→∀g,g<n→∃i,i<n∧f i=g
 |0,_,_,_,g,hg=>absurd hg (Nat.not_lt_zero g)
 |n+1,f,h1,h2,g,hg=>by
  by_cases e:f n=g
  ·exact⟨n,Nat.lt_succ_self n,e⟩
  ·let f':=fun i=>if f i=n then f n else f i
   have hf':∀i,i<n→f' i<n:=by
    intro i hi
    simp only[f']
    split
    ·rename_i h
     have hn:=h1 n (by omega)
     have :f n≠n:=fun e=>by
      have :=h2 i n (by omega) (by omega) (h.trans e.symm)
      omega
     omega
    ·have :=h1 i (by omega);omega
   have hinj:∀i j,i<n→j<n→f' i=f' j→i=j:=by
    intro i j hi hj he
    simp only[f'] at he
    split at he<;>split at he
    ·rename_i a b;exact h2 i j (by omega) (by omega) (a.trans b.symm)
    ·have :=h2 n j (by omega) (by omega) he;omega
    ·have :=h2 i n (by omega) (by omega) he;omega
    ·exact h2 i j (by omega) (by omega) he
   by_cases hgn:g=n
   ·subst hgn
    have hfn:=h1 g (by omega)
    obtain⟨i,hi,hi2⟩:=pigeon g f' hf' hinj (f g) (by omega)
    simp only[f'] at hi2
    split at hi2
    ·rename_i h;exact⟨i,by omega,h⟩
    ·have :=h2 i g (by omega) (by omega) hi2;omega
   ·obtain⟨i,hi,hi2⟩:=pigeon n f' hf' hinj g (by omega)
    simp only[f'] at hi2
    split at hi2
    ·exact absurd hi2 e
    ·exact⟨i,by omega,hi2⟩
theorem cop2 {e n:Nat} (h:e%2=1):Nat.Coprime (2^n) e:=Nat.Coprime.pow_left n (by rw[Nat.Coprime,Nat.gcd_rec,h,Nat.gcd_one_left])
theorem tri2 (i:Nat):2 * (i * (i+1)/2)=i * (i+1):=by
 have h:i * (i+1)%2=0:=by
  rcases Nat.mod_two_eq_zero_or_one i with h |h
  ·rw[Nat.mul_mod,h,Nat.zero_mul]
  ·rw[Nat.mul_mod,show(i+1)%2=0 by omega,Nat.mul_zero]
 omega
theorem tri_le {k part i j:Nat} (hij:i≤j) (hj:j<2^k) (h:pat part k i=pat part k j):i=j:=by
 have ti:=tri2 i
 have tj:=tri2 j
 obtain⟨d,rfl⟩:=Nat.exists_eq_add_of_le hij
 have hm:(i+d) * (i+d+1)=i * (i+1)+d * (2 * i+d+1):=by
  simp only[Nat.mul_add,Nat.add_mul,Nat.mul_one,Nat.one_mul,Nat.two_mul]
  have :=Nat.mul_comm d i
  omega
 have hdv:2^k ∣ (i+d) * (i+d+1)/2 - i * (i+1)/2:=by
  have :=Nat.dvd_of_mod_eq_zero (Nat.sub_mod_eq_zero_of_mod_eq (m:=part+(i+d) * (i+d+1)/2) (n:=part+i * (i+1)/2) (k:=2^k) h.symm)
  rwa[Nat.add_sub_add_left] at this
 obtain⟨q,hq⟩:=hdv
 have h2:2^(k+1) * q=d * (2 * i+d+1):=by
  rw[Nat.pow_succ,Nat.mul_right_comm, ←hq];omega
 have h3:2^(k+1) ∣ d * (2 * i+d+1):=⟨q,h2.symm⟩
 have hp:2^(k+1)=2 * 2^k:=by rw[Nat.pow_succ];omega
 rcases Nat.mod_two_eq_zero_or_one d with hd |hd
 ·have h4:=(cop2 (n:=k+1) (e:=2 * i+d+1) (by omega)).dvd_of_dvd_mul_right h3
  rcases Nat.eq_zero_or_pos d with h0 |h0
  ·omega
  ·have :=Nat.le_of_dvd h0 h4;omega
 ·have h4:=(cop2 (n:=k+1) (e:=d) hd).dvd_of_dvd_mul_left h3
  have :=Nat.le_of_dvd (by omega) h4;omega
theorem tri_inj {k part i j:Nat} (hi:i<2^k) (hj:j<2^k) (h:pat part k i=pat part k j):i=j:=by
 rcases Nat.le_total i j with hh |hh
 ·exact tri_le hh hj h
 ·exact(tri_le hh hi h.symm).symm
theorem pat_sur {k part g:Nat} (hg:g<2^k):∃i,i<2^k∧pat part k i=g:=
 pigeon (2^k) (pat part k) (fun i _=>pat_lt _ _ _) (fun i j hi hj h=>tri_inj hi hj h) g hg
theorem ix_free (hx:IxOk k gs S T) (hn:S.length<8 * 2^k) (part:Nat):∃i gr,i<2^k∧gs[pat part k i]?=some gr∧freeS gr.cs≠0:=by
 have h:∃(g:Nat) (gr:Grp),gs[g]?=some gr∧fullN gr<8:=by
  apply Classical.byContradiction
  intro h
  have hall:∀gr∈gs,8≤fullN gr:=fun gr hm=>by
   obtain⟨g,hg,e⟩:=List.getElem_of_mem hm
   apply Nat.le_of_not_lt
   intro hlt
   exact h ⟨g,gr,by rw[List.getElem?_eq_getElem hg,e],hlt⟩
  have :∀l:List Grp,(∀gr∈l,8≤fullN gr)→8 * l.length≤(l.map fullN).sum:=by
   intro l
   induction l with
   |nil=>simp
   |cons a l ih=>
    intro h
    have h1:=h a (by simp)
    have h2:=ih fun gr hm=>h gr (by simp[hm])
    simp only[List.length_cons,List.map_cons,List.sum_cons];omega
  have :=this gs hall
  rw[hx.cnt,hx.len] at this
  omega
 obtain⟨g,gr,hg,hlt⟩:=h
 have hgl:=Go.Cub.lt_of_get hg
 rw[hx.len] at hgl
 obtain⟨i,hi,rfl⟩:=pat_sur (part:=part) hgl
 refine⟨i,gr,hi,hg,fun h0=>?_⟩
 have hok:=hx.ok gr (List.mem_of_getElem? hg)
 rw[freeS,mset_zero hok.1] at h0
 have :gr.cs.filter (fun c=>decide (c<128))=gr.cs:=by
  rw[List.filter_eq_self]
  intro c hc
  have h1:=h0 c hc
  rcases hok.2 c hc with h |h |h
  ·simpa using h
  ·simp[h] at h1
  ·simp[h] at h1
 unfold fullN at hlt
 rw[this,hok.1] at hlt
 omega
theorem ix_new (hk:k≤20):IxOk k (List.replicate (2^k) ⟨List.replicate 8 128,fun _=>0⟩) [] 0:=by
 have nocell:∀g l t s,¬Cell (List.replicate (2^k) ⟨List.replicate 8 128,fun _=>0⟩) g l t s:=by
  rintro g l t s ⟨gr,e1,e2,e3,_⟩
  have :=List.eq_of_mem_replicate (List.mem_of_getElem? e1)
  subst this
  have :=List.eq_of_mem_replicate (List.mem_of_getElem? e2)
  omega
 refine {hk,len:=by simp,ok:=?_,nd:=by simp,sum:=by simp,has:=by simp,cell:=fun g l t s h=>(nocell _ _ _ _ h).elim,uniq:=fun g l t s _ _ _ h _=>(nocell _ _ _ _ h).elim,cnt:=?_,tomb:=?_}
 ·intro gr hm
  have :=List.eq_of_mem_replicate hm
  subst this
  exact⟨by simp,fun c hc=>.inr (.inl (List.eq_of_mem_replicate hc))⟩
 ·simp[fullN,List.map_replicate]
 ·simp[tombN,List.map_replicate]
end
end Go.Cub
namespace Go.Cub
open Go Go.Proofs Go.IntWalk
theorem rep_set {α:Type} (a b:α) (i m:Nat):(List.replicate i b++List.replicate (m+1) a).set i b=List.replicate (i+1) b++List.replicate m a:=by
 rw[List.set_append_right _ _ (by simp),List.length_replicate,Nat.sub_self,List.replicate_succ (n:=m),List.set_cons_zero,List.replicate_succ' (n:=i)]
 simp
theorem ful_tomb (cs:List Nat):(cs.filter fun c=>decide (c<128)).length+(cs.filter fun c=>decide (c=254)).length≤cs.length:=by
 induction cs with
 |nil=>simp
 |cons c cs ih=>
  simp only[List.filter_cons,List.length_cons]
  by_cases h1:c<128
  ·rw[if_pos (by simpa using h1),if_neg (by simp;omega)];simp only[List.length_cons];omega
  ·rw[if_neg (by simpa using h1)]
   split
   ·simp only[List.length_cons];omega
   ·omega
theorem ix_tombs {k T:Nat} {S:List (Nat×Nat)} {gs:List Grp} (hx:IxOk k gs S T):S.length+T≤8 * 2^k:=by
 rw[←hx.cnt, ←hx.tomb, ←hx.len]
 have h:∀l:List Grp,(∀gr∈l,gr.cs.length=8)→(l.map fullN).sum+(l.map tombN).sum≤8 * l.length:=by
  intro l
  induction l with
  |nil=>simp
  |cons a l ih=>
   intro h
   have h1:=ih fun gr hm=>h gr (by simp[hm])
   have h2:=ful_tomb a.cs
   rw[h a (by simp)] at h2
   simp only[List.map_cons,List.sum_cons,List.length_cons,fullN,tombN] at h1 ⊢
   omega
 exact h gs fun gr hm=>(hx.ok gr hm).1
theorem ix_perm {k T:Nat} {S S':List (Nat×Nat)} {gs:List Grp} (hx:IxOk k gs S T) (h:S.Perm S'):IxOk k gs S' T:=
 {hk:=hx.hk,len:=hx.len,ok:=hx.ok,nd:=(h.map _).nodup_iff.1 hx.nd,sum:=fun x hm=>hx.sum x (h.mem_iff.2 hm),has:=fun x hm=>hx.has x (h.mem_iff.2 hm),
  cell:=fun g l t s hc=>by obtain⟨x,a,b⟩:=hx.cell g l t s hc;exact⟨x,h.mem_iff.1 a,b⟩,uniq:=hx.uniq,cnt:=by rw[hx.cnt,h.length_eq],tomb:=hx.tomb}
theorem Same.tail {B:HP} {C:List HP} {fv:Value} {S:List (Nat×Nat)} {P:Nat→Bool} (h:Same B fv S P):Same (.all (B::C)) fv S P:=fun x hx w X H=>
 CallV.mono (h x hx w (C++X) (own_all.1 H)) fun v w' ⟨a,b⟩=>⟨a,own_all.2 b⟩
section
variable {R:Value→World→Prop} {w:World} {C:List HP} {u:HP→List HP} {p k T sum slot:Nat} {S:List (Nat×Nat)} {gs:List Grp} {s:Value} {P:Nat→Bool} {B:HP}
attribute [local irreducible] PV CND GRD L1 LN S1 SN NEW NEWS MKS MKM LK MU DEL LENM APP CPY BTS Call CallV
theorem two_k (hx:IxOk k gs S T):1≤2^k∧2^k≤1048576:=pow20 hx.hk
theorem c_six_zero {n t:Int} [f:Foc C (.b p) (pt p [s,.int .i64 n,.int .i64 t]) u] {u2:HP→List HP} [g:Foc C (.v s) (sle s grE gs) u2] (H:Own w.hp C) (hl:0<gs.length) (h:R (.bool false) w):Call Pg 228 #[ptrV p] w R:=by
 refine c_228 ?_
 simp only[F_228]
 (repeat first |refine L1o H rfl ?_ |refine Oc ?_)
 rw[leno (v:=s) H]
 refine Ob ?_
 exact h
theorem k_six_Len [f:Foc C (.b p) (six p k S) u] (H:Own w.hp C) (h:R (.int .i64 S.length) w):Call Pg 178 #[ptrV p] w R:=by
 obtain⟨gs,T,s,hx,H⟩:=six_iff.1 (f.get H)
 have h2:=two_k hx
 refine c_178 ?_
 simp only[F_178]
 refine c_six_zero (s:=s) H (by rw[hx.len];omega) ?_
 (repeat first |refine L1o H rfl ?_ |refine Oc ?_)
 exact h
theorem k_six_Groups [f:Foc C (.b p) (six p k S) u] (H:Own w.hp C) (h:k≤20→R (.int .i64 (2^k:Nat)) w):Call Pg 165 #[ptrV p] w R:=by
 obtain⟨gs,T,s,hx,H⟩:=six_iff.1 (f.get H)
 have h2:=two_k hx
 refine c_165 ?_
 simp only[F_165]
 refine c_six_zero (s:=s) H (by rw[hx.len];omega) ?_
 (repeat first |refine L1o H rfl ?_ |refine Oc ?_)
 rw[leno (v:=s) H,hx.len]
 refine Ob ?_
 exact h hx.hk
theorem k_six_Tombs [f:Foc C (.b p) (six p k S) u] (H:Own w.hp C) (h:∀T:Nat,S.length+T≤8 * 2^k→R (.int .i64 T) w):Call Pg 166 #[ptrV p] w R:=by
 obtain⟨gs,T,s,hx,H⟩:=six_iff.1 (f.get H)
 have h2:=two_k hx
 refine c_166 ?_
 simp only[F_166]
 refine c_six_zero (s:=s) H (by rw[hx.len];omega) ?_
 (repeat first |refine L1o H rfl ?_ |refine Oc ?_)
 exact h T (ix_tombs hx)
theorem k_six_New (hk:k≤20) (H:Own w.hp C) (h:∀p w',Own w'.hp (six p k []::C)→R (.tuple #[ptrV p,.int .i64 0]) w'):Call Pg 139 #[.int .i64 (2^k:Nat)] w R:=by
 obtain⟨hp1,hp2⟩:=pow20 hk
 refine c_139 ?_
 simp only[F_139]
 refine c_probe_Valid rfl hk ?_
 refine Ob ?_
 refine MKSo grE ⟨List.replicate 8 0,fun _=>0⟩ H rfl (Nat.le_refl _) (by omega) (by decide) fun s w H=>?_
 obtain⟨a1,a2,a3,rfl⟩:=sle_slice H
 refine PV_of (v:=.agg #[.slice a1 a2 a3,.int .i64 0,.int .i64 0]) rfl ?_
 refine NEWo H fun p w H=>?_
 have H:Own w.hp (pt p [.slice a1 a2 a3,.int .i64 0,.int .i64 0]::sle (.slice a1 a2 a3) grE (List.replicate (2^k) ⟨List.replicate 8 0,fun _=>0⟩)::C):=H
 have hl:=leno (v:=.slice a1 a2 a3) H
 rw[List.length_replicate] at hl
 (repeat first |refine L1o H rfl ?_ |refine Oc ?_)
 have ea:a2=2^k:=by
  simp only[lenS,Option.some.injEq,Value.int.injEq,true_and] at hl
  exact Int.ofNat_inj.1 hl
 subst ea
 have loop:∀(m i:Nat) (w:World),i+m=2^k→Own w.hp (pt p [.slice a1 (2^k) a3,.int .i64 0,.int .i64 0]::sle (.slice a1 (2^k) a3) grE (List.replicate i ⟨List.replicate 8 128,fun _=>0⟩++List.replicate m ⟨List.replicate 8 0,fun _=>0⟩)::C)→B_139_5 R (ptrV p) (.int .i64 (2^k:Nat)) (.int .i64 i) w:=by
  intro m
  induction m with
  |zero=>
   intro i w hi H
   have :i=2^k:=hi
   subst this
   refine B_139_5.intro ?_
   simp only[P_139_5]
   refine Ob ?_
   refine h p w (six_iff.2 ⟨_,0,.slice a1 (2^k) a3,ix_new hk,?_⟩)
   simpa using H
  |succ m ih=>
   intro i w hi H
   refine B_139_5.intro ?_
   simp only[P_139_5]
   have hg:(List.replicate i (⟨List.replicate 8 128,fun _=>0⟩:Grp)++List.replicate (m+1) ⟨List.replicate 8 0,fun _=>0⟩)[i]?=some ⟨List.replicate 8 0,fun _=>0⟩:=by
    rw[List.getElem?_append_right (by simp)];simp
   (repeat first |refine L1o H rfl ?_ |refine Oc ?_)
   refine c_211 ?_
   simp only[F_211]
   refine c_265 ?_
   simp only[F_265]
   refine Ob ?_
   refine⟨L1o H rfl rfl,?_⟩
   refine idxo (v:=.slice a1 (2^k) a3) (E:=grE) H (lt_of_get hg) ?_
   refine Ob ?_
   refine S1e (E:=grE) (w:=w.drew) (j:=0) (v:=.slice a1 (2^k) a3) (⟨List.replicate 8 128,fun _=>0⟩:Grp) H hg (by decide) rfl rfl fun w H=>?_
   refine Ob ?_
   rw[show((i:Int)+1)=((i+1:Nat):Int) by simp]
   refine ih (i+1) w (by omega) ?_
   have e:(List.replicate i (⟨List.replicate 8 128,fun _=>0⟩:Grp)++List.replicate (m+1) (⟨List.replicate 8 0,fun _=>0⟩:Grp)).set i (⟨List.replicate 8 128,fun _=>0⟩:Grp)=List.replicate (i+1) (⟨List.replicate 8 128,fun _=>0⟩:Grp)++List.replicate m ⟨List.replicate 8 0,fun _=>0⟩:=by
    exact rep_set _ _ _ _
   rw[e] at H
   exact H
 exact loop (2^k) 0 w (by omega) (by simpa using H)
end
end Go.Cub
namespace Go.Cub
open Go Go.Proofs Go.IntWalk
section
variable {R:Value→World→Prop} {w:World} {C:List HP} {u:HP→List HP} {p k T sum slot:Nat} {S:List (Nat×Nat)} {gs:List Grp} {s:Value} {P:Nat→Bool} {B:HP} {f0:Fn} {a0 c0:Array Value}
attribute [local irreducible] PV CND GRD L1 LN S1 SN NEW NEWS MKS MKM LK MU DEL LENM APP CPY BTS Call CallV
theorem grE_sl {gr:Grp} {l:Nat} (hl:l<8):(grE.c gr)[1+l * 1]?=some (.int .u32 (gr.sl l)):=by
 simp only[grE,Nat.mul_one,Nat.add_comm 1 l,List.getElem?_cons_succ,List.getElem?_map,List.getElem?_range hl];rfl
theorem k_six_Find (hsame:Same B (.func f0 a0 c0) S P) (hs:sum<18446744073709551616) (hP:∀x∈S,P x.2=true→x.1=sum) (H:Own w.hp (six p k S::B::C))
  (h1:∀w',(∀x∈S,P x.2=false)→Own w'.hp (six p k S::B::C)→R (.tuple #[.int .u32 0,.int .i64 9]) w')
  (h2:∀w' x,x∈S→P x.2=true→Own w'.hp (six p k S::B::C)→R (.tuple #[.int .u32 x.2,.int .i64 0]) w'):
  Call Pg 259 #[ptrV p,.int .u64 sum,.func f0 a0 c0] w R:=by
 obtain⟨gs,T,s,hx,H⟩:=six_iff.1 H
 have hk:=two_k hx
 refine c_259 ?_
 simp only[F_259]
 refine c_six_zero (s:=s) H (by rw[hx.len];omega) ?_
 refine Ob ?_
 have back:∀w':World,Own w'.hp [pt p [s,.int .i64 S.length,.int .i64 (T:Nat)],sle s grE gs,.all (B::C)]→Own w'.hp (six p k S::B::C):=fun w' H=>
  six_iff.2 ⟨gs,T,s,hx,tl2.2 H⟩
 refine c_six_find rfl hx hsame.tail hs hP (tl2.1 H) (fun w hn H=>?_) fun w g l hf H=>?_
 ·refine Ob ?_
  exact h1 w hn (back w H)
 ·obtain⟨sl,⟨gr,hg,hl,ht,rfl⟩,hp⟩:=hf
  have hl8:l<8:=by have :=lt_of_get hl;rw[(hx.ok gr (List.mem_of_getElem? hg)).1] at this;exact this
  obtain⟨x,hxS,hx2,_⟩:=hx.cell _ _ _ _ ⟨gr,hg,hl,ht,rfl⟩
  refine Ob ?_
  refine L1e (v:=s) (E:=grE) (j:=1+l * 1) H hg (grE_sl hl8) ?_
  refine Ob ?_
  rw[←hx2]
  exact h2 w x hxS (by rw[hx2];exact hp) (back w H)
theorem grE_set0 {gr:Grp} {cs:List Nat}:(grE.c gr).set 0 (.int .u64 (wd cs))=grE.c ⟨cs,gr.sl⟩:=rfl
theorem grE_setl {cs:List Nat} {sl:Nat→Nat} {l s':Nat} (hl:l<8):(grE.c ⟨cs,sl⟩).set (1+l * 1) (.int .u32 (s':Nat))=grE.c ⟨cs,fun j=>if j=l then s' else sl j⟩:=by
 simp only[grE,Nat.mul_one,Nat.add_comm 1 l,List.set_cons_succ]
 congr 1
 apply List.ext_getElem?
 intro i
 by_cases hi:i<8
 ·by_cases e:l=i
  ·subst e
   rw[List.getElem?_set_self (by simpa using hi)]
   simp only[List.getElem?_map,List.getElem?_range hi,Option.map_some,if_true]
  ·rw[List.getElem?_set_ne e]
   simp only[List.getElem?_map,List.getElem?_range hi,Option.map_some,if_neg (Ne.symm e)]
 ·rw[List.getElem?_eq_none (by simp;omega),List.getElem?_eq_none (by simp;omega)]
theorem same_rm {t:Nat} {x:Nat×Nat}:Same (pt t [.int .u32 (x.2:Nat)]) (.func (.func 233) #[] #[ptrV t]) S (fun s=>decide (s=x.2)):=by
 intro y hy w X H
 refine callV_fn (Tryz.calOk _ (by rfl)) ?_
 show Call Pg 233 #[.int .u32 y.2,ptrV t] w _
 refine c_233 ?_
 simp only[F_233]
 refine L1o H rfl ?_
 refine Ob ?_
 refine⟨?_,H⟩
 congr 1
 by_cases e:y.2=x.2
 ·simp[e]
 ·simp only[e,decide_false,decide_eq_false_iff_not]
  omega
theorem k_six_Remove {x:Nat×Nat} (hxS:x∈S) [f:Foc C (.b p) (six p k S) u] (H:Own w.hp C) (h:∀w',Own w'.hp (u (six p k (S.filter fun y=>decide (y.2≠x.2))))→R (.int .i64 0) w'):Call Pg 174 #[ptrV p,.int .u64 x.1,.int .u32 x.2] w R:=by
 obtain⟨gs,T,s,hx,H⟩:=six_iff.1 (f.get H)
 have h:∀w',Own w'.hp (six p k (S.filter fun y=>decide (y.2≠x.2))::f.rest)→R (.int .i64 0) w':=fun w' H=>h w' (f.put H)
 generalize f.rest=C1 at H h
 have H:=tl2.1 H
 have hk:=two_k hx
 refine c_174 ?_
 simp only[F_174]
 refine NEWo H fun t w H=>?_
 have H:Own w.hp (pt t [.int .u32 (x.2:Nat)]::_):=H
 refine c_six_zero (s:=s) H (by rw[hx.len];omega) ?_
 refine Ob ?_
 have hP:∀y∈S,(decide (y.2=x.2))=true→y.1=x.1:=by
  intro y hy e
  have e:y.2=x.2:=by simpa using e
  have :y=x:=by
   have hnd:=hx.nd
   obtain⟨i,hi,rfl⟩:=List.getElem_of_mem hy
   obtain⟨j,hj,rfl⟩:=List.getElem_of_mem hxS
   have :=(List.getElem_inj (i:=i) (j:=j) (h₀:=by simpa using hi) (h₁:=by simpa using hj) hnd).1 (by simpa using e)
   subst this;rfl
  rw[this]
 have hP':∀y∈S,(fun s=>decide (s=x.2)) y.2=true→y.1=x.1:=hP
 refine c_six_find rfl hx (Same.tail (C:=[.all C1]) (same_rm (t:=t) (x:=x))) (hx.sum x hxS) hP' (tl2.1 H.mv3.mv1.mv3.mv3) (fun w hn H=>?_) fun w g l hf H=>?_
 ·have :=hn x hxS
  simp at this
 ·obtain⟨sl,⟨gr,hg,hl,ht,rfl⟩,hp⟩:=hf
  have hp:gr.sl l=x.2:=by simpa using hp
  have hok:=hx.ok gr (List.mem_of_getElem? hg)
  have hl8:l<8:=by have :=lt_of_get hl;rw[hok.1] at this;exact this
  have hr:=ix_remove hx hxS hg hl ht hp
  have H:=tl2.2 H
  refine Ob ?_
  refine L1e (v:=s) (E:=grE) (j:=0) H hg rfl ?_
  refine c_Erase hok hl ht ?_
  refine Ob ?_
  have htm:=ix_tombs hx
  have hl3:=len_filter_ne hx.nd hxS
  have hgl:=lt_of_get hg
  have hll:=lt_of_get hl
  have hE:emptyS (gr.cs.set l (if emptyS gr.cs=0 then 254 else 128))=0↔emptyS gr.cs=0:=by
   rw[emptyS_zero (by simpa using hok.1)]
   by_cases h0:emptyS gr.cs=0
   ·have h1:=(emptyS_zero hok.1).1 h0
    simp only[h0,if_true,iff_true]
    intro hm
    rcases List.mem_or_eq_of_mem_set hm with hm |hm
    ·exact h1 hm
    ·cases hm
   ·have h1:128∈gr.cs:=by
     rw[emptyS_zero hok.1] at h0
     simpa using h0
    simp only[h0,if_false,iff_false,Classical.not_not]
    exact List.mem_set hll 128
  have hoks:OkW (gr.cs.set l (if emptyS gr.cs=0 then 254 else 128)):=hok.set (by unfold Okc;split<;>simp)
  generalize hc':(if emptyS gr.cs=0 then 254 else 128)=c' at hr hE hoks
  have hms:=mset_lt (p:=fun c=>c==128) hoks.1
  refine S1e (E:=grE) (v:=s) (w:=w.drew) (j:=0) (⟨gr.cs.set l c',gr.sl⟩:Grp) H hg (by decide) grE_set0 rfl fun w H=>?_
  have hg1:(gs.set g (⟨gr.cs.set l c',gr.sl⟩:Grp))[g]?=some ⟨gr.cs.set l c',gr.sl⟩:=List.getElem?_set_self hgl
  refine S1e (E:=grE) (v:=s) (j:=1+l * 1) (putG gr l c' 0) H hg1 (by show 1+l * 1<9;omega) (grE_setl hl8) rfl fun w H=>?_
  rw[List.set_set] at H
  have hg2:(gs.set g (putG gr l c' 0))[g]?=some (putG gr l c' 0):=List.getElem?_set_self hgl
  (repeat first |refine L1o H rfl ?_ |refine Oc ?_)
  refine S1o H rfl rfl fun w H=>?_
  refine L1e (v:=s) (E:=grE) (j:=0) H hg2 rfl ?_
  refine c_Empties (cs:=gr.cs.set l c') hoks.1 hoks.by_ ?_
  have e1:((S.length:Int) - 1)=((S.filter fun y=>decide (y.2≠x.2)).length:Nat):=by omega
  by_cases h0:emptyS gr.cs=0
  ·rw[hE.2 h0]
   simp only[h0,if_true] at hr
   (repeat first |refine L1o H rfl ?_ |refine Oc ?_)
   refine S1o H rfl rfl fun w H=>?_
   refine h w (six_iff.2 ⟨_,_,s,hr,?_⟩)
   have H:=tl2.2 H.mv3.mv2.mv2.dp3
   simp only[List.set_cons_zero,List.set_cons_succ,e1] at H
   exact H
  ·have h1:emptyS (gr.cs.set l c')≠0:=fun e=>h0 (hE.1 e)
   simp only[h0,if_false,Nat.add_zero] at hr
   refine Ob ?_
   refine h w (six_iff.2 ⟨_,_,s,hr,?_⟩)
   have H:=tl2.2 H.mv3.mv2.mv2.dp3
   simp only[List.set_cons_zero,List.set_cons_succ,e1] at H
   exact H
end
end Go.Cub
