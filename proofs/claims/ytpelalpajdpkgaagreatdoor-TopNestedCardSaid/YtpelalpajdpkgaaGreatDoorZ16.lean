/-
  Part 17 of the proof that TopNested returns true and leaves what it was given as it was. CONDITIONS: those of the given row and card.
-/
import Derived.Test.YtpelalpajdpkgaaGreatDoorZ15
set_option linter.all false
namespace Go.Cub
open Go Go.Proofs Go.IntWalk
def cst:List (Nat×Nat)→Nat→Option Nat
 |[],_=>none
 |x::l,s=>if x.1=s then some x.2 else cst l s
def sumC (A:List (Nat×Nat)):Nat:=(A.map (·.2)).sum
def delS (A:List (Nat×Nat)) (s:Nat):List (Nat×Nat):=A.filter fun x=>x.1≠s
theorem cst_none {A:List (Nat×Nat)} {s:Nat}:cst A s=none↔s∉A.map (·.1):=by
 induction A with
 |nil=>simp[cst]
 |cons x A ih=>
  simp only[cst,List.map_cons,List.mem_cons,not_or]
  by_cases h:x.1=s
  ·simp[h]
  ·simp[h,ih,Ne.symm h]
theorem cst_mem {A:List (Nat×Nat)} {s c:Nat} (h:cst A s=some c):(s,c)∈A:=by
 induction A with
 |nil=>simp[cst] at h
 |cons x A ih=>
  simp only[cst] at h
  by_cases e:x.1=s
  ·simp[e] at h
   subst h;subst e;simp
  ·simp only[e,if_false] at h
   simp[ih h]
theorem cst_of_mem {A:List (Nat×Nat)} (hd:(A.map (·.1)).Nodup) {x:Nat×Nat} (h:x∈A):cst A x.1=some x.2:=by
 induction A with
 |nil=>simp at h
 |cons y A ih=>
  simp only[List.map_cons,List.nodup_cons] at hd
  simp only[cst]
  rcases List.mem_cons.1 h with rfl |h
  ·simp
  ·have :y.1≠x.1:=fun e=>hd.1 (e ▸ List.mem_map_of_mem h)
   rw[if_neg this];exact ih hd.2 h
theorem cst_append {A B:List (Nat×Nat)} {s:Nat}:cst (A++B) s=(cst A s).or (cst B s):=by
 induction A with
 |nil=>simp[cst]
 |cons x A ih=>
  simp only[List.cons_append,cst]
  by_cases e:x.1=s
  ·simp[e]
  ·simp[e,ih]
theorem cst_del {A:List (Nat×Nat)} {s t:Nat}:cst (delS A s) t=if t=s then none else cst A t:=by
 induction A with
 |nil=>simp[cst,delS]
 |cons x A ih=>
  simp only[delS,List.filter_cons]
  by_cases e:x.1=s
  ·subst e
   simp only[ne_eq,not_true_eq_false,decide_false,Bool.false_eq_true,if_false,cst]
   rw[show A.filter (fun y=>decide (y.1≠x.1))=delS A x.1 from rfl,ih]
   by_cases e2:t=x.1
   ·simp[e2]
   ·simp[e2,Ne.symm e2]
  ·simp only[ne_eq,e,not_false_eq_true,decide_true,if_true,cst]
   rw[show A.filter (fun y=>decide (y.1≠s))=delS A s from rfl,ih]
   by_cases e2:x.1=t
   ·have :t≠s:=by omega
    simp[e2,this]
   ·simp[e2]
theorem del_keys {A:List (Nat×Nat)} {s:Nat} (hd:(A.map (·.1)).Nodup):(delS A s).map (·.1)=(A.map (·.1)).erase s:=by
 induction A with
 |nil=>rfl
 |cons x A ih=>
  simp only[List.map_cons,List.nodup_cons] at hd
  simp only[delS,List.filter_cons]
  by_cases e:x.1=s
  ·subst e
   simp only[ne_eq,not_true_eq_false,decide_false,Bool.false_eq_true,if_false,List.map_cons,List.erase_cons_head]
   congr 1
   apply List.filter_eq_self.2
   intro y hy
   have :y.1≠x.1:=fun h=>hd.1 (h ▸ List.mem_map_of_mem hy)
   simpa using this
  ·simp only[ne_eq,e,not_false_eq_true,decide_true,if_true,List.map_cons]
   rw[List.erase_cons_tail (by simpa using e), ←ih hd.2]
   rfl
theorem sumC_del {A:List (Nat×Nat)} {s c:Nat} (hd:(A.map (·.1)).Nodup) (h:cst A s=some c):sumC A=sumC (delS A s)+c:=by
 induction A with
 |nil=>simp[cst] at h
 |cons x A ih=>
  simp only[List.map_cons,List.nodup_cons] at hd
  simp only[cst] at h
  simp only[sumC,delS,List.filter_cons,List.map_cons,List.sum_cons]
  by_cases e:x.1=s
  ·subst e
   simp only[if_true,Option.some.injEq] at h
   simp only[ne_eq,not_true_eq_false,decide_false,Bool.false_eq_true,if_false]
   have :A.filter (fun y=>decide (¬y.1=x.1))=A:=by
    apply List.filter_eq_self.2
    intro y hy
    have :y.1≠x.1:=fun h=>hd.1 (h ▸ List.mem_map_of_mem hy)
    simpa using this
   rw[this,h];omega
  ·rw[if_neg e] at h
   have :=ih hd.2 h
   simp only[ne_eq,e,not_false_eq_true,decide_true,if_true,List.map_cons,List.sum_cons]
   simp only[sumC,delS] at this
   simp only[ne_eq] at this
   omega
theorem sumC_le {A:List (Nat×Nat)} {b:Nat} (h:∀x∈A,x.2≤b):sumC A≤A.length * b:=by
 induction A with
 |nil=>simp[sumC]
 |cons x A ih=>
  have h1:=ih fun y hy=>h y (List.mem_cons_of_mem _ hy)
  have h2:=h x (by simp)
  simp only[sumC,List.map_cons,List.sum_cons,List.length_cons,Nat.add_mul] at h1 ⊢
  omega
def seg (p:Nat) (A:List (Nat×Nat)):HP:=.ex fun l0=>.ex fun l1=>.ex fun r=>.ex fun ps=>.all [.pu ((∀s,lookP ps s=(cst A s).map fun c=>.int .i64 c)∧∀x∈A,x.2≤1099511627776),
 pt p [ptrV l0,ptrV l1,.int .i64 (sumC A),.int .i64 0,.map (some r),.int .i64 (-1)],lru l0 (A.map (·.1)),lru l1 [],mpi r .u32 ps]
instance {p:Nat} {A:List (Nat×Nat)}:Keyed (seg p A) (.b p):=⟨⟩
def wgE:Enc (Nat×Nat):=⟨2,fun x=>[.int .u32 x.1,.int .i64 x.2],fun _=>rfl,fun n v h=>by simp at h;rcases h with rfl |rfl<;>rfl⟩
section
variable {R:Value→World→Prop} {w:World} {C:List HP} {u:HP→List HP} {p l0 l1 r n c:Nat} {A:List (Nat×Nat)} {ps:List (Nat×Value)}
attribute [local irreducible] PV CND GRD L1 LN S1 SN NEW NEWS MKS MKM LK MU DEL LENM APP CPY BTS Call CallV
theorem seg_iff {h:Hp}:Own h (seg p A::C)↔∃l0 l1 r ps,(∀s,lookP ps s=(cst A s).map fun c=>.int .i64 c)∧(∀x∈A,x.2≤1099511627776)∧
  Own h (pt p [ptrV l0,ptrV l1,.int .i64 (sumC A),.int .i64 0,.map (some r),.int .i64 (-1)]::lru l0 (A.map (·.1))::lru l1 []::mpi r .u32 ps::C):=by
 simp only[seg,own_ex,all5,own_pu,and_assoc]
abbrev segL (p l0 l1 r:Nat) (A:List (Nat×Nat)) (ps:List (Nat×Value)) (C:List HP):List HP:=
 pt p [ptrV l0,ptrV l1,.int .i64 (sumC A),.int .i64 0,.map (some r),.int .i64 (-1)]::lru l0 (A.map (·.1))::lru l1 []::mpi r .u32 ps::C
theorem c_seg_check {cs:List Value} [f:Foc C (.b p) (pt p cs) u] (H:Own w.hp C) (hc:cs[4]?=some (.map (some r))) (hn:n<4194304) (hk:c≤1099511627776) (h:R (.int .i64 0) w):Call Pg 112 #[ptrV p,.int .u32 n,.int .i64 c] w R:=by
 refine c_112 ?_
 simp only[F_112]
 refine Ob ?_
 refine L1o H hc ?_
 refine Ob ?_
 exact h
theorem seg_facts {h:Hp} (H:Own h (segL p l0 l1 r A ps C)) (hb:∀x∈A,x.2≤1099511627776):(A.map (·.1)).Nodup∧(∀x∈A,x.1<4194304)∧sumC A≤4611686018427387904:=by
 obtain⟨h1,h2,h3⟩:=lru_facts (p:=l0) (l:=A.map fun(x:Nat×Nat)=>x.1) H
 have h4:=sumC_le hb
 have h5:A.length * 1099511627776≤4194304 * 1099511627776:=Nat.mul_le_mul_right _ (by simpa using h3)
 exact⟨h1,fun x hx=>h2 _ (List.mem_map_of_mem hx),by omega⟩
theorem c_seg_of {cs:List Value} {l:List Nat} [f:Foc C (.b p) (pt p cs) u] {u2:HP→List HP} [g:Foc C (.b l1) (lru l1 l) u2] (H:Own w.hp C) (hc:cs[1]?=some (ptrV l1)) (hn:n<4194304) (hl:n∉l) (h:R (.int .i64 0) w):Call Pg 169 #[ptrV p,.int .u32 n] w R:=by
 refine c_169 ?_
 simp only[F_169]
 refine Ob ?_
 refine L1o H hc ?_
 refine k_lru_Has H hn ?_
 simp only[hl]
 refine Ob ?_
 exact h
theorem c_seg_put (H:Own w.hp (segL p l0 l1 r A ps C)) (hps:∀s,lookP ps s=(cst A s).map fun c=>.int .i64 c) (hb:∀x∈A,x.2≤1099511627776) (hn:n<4194304) (hc:c≤1099511627776) (hm:cst A n=none)
  (h:∀w',Own w'.hp (seg p (A++[(n,c)])::C)→R (.tuple #[]) w'):Call Pg 184 #[ptrV p,.int .i64 0,.int .u32 n,.int .i64 c] w R:=by
 obtain⟨f1,f2,f3⟩:=seg_facts H hb
 refine c_184 ?_
 simp only[F_184]
 (repeat first |refine L1o H rfl ?_ |refine Oc ?_)
 refine k_lru_Add H hn (cst_none.1 hm) fun w H=>?_
 (repeat first |refine L1o H rfl ?_ |refine Oc ?_)
 refine S1o (w:=w.drew) H rfl rfl fun w H=>?_
 (repeat first |refine L1o H rfl ?_ |refine Oc ?_)
 refine MUo H fun w H=>?_
 refine h w (seg_iff.2 ⟨l0,l1,r,setP ps n (.int .i64 c),fun s=>?_,?_,?_⟩)
 ·rw[lookP_setP,hps,cst_append]
  simp only[cst]
  by_cases e:s=n
  ·subst e;simp[hm]
  ·rw[if_neg e]
   by_cases e2:n=s
   ·exact absurd e2.symm e
   ·simp[e2]
 ·intro x hx
  simp only[List.mem_append,List.mem_singleton] at hx
  rcases hx with hx |rfl
  ·exact hb x hx
  ·exact hc
 ·have e:sumC (A++[(n,c)])=sumC A+c:=by simp[sumC]
  rw[e]
  simpa using H
theorem c_seg_take (H:Own w.hp (segL p l0 l1 r A ps C)) (hps:∀s,lookP ps s=(cst A s).map fun c=>.int .i64 c) (hb:∀x∈A,x.2≤1099511627776) (hn:n<4194304) (hm:cst A n=some c)
  (h:∀w' ps',Own w'.hp (segL p l0 l1 r (delS A n) ps' C)→(∀s,lookP ps' s=(cst (delS A n) s).map fun c=>.int .i64 c)→(∀x∈delS A n,x.2≤1099511627776)→R (.bool true) w'):Call Pg 170 #[ptrV p,.int .u32 n] w R:=by
 obtain⟨f1,f2,f3⟩:=seg_facts H hb
 have hs:=sumC_del f1 hm
 refine c_170 ?_
 simp only[F_170]
 (repeat first |refine L1o H rfl ?_ |refine Oc ?_)
 refine LKo H ?_
 rw[hps,hm]
 simp only[Option.map_some,Option.getD_some]
 (repeat first |refine L1o H rfl ?_ |refine Oc ?_)
 refine c_seg_of (l1:=l1) H rfl hn (by simp) ?_
 (repeat first |refine L1o H rfl ?_ |refine Oc ?_)
 refine k_lru_Remove H hn (by simpa using(List.mem_map_of_mem (f:=(·.1)) (cst_mem hm))) fun w H=>?_
 (repeat first |refine L1o H rfl ?_ |refine Oc ?_)
 refine S1o (w:=w.drew) H rfl rfl fun w H=>?_
 (repeat first |refine L1o H rfl ?_ |refine Oc ?_)
 have hnd:=mp_nodup (r:=r) (k:=.u32) (ps:=ps) H
 refine DELo H fun w H=>?_
 refine h w (delP ps n) ?_ (fun s=>?_) fun x hx=>hb x (List.mem_filter.1 hx).1
 ·show Own w.hp (pt p _::lru l0 ((delS A n).map fun x=>x.1)::_)
  rw[del_keys f1]
  have e:((sumC A:Nat):Int) - (c:Nat)=(sumC (delS A n):Nat):=by omega
  rw[e] at H
  exact H
 ·rw[lookP_delP _ _ _ hnd,hps,cst_del]
  by_cases e:s=n<;>simp[e]
theorem k_seg_Of [f:Foc C (.b p) (seg p A) u] (H:Own w.hp C) (hm:cst A n=some c) (h:R (.tuple #[.int .i64 0,.int .i64 c,.int .i64 0]) w):Call Pg 105 #[ptrV p,.int .u32 n] w R:=by
 obtain⟨l0,l1,r,ps,hps,hb,H⟩:=seg_iff.1 (f.get H)
 obtain⟨f1,f2,f3⟩:=seg_facts H hb
 have hn:=f2 _ (cst_mem hm)
 refine c_105 ?_
 simp only[F_105]
 refine c_seg_check (c:=0) H rfl hn (by decide) ?_
 (repeat first |refine L1o H rfl ?_ |refine Oc ?_)
 refine LKo H ?_
 rw[hps,hm]
 simp only[Option.map_some,Option.getD_some]
 (repeat first |refine L1o H rfl ?_ |refine Oc ?_)
 exact c_seg_of (l1:=l1) H rfl hn (by simp) h
theorem k_seg_Remove [f:Foc C (.b p) (seg p A) u] (H:Own w.hp C) (hm:cst A n=some c) (h:∀w',Own w'.hp (u (seg p (delS A n)))→R (.int .i64 0) w'):Call Pg 106 #[ptrV p,.int .u32 n] w R:=by
 obtain⟨l0,l1,r,ps,hps,hb,H⟩:=seg_iff.1 (f.get H)
 obtain⟨f1,f2,f3⟩:=seg_facts H hb
 have hn:=f2 _ (cst_mem hm)
 refine c_106 ?_
 simp only[F_106]
 refine c_seg_check (c:=0) H rfl hn (by decide) ?_
 (repeat first |refine L1o H rfl ?_ |refine Oc ?_)
 refine c_seg_take H hps hb hn hm fun w ps' H h1 h2=>?_
 (repeat first |refine L1o H rfl ?_ |refine Oc ?_)
 exact h w (f.put (seg_iff.2 ⟨l0,l1,r,ps',h1,h2,H⟩))
theorem k_seg_Add [f:Foc C (.b p) (seg p A) u] (H:Own w.hp C) (hn:n<4194304) (hc:c≤1099511627776) (hm:cst A n=none) (h:∀w',Own w'.hp (u (seg p (A++[(n,c)])))→R (.int .i64 0) w'):Call Pg 203 #[ptrV p,.int .u32 n,.int .i64 c] w R:=by
 obtain⟨l0,l1,r,ps,hps,hb,H⟩:=seg_iff.1 (f.get H)
 refine c_203 ?_
 simp only[F_203]
 refine c_seg_check H rfl hn hc ?_
 (repeat first |refine L1o H rfl ?_ |refine Oc ?_)
 refine LKo H ?_
 rw[hps,hm]
 simp only[Option.map_none,Option.isSome_none]
 (repeat first |refine L1o H rfl ?_ |refine Oc ?_)
 refine c_seg_put H hps hb hn hc hm fun w H=>?_
 exact h w (f.put H)
theorem c_seg_demote (H:Own w.hp (seg p A::C)) (h:∀w',Own w'.hp (seg p A::C)→R (.slice none 0 0) w'):Call Pg 113 #[ptrV p] w R:=by
 obtain⟨l0,l1,r,ps,hps,hb,H⟩:=seg_iff.1 H
 refine c_113 ?_
 simp only[F_113]
 refine NEWo H fun t w H=>?_
 refine B_113_3.intro ?_
 simp only[P_113_3]
 refine callV_fn (Tryz.calOk _ (by rfl)) ?_
 rw[show(#[]++#[]++#[ptrV t]:Array Value)=#[ptrV t] from rfl]
 refine c_181 ?_
 simp only[F_181]
 (repeat first |refine L1o H rfl ?_ |refine Oc ?_)
 refine k_lru_Len (w:=w.drew) (l:=[]) H ?_
 (repeat first |refine L1o H rfl ?_ |refine Oc ?_)
 exact h _ (seg_iff.2 ⟨l0,l1,r,ps,hps,hb,H.drop⟩)
theorem k_seg_Use [f:Foc C (.b p) (seg p A) u] {c':Nat} (H:Own w.hp C) (hc:c'≤1099511627776) (hm:cst A n=some c) (h:∀w',Own w'.hp (u (seg p (delS A n++[(n,c')])))→R (.tuple #[.slice none 0 0,.int .i64 0]) w'):Call Pg 207 #[ptrV p,.int .u32 n,.int .i64 c'] w R:=by
 obtain⟨l0,l1,r,ps,hps,hb,H⟩:=seg_iff.1 (f.get H)
 obtain⟨f1,f2,f3⟩:=seg_facts H hb
 have hn:=f2 _ (cst_mem hm)
 refine c_207 ?_
 simp only[F_207]
 refine c_seg_check H rfl hn hc ?_
 (repeat first |refine L1o H rfl ?_ |refine Oc ?_)
 refine c_seg_take H hps hb hn hm fun w ps' H h1 h2=>?_
 (repeat first |refine L1o H rfl ?_ |refine Oc ?_)
 refine B_207_9.intro ?_
 simp only[P_207_9]
 refine c_seg_put H h1 h2 hn hc (by rw[cst_del];simp) fun w H=>?_
 refine c_seg_demote H fun w H=>?_
 exact h w (f.put H)
theorem c_seg_has {g:Int} {cs:List Value} [f:Foc C (.b p) (pt p cs) u] (H:Own w.hp C) (hc:cs[4]?=some (.map (some r))) (hg:0≤g∧g≤1) (h:R (.bool true) w):Call Pg 162 #[ptrV p,.int .i64 g] w R:=by
 refine c_162 ?_
 simp only[F_162]
 refine c_seg_check (n:=0) (c:=0) H hc (by decide) (by decide) ?_
 (repeat first |refine L1o H rfl ?_ |refine Oc ?_)
 exact h
theorem k_seg_New (H:Own w.hp C) (h:∀p w',Own w'.hp (seg p []::C)→R (.tuple #[ptrV p,.int .i64 0]) w'):Call Pg 73 #[.int .i64 (-1)] w R:=by
 refine c_73 ?_
 simp only[F_73]
 (repeat first |refine L1o H rfl ?_ |refine Oc ?_)
 refine k_lru_New H fun l0 w H=>?_
 refine k_lru_New H fun l1 w H=>?_
 refine PV_of (v:=.agg #[ptrV l0,ptrV l1]) rfl ?_
 refine MKMo .u32 H fun r w H=>?_
 refine PV_of (v:=.agg #[ptrV l0,ptrV l1,.int .i64 0,.int .i64 0,.map (some r),.int .i64 (-1)]) rfl ?_
 refine NEWo H fun p w H=>?_
 refine h p w (seg_iff.2 ⟨l0,l1,r,[],fun s=>rfl,by simp,?_⟩)
 exact H.mv1.bk3.mv1.bk2
theorem JMP_none {kn kr:Prop} {ke:Nat→Prop} (h:kn):JMP none kn ke kr:=h
theorem JMP_ret {kn kr:Prop} {ke:Nat→Prop} (h:kr):JMP (some .ret) kn ke kr:=h
theorem RET_nil {P:Program} {w:World} {K:World→Prop} (h:K w):RET P [] w K:=h
abbrev sgJ (p t2 t5:Nat) (A B:List (Nat×Nat)) (X:HP) (i:Nat):HP:=.ex fun sv=>.all [pt t5 [sv],sle sv wgE (B.take i),pt t2 [ptrV p],seg p A,X]
theorem sgJ_mk {h:Hp} {t2 t5 i:Nat} {B:List (Nat×Nat)} {X:HP} {sv:Value} {M:List HP} (H:Own h (pt t5 [sv]::sle sv wgE (B.take i)::pt t2 [ptrV p]::seg p A::X::M)):Own h (sgJ p t2 t5 A B X i::M):=own_ex.2 ⟨sv,all5.2 H⟩
theorem seg_List_RF {t t2 t5:Nat} {s:Value} {X:HP} {B:List (Nat×Nat)} (hBA:∀x∈B,cst A x.1=some x.2) (hBl:B.length≤4194304) (H:Own w.hp [itU t s (B.map fun x=>x.1),sgJ p t2 t5 A B X 0])
  {K:Option Code→List Deferred→World→Prop} (hK:∀d v w,Own w.hp [dfr d (some []),pt t5 [v],sle v wgE B,seg p A,X]→K none [{target:=.collected d,args:=#[]}] w):
  RF Pg 100 none 31 [(2,ptrV t2),(5,ptrV t5)] (.func (.func 281) #[] #[ptrV t]) par_100_6 as_100_6 bd_100_6 ([]) w K:=by
 refine RFo (sgJ p t2 t5 A B X) (fun _=>.pu False) (iter_itU (by simpa using hBl)) H ?_ ?_ ?_
 ·intro l i x hx r w X' hrd hst H
  rw[List.getElem?_map,List.getElem?_map] at hx
  simp only[Option.map_map,Option.map_eq_some_iff] at hx
  obtain⟨⟨n,c⟩,hB,rfl⟩:=hx
  refine y_100_6 H.lp hrd.fn hrd.params hrd.aq hrd.body hrd.size hrd.live ?_
  simp only[D_100_6]
  refine BRo H hst fun w H=>?_
  obtain⟨sv,H⟩:=own_ex.1 H.mv2
  have H:=all5.1 H
  obtain⟨l0,l1,rr,ps,hps,hb,H⟩:=seg_iff.1 H.mv3
  obtain⟨f1,f2,f3⟩:=seg_facts H hb
  have hn:=hBA _ (List.mem_of_getElem? hB)
  (repeat first |refine L1o H rfl ?_ |refine Oc ?_)
  refine LKo' H ?_
  rw[hps,hn]
  simp only[Option.map_some,Option.getD_some]
  refine PV_of (v:=.agg #[.int .u32 n,.int .i64 c]) rfl ?_
  refine NEWSo (w:=w.drew) wgE [(n,c)] H (cs:=#[.int .u32 n,.int .i64 c]) rfl rfl rfl fun tt w H=>?_
  refine⟨L1o H rfl rfl,?_⟩
  refine APPo (E:=wgE) (xs:=B.take i) (ys:=[(n,c)]) H rfl (by decide) (by simp;omega) fun sv' w H=>?_
  have H:=H.drop
  obtain⟨a1,a2,a3,rfl⟩:=sle_slice H.mv5
  refine S1o H rfl rfl fun w H=>?_
  have e:B.take i++[(n,c)]=B.take (i+1):=by rw[List.take_add_one,hB];rfl
  rw[e] at H
  have H:=seg_iff.2 ⟨l0,l1,rr,ps,hps,hb,H⟩
  have H:=sgJ_mk H.mv4.mv1.mv4.mv4.mv4
  exact ERn hrd H.bk2
 ·intro d w H
  obtain⟨sv,H⟩:=own_ex.1 H.mv2
  have H:=all5.1 H
  rw[List.length_map,List.length_map,List.take_length] at H
  exact hK d sv w (H.dp2.mv4.dp5)
 ·intro j d w H
  exact(own_pu.1 H.mv1).1.elim
theorem k_seg_List [f:Foc C (.b p) (seg p A) u] {g:Nat} {B:List (Nat×Nat)} (H:Own w.hp C) (hg:g=0∧B=A∨g=1∧B=[]) (h:∀v w',Own w'.hp (sle v wgE B::u (seg p A))→R v w'):Call Pg 100 #[ptrV p,.int .i64 g] w R:=by
 have H:=f.get H
 obtain⟨l0,l1,r,ps,hps,hb,H⟩:=seg_iff.1 H
 obtain⟨f1,f2,f3⟩:=seg_facts H hb
 have hBl:A.length≤4194304:=by
  have :=(lru_facts (p:=l0) (l:=A.map fun(x:Nat×Nat)=>x.1) H).2.2
  simpa using this
 have hBA:∀x∈A,cst A x.1=some x.2:=fun x hx=>cst_of_mem f1 hx
 refine c_100 ?_
 simp only[F_100]
 refine NEWo H fun t2 w H=>?_
 (repeat first |refine L1o H rfl ?_ |refine Oc ?_)
 refine c_seg_has H rfl (by omega) ?_
 (repeat first |refine L1o H rfl ?_ |refine Oc ?_)
 refine NEWo H fun t5 w H=>?_
 (repeat first |refine L1o H rfl ?_ |refine Oc ?_)
 have fin:∀d v w,Own w.hp [dfr d (some []),pt t5 [v],sle v wgE B,seg p A,.all f.rest]→L1 (ptrV t5) w fun t30=>RET Pg [{target:=.collected d,args:=#[]}] w fun w_6=>R t30 w_6:=by
  intro d v w H
  refine L1o H rfl ?_
  refine RETo H fun w H=>RET_nil ?_
  exact h v w (f.put1 (tl2.2 H.drop.drop))
 rcases hg with ⟨rfl,rfl⟩ |⟨rfl,rfl⟩
 ·refine L1o H rfl ?_
  refine k_lru_All H fun t s w H=>?_
  have H:=tl4.1 (seg_iff.2 ⟨l0,l1,r,ps,hps,hb,H.mv2.mv2.mv2.mv6.mv6.mv6.mv6⟩).mv3.mv3.mv3
  have H:=sgJ_mk (B:=B) (i:=0) (sl_nil wgE H).mv1.mv5.mv5.mv5.mv4.mv5
  refine seg_List_RF (B:=B) hBA hBl H.mv1 fun d v w H=>JMP_none (fin d v w H)
 ·refine L1o H rfl ?_
  refine k_lru_All H fun t s w H=>?_
  have H:=tl4.1 (seg_iff.2 ⟨l0,l1,r,ps,hps,hb,H.mv2.mv2.mv2.mv6.mv6.mv6.mv6⟩).mv3.mv3.mv3
  have H:=sgJ_mk (B:=[]) (i:=0) (sl_nil wgE H).mv1.mv5.mv5.mv5.mv4.mv5
  refine seg_List_RF (B:=[]) (by simp) (by simp) H.mv1 fun d v w H=>JMP_none (fin d v w H)
end
end Go.Cub
namespace Go.Cub
open Go Go.Proofs Go.IntWalk
section
variable {R:Value→World→Prop} {w:World} {C:List HP} {u:HP→List HP} {p q n c:Nat} {A B:List (Nat×Nat)} {tv:Value} {tos:List Nat}
attribute [local irreducible] PV CND GRD L1 LN S1 SN NEW NEWS MKS MKM LK MU DEL LENM APP CPY BTS Call CallV
def renS (tos:List Nat) (A:List (Nat×Nat)):List (Nat×Nat):=A.map fun x=>(tos.getD x.1 0,x.2)
theorem renS_none {i:Nat} (hn:A[i]?=some (n,c)) (hd:((renS tos A).map (·.1)).Nodup):cst (renS tos (A.take i)) (tos.getD n 0)=none:=by
 rw[cst_none]
 intro hm
 have hi:=lt_of_get hn
 have e:A=A.take i++(n,c)::A.drop (i+1):=by
  have :A[i]=(n,c):=by rw[List.getElem?_eq_getElem hi] at hn;simpa using hn
  rw[←this, ←List.drop_eq_getElem_cons hi,List.take_append_drop]
 rw[e] at hd
 simp only[renS,List.map_append,List.map_cons,List.nodup_append] at hd
 exact hd.2.2 _ hm _ List.mem_cons_self rfl
abbrev rnJ (p q t2 t3 t4 t6 t8:Nat) (g:Nat) (A:List (Nat×Nat)) (Q:Nat→List (Nat×Nat)) (tv:Value) (tos:List Nat) (X:HP) (i:Nat):HP:=
 .all [seg p A,seg q (Q i),sle tv u32E tos,pt t2 [ptrV p],pt t3 [tv],pt t4 [.int .i64 0],pt t6 [ptrV q],pt t8 [.int .i64 g],X]
theorem seg_Ren_RF {t t2 t3 t4 t6 t8 g:Nat} {s:Value} {X:HP} {df:List Deferred} {Q:Nat→List (Nat×Nat)} (hB:B=[]∨(B=A∧g=0∧Q=fun i=>renS tos (A.take i))) (hto:∀x∈A,∃y,tos[x.1]?=some y∧y<4194304) (htl:tos.length≤4194304) (hd:((renS tos A).map (·.1)).Nodup)
  (H:Own w.hp [itU t s (B.map fun x=>x.1),rnJ p q t2 t3 t4 t6 t8 g A Q tv tos X 0])
  {K:Option Code→List Deferred→World→Prop} (hK:∀d w,Own w.hp [dfr d (some []),seg p A,seg q (Q B.length),sle tv u32E tos,pt t2 [ptrV p],pt t3 [tv],pt t4 [.int .i64 0],pt t6 [ptrV q],X]→K none ({target:=.collected d,args:=#[]}::df) w):
  RF Pg 118 none 80 [(2,ptrV t2),(3,ptrV t3),(4,ptrV t4),(6,ptrV t6),(8,ptrV t8)] (.func (.func 281) #[] #[ptrV t]) par_118_10 as_118_10 bd_118_10 df w K:=by
 have hBl:B.length≤4194304:=by
  rcases hB with rfl |⟨rfl,_⟩
  ·simp
  ·have H1:=all9.1 H.mv1
   obtain⟨l0,l1,rr,ps,hps,hb,H1⟩:=seg_iff.1 H1
   have :=(lru_facts (p:=l0) (l:=B.map fun(x:Nat×Nat)=>x.1) H1).2.2
   simpa using this
 refine RFo (rnJ p q t2 t3 t4 t6 t8 g A Q tv tos X) (fun _=>.pu False) (iter_itU (by simpa using hBl)) H ?_ ?_ ?_
 ·intro l i x hx r w X' hrd hst H
  rw[List.getElem?_map,List.getElem?_map] at hx
  simp only[Option.map_map,Option.map_eq_some_iff] at hx
  obtain⟨⟨n,c⟩,hn,rfl⟩:=hx
  have hBA:B=A∧g=0∧Q=fun i=>renS tos (A.take i):=by
   rcases hB with rfl |h
   ·simp at hn
   ·exact h
  obtain⟨rfl,rfl,rfl⟩:=hBA
  obtain⟨y,hy,hy2⟩:=hto _ (List.mem_of_getElem? hn)
  have hy:tos[n]?=some y:=hy
  have hyg:tos.getD n 0=y:=by rw[List.getD_eq_getElem?_getD,hy];rfl
  have hnl:=lt_of_get hy
  refine y_118_10 H.lp hrd.fn hrd.params hrd.aq hrd.body hrd.size hrd.live ?_
  simp only[D_118_10]
  refine BRo H hst fun w H=>?_
  have H:=all9.1 H.mv2
  obtain⟨l0,l1,rr,ps,hps,hb,H⟩:=seg_iff.1 H
  obtain⟨f1,f2,f3⟩:=seg_facts H hb
  obtain⟨l0',l1',rr',ps',hps',hb',H⟩:=seg_iff.1 H.mv4
  have hc:=cst_of_mem f1 (List.mem_of_getElem? hn)
  have hc:cst B n=some c:=hc
  have hnone:=renS_none hn hd
  rw[hyg] at hnone
  refine Ob ?_
  refine L1o H rfl ?_
  rw[leno (v:=tv) (E:=u32E) (xs:=tos) H]
  (repeat first |refine L1o H rfl ?_ |refine Oc ?_)
  refine idxo (E:=u32E) (xs:=tos) H hnl ?_
  refine Ob ?_
  refine L1e (E:=u32E) (xs:=tos) H hy rfl ?_
  (repeat first |refine L1o H rfl ?_ |refine Oc ?_)
  refine idxo (E:=u32E) (xs:=tos) H hnl ?_
  refine Ob ?_
  refine L1e (E:=u32E) (xs:=tos) H hy rfl ?_
  refine LKo H ?_
  rw[hps',hnone]
  simp only[Option.map_none,Option.isSome_none]
  (repeat first |refine L1o H rfl ?_ |refine Oc ?_)
  refine idxo (E:=u32E) (xs:=tos) H hnl ?_
  refine Ob ?_
  refine L1e (E:=u32E) (xs:=tos) H hy rfl ?_
  (repeat first |refine L1o H rfl ?_ |refine Oc ?_)
  refine LKo' H ?_
  rw[hps,hc]
  simp only[Option.map_some,Option.getD_some]
  refine c_seg_put (w:=w.drew.drew) H hps' hb' hy2 (hb _ (List.mem_of_getElem? hn)) hnone fun w H=>?_
  have e:renS tos (B.take i)++[(y,c)]=renS tos (B.take (i+1)):=by
   rw[List.take_add_one,hn]
   simp[renS,hy]
  rw[e] at H
  have H:=seg_iff.2 ⟨l0,l1,rr,ps,hps,hb,H.mv4.mv4.mv4.mv4⟩
  exact ERn hrd (all9.2 H).bk2
 ·intro d w H
  have H:=all9.1 H.mv2
  rw[List.length_map,List.length_map] at H
  exact hK d w H.mv8.mv7.mv7.mv7.mv7.mv7.mv7.mv7.mv9.dp9.dp9
 ·intro j d w H
  exact(own_pu.1 H.mv1).1.elim
theorem k_seg_Renumber (H:Own w.hp (seg p A::sle tv u32E tos::C)) (hto:∀x∈A,∃y,tos[x.1]?=some y∧y<4194304) (htl:tos.length≤4194304) (hd:((renS tos A).map (·.1)).Nodup)
  (h:∀w',Own w'.hp (seg p (renS tos A)::sle tv u32E tos::C)→R (.int .i64 0) w'):Call Pg 118 #[ptrV p,tv] w R:=by
 obtain⟨a1,a2,a3,rfl⟩:=sle_slice H.drop
 refine c_118 ?_
 simp only[F_118]
 refine NEWo H fun t2 w H=>?_
 refine NEWo H fun t3 w H=>?_
 refine NEWo H fun t4 w H=>?_
 obtain⟨l0,l1,r,ps,hps,hb,H⟩:=seg_iff.1 H.mv3
 (repeat first |refine L1o H rfl ?_ |refine Oc ?_)
 refine c_seg_check (n:=0) (c:=0) H rfl (by decide) (by decide) ?_
 (repeat first |refine L1o H rfl ?_ |refine Oc ?_)
 refine k_seg_New H fun q w H=>?_
 refine Ob ?_
 refine NEWo H fun t6 w H=>?_
 refine S1o H rfl rfl fun w H=>?_
 refine B_118_6.intro ?_
 simp only[P_118_6]
 (repeat first |refine L1o H rfl ?_ |refine Oc ?_)
 refine NEWo H fun t8 w H=>?_
 refine S1o H rfl rfl fun w H=>?_
 (repeat first |refine L1o H rfl ?_ |refine Oc ?_)
 refine k_lru_All H fun t s w H=>?_
 have H:=tl9.1 (seg_iff.2 ⟨l0,l1,r,ps,hps,hb,H.mv11.mv11.mv11.mv11.mv7.mv7.mv7.mv7.mv11.mv11.mv11.mv11⟩).mv2.mv3.mv5.mv6.mv7.mv8.mv8.mv7.mv8
 refine seg_Ren_RF (B:=A) (Q:=fun i=>renS tos (A.take i)) (.inr ⟨rfl,rfl,rfl⟩) hto htl hd (all9.2 H.bk9).mv1 fun d w H=>JMP_none ?_
 refine Ob ?_
 refine B_118_6.intro ?_
 simp only[P_118_6]
 obtain⟨l0,l1,r,ps,hps,hb,H⟩:=seg_iff.1 H.mv1
 (repeat first |refine L1o H rfl ?_ |refine Oc ?_)
 refine NEWo H fun t8 w H=>?_
 refine S1o H rfl rfl fun w H=>?_
 (repeat first |refine L1o H rfl ?_ |refine Oc ?_)
 refine k_lru_All (l:=[]) H fun t s w H=>?_
 have H:=(seg_iff.2 ⟨l0,l1,r,ps,hps,hb,H.mv13.mv13.mv13.mv13.mv13.mv13.mv13.mv13.mv9.mv9.mv13.mv13.mv13.mv13⟩).mv1.mv2.mv9.mv9.mv9.mv9.mv9.mv9.mv8.mv10.mv10
 have H:=(all9.2 (all2.2 H).bk8).mv1
 refine seg_Ren_RF (B:=[]) (g:=1) (Q:=fun i=>renS tos (A.take A.length)) (.inl rfl) hto htl hd H fun d' w H=>JMP_none ?_
 refine Ob ?_
 refine B_118_6.intro ?_
 simp only[P_118_6]
 have H:=all2.1 H.mv8
 obtain⟨l0,l1,r,ps,hps,hb,H⟩:=seg_iff.1 H.mv3
 obtain⟨l0',l1',r',ps',hps',hb',H⟩:=seg_iff.1 H.mv7
 (repeat first |refine L1o H rfl ?_ |refine Oc ?_)
 refine LNo H (by simp) ?_
 (repeat first |refine L1o H rfl ?_ |refine Oc ?_)
 refine SNo (w:=w.drew) H rfl (by simp) (by simp[Value.oneCell']) fun w H=>?_
 refine S1o H rfl rfl fun w H=>?_
 refine RETo H fun w H=>?_
 refine RETo H fun w H=>?_
 refine RET_nil ?_
 refine L1o H rfl ?_
 rw[List.take_length] at H hps' hb'
 have H:=H.mv11.mv10.mv5.mv5.mv5.mv6.dp6.dp6.dp6.dp6.dp6.dp6.dp6.dp6.dp6.dp6
 exact h w (tl2.2 (seg_iff.2 ⟨l0',l1',r',ps',hps',hb',H⟩).mv1.mv2.mv2)
end
end Go.Cub
namespace Go.Cub
open Go Go.Proofs Go.IntWalk
section
variable {R:Value→World→Prop} {w:World} {C:List HP} {u:HP→List HP} {p N B c s n k:Nat}
attribute [local irreducible] PV CND GRD L1 LN S1 SN NEW NEWS MKS MKM LK MU DEL LENM APP CPY BTS Call CallV
def pairV (a b:Int):Value:=.agg #[.int .i64 a,.int .i64 b]
theorem c_pair_plus {a b c d:Int} (H:Own w.hp C) (h1: -4611686018427387903≤a∧a≤4611686018427387903) (h2: -4611686018427387903≤b∧b≤4611686018427387903) (h3: -4611686018427387903≤c∧c≤4611686018427387903) (h4: -4611686018427387903≤d∧d≤4611686018427387903)
  (h:∀w',Own w'.hp C→R (pairV (a+c) (b+d)) w'):Call Pg 95 #[pairV a b,pairV c d] w R:=by
 refine c_95 ?_
 simp only[F_95,pairV]
 (repeat first |refine L1o H rfl ?_ |refine LNo H (Nat.le_of_ble_eq_true rfl) ?_ |refine⟨L1o H rfl rfl,?_⟩ |refine⟨LNo H (Nat.le_of_ble_eq_true rfl) rfl,?_⟩ |refine NEWo H fun _ w H=>?_ |refine S1o H rfl rfl fun w H=>?_ |refine SNo H rfl (Nat.le_of_ble_eq_true rfl) (by simp[Value.oneCell']) fun w H=>?_ |simp(disch:=omega) only[wp,wc,Nat.reduceAdd,Nat.reduceMul,Int.reduceToNat] |refine PV_of rfl ?_)
 (first |exact h _ H |exact h _ H.drop |exact h _ H.drop.drop |exact h _ H.drop.drop.drop |exact h _ H.drop.drop.drop.drop |exact h _ H.drop.drop.drop.drop.drop)
def bud (p N B c s:Nat):HP:=.all [.pu ((1≤N∧N≤1048576)∧(1≤B∧B≤1099511627776)∧c≤2097152∧s≤2305843009213693952),pt p [.int .i64 N,.int .i64 B,.int .i64 c,.int .i64 s,.int .i64 0,.int .i64 0]]
instance :Keyed (bud p N B c s) (.b p):=⟨⟩
theorem bud_iff {h:Hp}:Own h (bud p N B c s::C)↔((1≤N∧N≤1048576)∧(1≤B∧B≤1099511627776)∧c≤2097152∧s≤2305843009213693952)∧Own h (pt p [.int .i64 N,.int .i64 B,.int .i64 c,.int .i64 s,.int .i64 0,.int .i64 0]::C):=by
 simp only[bud,all2,own_pu]
theorem eqA2 (a b c d:Int):eqA [.int .i64,.int .i64] (.agg #[.int .i64 a,.int .i64 b]) (.agg #[.int .i64 c,.int .i64 d])=some (.bool (decide (a=c)&&(decide (b=d)&&true))):=rfl
theorem c_bud_none {N B:Nat} {l:List Value} [f:Foc C (.b p) (pt p (.int .i64 N:: .int .i64 B::l)) u] (H:Own w.hp C) (hN:1≤N) (h:R (.bool false) w):Call Pg 94 #[ptrV p] w R:=by
 refine c_94 ?_
 simp only[F_94]
 refine Ob ?_
 refine LNo H (by simp) ?_
 refine Ob ?_
 refine PV_of (v:=.agg #[.int .i64 0,.int .i64 0]) rfl ?_
 refine PV_of (eqA2 _ _ _ _) ?_
 have :decide ((N:Int)=0)=false:=by simp;omega
 rw[this]
 refine Ob ?_
 exact h
theorem c_bud_check {N B:Nat} {l:List Value} [f:Foc C (.b p) (pt p (.int .i64 N:: .int .i64 B::l)) u] (H:Own w.hp C) (hN:1≤N) (hs:s≤1099511627776) (h:R (.int .i64 0) w):Call Pg 171 #[ptrV p,.int .i64 0,.int .i64 s] w R:=by
 refine c_171 ?_
 simp only[F_171]
 refine c_bud_none H hN ?_
 refine Ob ?_
 exact h
theorem k_bud_Add [f:Foc C (.b p) (bud p N B c s) u] (H:Own w.hp C) (hc:c<2097152) (hn:s+n≤2305843009213693952) (hn':n≤1099511627776) (h:∀w',Own w'.hp (u (bud p N B (c+1) (s+n)))→R (.int .i64 0) w'):Call Pg 186 #[ptrV p,.int .i64 0,.int .i64 n] w R:=by
 obtain⟨hb,H⟩:=bud_iff.1 (f.get H)
 refine c_186 ?_
 simp only[F_186]
 refine c_bud_check H hb.1.1 hn' ?_
 refine Ob ?_
 refine LNo H (by simp) ?_
 refine PV_of (v:=pairV 1 n) rfl ?_
 refine c_pair_plus (a:=c) (b:=s) H (by omega) (by omega) (by omega) (by omega) fun w H=>?_
 refine NSo H rfl rfl (by simp[pairV,Value.oneCell']) fun t w H=>?_
 refine LNo H (by simp[pairV]) ?_
 refine c_185 ?_
 simp only[F_185]
 refine NEWo H fun t2 w H=>?_
 (repeat first |refine L1o H rfl ?_ |refine Oc ?_)
 refine LNo H (by simp[pairV]) ?_
 refine SNo (w:=w.drew) H rfl (by simp) (by simp[pairV,Value.oneCell']) fun w H=>?_
 have H:=H.drop.drop
 rw[show(c:Int)+1=(c+1:Nat) by omega,show(s:Int)+n=(s+n:Nat) by omega] at H
 exact h w (f.put (bud_iff.2 ⟨by omega,H⟩))
theorem k_bud_Remove [f:Foc C (.b p) (bud p N B c s) u] (H:Own w.hp C) (hc:1≤c) (hn:n≤s) (hn1:c=1→s=n) (hn':n≤1099511627776) (h:∀w',Own w'.hp (u (bud p N B (c - 1) (s - n)))→R (.int .i64 0) w'):Call Pg 107 #[ptrV p,.int .i64 0,.int .i64 n] w R:=by
 obtain⟨hb,H⟩:=bud_iff.1 (f.get H)
 refine c_107 ?_
 simp only[F_107]
 refine c_bud_check H hb.1.1 hn' ?_
 refine Ob ?_
 refine c_172 ?_
 simp only[F_172]
 refine Ob ?_
 refine LNo H (by simp) ?_
 refine NSo H rfl rfl (by simp[Value.oneCell']) fun t w H=>?_
 (repeat first |refine L1o H rfl ?_ |refine Oc ?_)
 have fin:∀w,Own w.hp (pt p [.int .i64 N,.int .i64 B,.int .i64 c,.int .i64 s,.int .i64 0,.int .i64 0]::f.rest)→LN 2 (.pointer (some ⟨p,2,none⟩)) w fun t27=>
 PV (unV .neg (.int .i64 n)) fun t29=>
 PV (buildV [(0,1),(1,1)] (.agg #[.int .i64 0,.int .i64 0]) [(0,.int .i64 (-1)),(1,t29)]) fun t30=>
 Call Pg 95 #[t27,t30] (World.drew w) fun t31 w_3=>
 SN 2 (.pointer (some ⟨p,2,none⟩)) t31 w_3 fun w_4=>
 R (.int .i64 0) w_4:=by
  intro w H
  refine LNo H (by simp) ?_
  refine PV_of (v:=.int .i64 (-n)) (by simp[unV];exact i64_in _ (by omega)) ?_
  refine PV_of (v:=pairV (-1) (-n)) rfl ?_
  refine c_pair_plus (w:=w.drew) (a:=c) (b:=s) H (by omega) (by omega) (by omega) (by omega) fun w H=>?_
  refine SNo H rfl (by simp) (by simp[pairV,Value.oneCell']) fun w H=>?_
  rw[show(c:Int)+ -1=(c - 1:Nat) by omega,show(s:Int)+ -n=(s - n:Nat) by omega] at H
  exact h w (f.put (bud_iff.2 ⟨by omega,H⟩))
 by_cases h1:1<c
 ·have d1:decide ((1:Int)<c)=true:=by simp;omega
  have d2:decide ((n:Int)≤s)=true:=by simp;omega
  simp only[d1]
  (repeat first |refine L1o H rfl ?_ |refine Oc ?_)
  exact fin w H.drop
 ·have h2:c=1:=by omega
  have h3:=hn1 h2
  subst h2;subst h3
  (repeat first |refine L1o H rfl ?_ |refine Oc ?_)
  refine LNo H (by simp) ?_
  refine PV_of (v:=.agg #[.int .i64 1,.int .i64 s]) rfl ?_
  refine PV_of (eqA2 _ _ _ _) ?_
  refine Ob ?_
  simp only[Bool.and_self]
  refine Ob ?_
  exact fin w H.drop
theorem max0 (a b:Nat):(if (a:Int)+ -b>0 then(a:Int)+ -b else 0)=(a - b:Nat):=by split<;>omega
theorem k_bud_Over [f:Foc C (.b p) (bud p N B c s) u] (H:Own w.hp C) (h:∀w',Own w'.hp C→R (.tuple #[.int .i64 (c - N:Nat),.int .i64 (s - B:Nat)]) w'):Call Pg 98 #[ptrV p] w R:=by
 obtain⟨hb,H⟩:=bud_iff.1 (f.get H)
 have h:∀w',Own w'.hp (pt p [.int .i64 N,.int .i64 B,.int .i64 c,.int .i64 s,.int .i64 0,.int .i64 0]::f.rest)→R (.tuple #[.int .i64 (c - N:Nat),.int .i64 (s - B:Nat)]) w':=fun w' H=>h w' (by rw[f.eq];exact f.put (bud_iff.2 ⟨hb,H⟩))
 refine c_98 ?_
 simp only[F_98]
 refine c_bud_none H hb.1.1 ?_
 refine Ob ?_
 refine LNo H (by simp) ?_
 refine LNo H (by simp) ?_
 (repeat first |refine L1o H rfl ?_ |refine Oc ?_)
 refine PV_of (v:=.int .i64 (-N)) (by simp[unV];exact i64_in _ (by omega)) ?_
 (repeat first |refine L1o H rfl ?_ |refine Oc ?_)
 refine PV_of (v:=.int .i64 (-B)) (by simp[unV];exact i64_in _ (by omega)) ?_
 refine PV_of (v:=pairV (-N) (-B)) rfl ?_
 have tail:∀t (w:World),Own w.hp (pt t [.int .i64 ((c:Int)+0+ -N),.int .i64 ((s:Int)+0+ -B)]::pt p [.int .i64 N,.int .i64 B,.int .i64 c,.int .i64 s,.int .i64 0,.int .i64 0]::f.rest)→
   (PV (fldV 0 (ptrV t)) fun t32=>
 L1 t32 w fun t33=>
 PV (maxV (.int .i64 0) t33) fun t34=>
 PV (fldV 1 (ptrV t)) fun t35=>
 L1 t35 w fun t36=>
 PV (maxV (.int .i64 0) t36) fun t37=>
 R (.tuple #[t34,t37]) (World.drew w)):=by
  intro t w H
  (repeat first |refine L1o H rfl ?_ |refine Oc ?_)
  rw[Int.add_zero,Int.add_zero,max0,max0]
  exact h _ H.drop
 refine⟨?_,?_⟩
 ·refine c_pair_plus (w:=w.drew) (a:=c) (b:=s) (c:=0) (d:=0) H (by omega) (by omega) (by omega) (by omega) fun w H=>?_
  refine⟨L1o H rfl rfl,L1o H rfl rfl,?_,?_⟩
  ·refine c_pair_plus (a:=c+0) (b:=s+0) (c:= -N) (d:= -B) H (by omega) (by omega) (by omega) (by omega) fun w H=>?_
   refine NSo H rfl rfl (by simp[pairV,Value.oneCell']) fun t w H=>?_
   exact tail t w H
  ·refine NEWo H fun t w H=>?_
   refine⟨L1o H rfl rfl,L1o H rfl rfl,?_⟩
   refine c_pair_plus (a:=c+0) (b:=s+0) (c:= -N) (d:= -B) H (by omega) (by omega) (by omega) (by omega) fun w H=>?_
   refine SNo H rfl (by simp) (by simp[pairV,Value.oneCell']) fun w H=>?_
   exact tail t w H
 ·refine NEWo (w:=w.drew) H fun t w H=>?_
  refine⟨L1o H rfl rfl,L1o H rfl rfl,LNo H (by simp) rfl,LNo H (by simp) rfl,?_⟩
  refine c_pair_plus (a:=c) (b:=s) (c:=0) (d:=0) H (by omega) (by omega) (by omega) (by omega) fun w H=>?_
  refine⟨L1o H rfl rfl,L1o H rfl rfl,?_⟩
  refine c_pair_plus (a:=c+0) (b:=s+0) (c:= -N) (d:= -B) H (by omega) (by omega) (by omega) (by omega) fun w H=>?_
  refine SNo H rfl (by simp) (by simp[pairV,Value.oneCell']) fun w H=>?_
  exact tail t w H
theorem k_bud_Total [f:Foc C (.b p) (bud p N B c s) u] (H:Own w.hp C) (h:∀w',Own w'.hp C→R (.tuple #[.int .i64 c,.int .i64 s]) w'):Call Pg 46 #[ptrV p] w R:=by
 obtain⟨hb,H⟩:=bud_iff.1 (f.get H)
 have h:∀w',Own w'.hp (pt p [.int .i64 N,.int .i64 B,.int .i64 c,.int .i64 s,.int .i64 0,.int .i64 0]::f.rest)→R (.tuple #[.int .i64 c,.int .i64 s]) w':=fun w' H=>h w' (by rw[f.eq];exact f.put (bud_iff.2 ⟨hb,H⟩))
 refine c_46 ?_
 simp only[F_46]
 refine c_bud_none H hb.1.1 ?_
 refine Ob ?_
 refine LNo H (by simp) ?_
 refine LNo H (by simp) ?_
 refine⟨?_,?_⟩
 ·refine c_pair_plus (w:=w.drew) (a:=c) (b:=s) (c:=0) (d:=0) H (by omega) (by omega) (by omega) (by omega) fun w H=>?_
  refine NSo H rfl rfl (by simp[pairV,Value.oneCell']) fun t w H=>?_
  (repeat first |refine L1o H rfl ?_ |refine Oc ?_)
  rw[Int.add_zero,Int.add_zero]
  exact h _ H.drop
 ·refine NEWo (w:=w.drew) H fun t w H=>?_
  refine⟨LNo H (by simp) rfl,LNo H (by simp) rfl,?_⟩
  refine c_pair_plus (a:=c) (b:=s) (c:=0) (d:=0) H (by omega) (by omega) (by omega) (by omega) fun w H=>?_
  refine SNo H rfl (by simp) (by simp[pairV,Value.oneCell']) fun w H=>?_
  (repeat first |refine L1o H rfl ?_ |refine Oc ?_)
  rw[Int.add_zero,Int.add_zero]
  exact h _ H.drop
theorem k_bud_New (H:Own w.hp C) (hN:1≤N∧N≤1048576) (hB:1≤B∧B≤1099511627776) (h:∀p w',Own w'.hp (bud p N B 0 0::C)→R (.tuple #[ptrV p,.int .i64 0]) w'):Call Pg 74 #[.int .i64 N,.int .i64 B] w R:=by
 refine c_74 ?_
 simp only[F_74]
 refine c_111 ?_
 simp only[F_111]
 refine Ob ?_
 refine PV_of (v:=.agg #[.int .i64 N,.int .i64 B]) rfl ?_
 refine PV_of (v:=.agg #[.int .i64 N,.int .i64 B,.int .i64 0,.int .i64 0,.int .i64 0,.int .i64 0]) rfl ?_
 refine NEWo H fun p w H=>?_
 exact h p w (bud_iff.2 ⟨by omega,H⟩)
end
end Go.Cub
namespace Go.Cub
open Go Go.Proofs Go.IntWalk
section
variable {R:Value→World→Prop} {w:World} {L:List HP} {u:HP→List HP} {v:Value} {α:Type} {E:Enc α} {xs:List α}
theorem cloneo [f:Foc L (.v v) (sle v E xs) u] {e e' b:Nat} {z:Value} (H:Own w.hp L) (hz:z.cells.size=E.k) (hb:0<b∧b≤1024) (hB:buildS E.k z 0 []=some #[]) (hn:xs.length≤68719476736) (h:∀v' w',Own w'.hp (sle v' E xs::L)→R v' w'):
  PV (binB (.slice e) .eql v (.slice none 0 0)) fun t=>CND t (R (.slice none 0 0) w) (NEWS e' 0 (buildS E.k z 0 []) w fun t5 w1=>APP e' E.k b z t5 v w1 fun t7 w2=>R t7 w2):=by
 obtain⟨F,s⟩:=(f.get H).sl
 rcases s.2 with ⟨rfl,h0,_⟩ |⟨bb,off,cap,cs,rfl,_⟩
 ·have :xs=[]:=List.length_eq_zero_iff.1 h0
  subst this
  simp only[wp]
  exact h _ _ (sl_nil E H)
 ·simp only[wp]
  refine NEWSo E [] H (cs:=#[]) hB rfl rfl fun t w H=>?_
  refine APPo (E:=E) (xs:=[]) (ys:=xs) H hz hb (by simpa using hn) fun v' w H=>?_
  exact h v' w H
theorem fl_take (E:Enc α) (xs:List α) (i:Nat):(E.fl xs).take (i * E.k)=E.fl (xs.take i):=by
 induction xs generalizing i with
 |nil=>simp[Enc.fl]
 |cons x xs ih=>
  cases i with
  |zero=>simp[Enc.fl]
  |succ i=>
   have e:E.fl (x::xs)=E.c x++E.fl xs:=rfl
   have e':E.fl ((x::xs).take (i+1))=E.c x++E.fl (xs.take i):=rfl
   rw[e,e', ←ih,Nat.add_one_mul,Nat.add_comm, ←E.hk x,List.take_length_add_append]
theorem fl_drop (E:Enc α) (xs:List α) (i:Nat):(E.fl xs).drop (i * E.k)=E.fl (xs.drop i):=by
 induction xs generalizing i with
 |nil=>simp[Enc.fl]
 |cons x xs ih=>
  cases i with
  |zero=>simp[Enc.fl]
  |succ i=>
   have e:E.fl (x::xs)=E.c x++E.fl xs:=rfl
   have e':E.fl ((x::xs).drop (i+1))=E.fl (xs.drop i):=rfl
   rw[e,e', ←ih,Nat.add_one_mul,Nat.add_comm, ←E.hk x,List.drop_length_add_append]
theorem slcfo [f:Foc L (.v v) (sle v E xs) u] {kd:IntKind} {i:Nat} {K:Value→Prop} (H:Own w.hp L) (hi:i≤xs.length) (h:∀v',Own w.hp (u (sle v' E (xs.drop i)))→K v'):PV (slc E.k v (some (.int kd i)) none none) K:=by
 obtain⟨F,s⟩:=(f.get H).sl
 obtain⟨v',e,_⟩:=s.slc_from (k:=kd) hi
 refine PV_of e (h v' (f.put (own_sle (f.get H) fun F' s'=>?_)))
 obtain⟨v'',e',s''⟩:=s'.slc_from (k:=kd) hi
 rw[e] at e'
 simp only[Option.some.injEq] at e'
 subst e'
 rw[fl_drop] at s''
 exact⟨Mod.refl _ _,by rw[List.length_drop];exact s''⟩
theorem slcto [f:Foc L (.v v) (sle v E xs) u] {kd:IntKind} {i:Nat} {K:Value→Prop} (H:Own w.hp L) (hi:i≤xs.length) (h:∀v',Own w.hp (u (sle v' E (xs.take i)))→K v'):PV (slc E.k v none (some (.int kd i)) none) K:=by
 obtain⟨F,s⟩:=(f.get H).sl
 obtain⟨v',e,_⟩:=s.slc_to (k':=kd) hi
 refine PV_of e (h v' (f.put (own_sle (f.get H) fun F' s'=>?_)))
 obtain⟨v'',e',s''⟩:=s'.slc_to (k':=kd) hi
 rw[e] at e'
 simp only[Option.some.injEq] at e'
 subst e'
 rw[fl_take] at s''
 exact⟨Mod.refl _ _,by rw[List.length_take,Nat.min_eq_left hi];exact s''⟩
theorem APZo {e b n:Nat} {kd:IntKind} {z:Value} {K:Value→World→Prop} (E:Enc α) (y:α) (H:Own w.hp L) (hz:z.cells.toList=E.c y) (hb:0<b∧b≤1024) (hn:1≤n∧n≤68719476736)
  (h:∀v w',Own w'.hp (sle v E (List.replicate n y)::L)→K v w'):APZ e E.k b z (.slice none 0 0) (.int kd n) w K:=by
 refine⟨by omega,by omega,hb.1,hb.2,?_⟩
 simp only[Int.toNat_natCast,Nat.zero_add]
 rw[if_neg (by omega)]
 refine⟨by omega,?_⟩
 simp only[srcCells,if_true]
 intro cap hcap
 have hzl:z.cells.toList.length=E.k:=by rw[hz,E.hk]
 refine h _ _ (H.modNew (F':=[w.heap.size]) (Ext.drew.ext_trans (Ext.alloc _)) ⟨?_,rfl⟩ (by simp))
 have e1:zeros z.cells.toList n=E.fl (List.replicate n y):=by simp[zeros,Enc.fl,hz,List.flatMap]
 refine⟨by rw[E.fl_length],.inr ⟨w.heap.size,0,cap,_,by simp,rfl,row_alloc_new (w:=w.drew) _ _,?_,by simpa using hcap,?_⟩⟩
 ·have :n * E.k+(cap - n) * E.k=cap * E.k:=by rw[←Nat.add_mul];congr 1;omega
  simp[zeros_length,hzl];omega
 ·rw[e1,List.drop_zero, ←E.fl_length]
  simp
theorem clro [f:Foc L (.v v) (sle v E xs) u] {kd kd':IntKind} {i:Nat} {z:Value} {K:Value→World→Prop} (H:Own w.hp L) (hz:z.cells.size=E.k) (ho:∀x∈z.cells.toList,x.oneCell'=true) (hi:i≤xs.length) (h:∀v' w',Own w'.hp (u (sle v' E (xs.take i)))→K v' w'):
  PV (slc E.k v (some (.int kd i)) none none) fun t=>CLR z t w fun w'=>PV (slc E.k v none (some (.int kd' i)) none) fun t'=>K t' w':=by
 obtain⟨F,G,a,hu⟩:=(f.get H).upd
 have s:Sl w v E.k xs.length (E.fl xs) F:=a.1
 have hF:F.Nodup:=s.nodupF
 rcases s.2 with ⟨rfl,h0,rfl⟩ |⟨b,off,cap,cs,rfl,rfl,h3,h4,h5,h6⟩
 ·have :xs=[]:=List.length_eq_zero_iff.1 h0
  subst this
  have hi':i=0:=by simpa using hi
  subst hi'
  have e1:slc E.k (.slice none 0 0) (some (.int kd (0:Nat))) none none=some (.slice none 0 0):=by simp[slc,natOf,slcV]
  have e2:slc E.k (.slice none 0 0) none (some (.int kd' (0:Nat))) none=some (.slice none 0 0):=by simp[slc,natOf,slcV]
  rw[e1,e2]
  simp only[wp]
  show K (.slice none 0 0) w
  refine h _ w ?_
  have :=f.eq
  rw[List.take_nil, ←this];exact H
 ·have hle:xs.length * E.k≤cap * E.k:=Nat.mul_le_mul_right _ h5
  have hadd:(Addr.add ⟨b,off,none⟩ (i * E.k))=⟨b,off+i * E.k,none⟩:=by unfold Addr.add;by_cases e:i * E.k=0<;>simp[e]
  have e1:slc E.k (.slice (some ⟨b,off,none⟩) xs.length cap) (some (.int kd i)) none none=some (.slice (if cap=i then some ⟨b,off,none⟩ else some ⟨b,off+i * E.k,none⟩) (xs.length - i) (cap - i)):=by
   simp[slc,natOf,slcV,hadd,h5,hi]
  have e2:slc E.k (.slice (some ⟨b,off,none⟩) xs.length cap) none (some (.int kd' i)) none=some (.slice (some ⟨b,off,none⟩) i cap):=by
   have :i≤cap:=by omega
   have hz0:(Addr.add ⟨b,off,none⟩ 0)=⟨b,off,none⟩:=rfl
   simp[slc,natOf,slcV,this,hz0]
  rw[e1,e2]
  simp only[wp]
  have hik:i * E.k≤xs.length * E.k:=Nat.mul_le_mul_right _ hi
  have done:∀w' cs',row w' b=some cs'→cs'.length=cs.length→(cs'.drop off).take (i * E.k)=(cs.drop off).take (i * E.k)→Mod [b] w w'→K (.slice (some ⟨b,off,none⟩) i cap) w':=by
   intro w' cs' hr hl ht hm
   refine h _ w' (f.put (hu _ (sle (.slice (some ⟨b,off,none⟩) i cap) E (xs.take i)) [b] [] (fun x hx hx'=>hm.same x hx hx') hm.he ⟨⟨E.fl_length _,.inr ⟨b,off,cap,cs',?_,rfl,hr,by omega,?_,?_⟩⟩,rfl⟩ (fun x hx=>.inl hx) (by simp)))
   ·rw[List.length_take,Nat.min_eq_left hi]
   ·rw[List.length_take];omega
   ·rw[←fl_take,h6,List.length_take,Nat.min_eq_left hi,ht,List.take_take,Nat.min_eq_left hik]
  by_cases hni:xs.length - i=0
  ·have hcl:CLR z (.slice (if cap=i then some ⟨b,off,none⟩ else some ⟨b,off+i * E.k,none⟩) (xs.length - i) (cap - i)) w (fun w'=>K (.slice (some ⟨b,off,none⟩) i cap) w')=K (.slice (some ⟨b,off,none⟩) i cap) w:=by
    rw[hni];unfold CLR;split<;>simp_all
   rw[hcl]
   exact done w cs h3 rfl rfl (Mod.refl _ _)
  ·have hci:cap≠i:=by omega
   obtain⟨m,hm⟩:∃m,xs.length - i=m+1:=⟨xs.length - i - 1,by omega⟩
   rw[if_neg hci,hm]
   have hzl:(zeros z.cells.toList (m+1)).length=(m+1) * E.k:=by rw[zeros_length];simp[hz]
   have hsum:i * E.k+(m+1) * E.k=xs.length * E.k:=by rw[←Nat.add_mul, ←hm];congr 1;omega
   have hoz:∀x∈zeros z.cells.toList (m+1),x.oneCell'=true:=by
    intro x hx
    simp only[zeros,List.mem_flatten,List.mem_replicate] at hx
    obtain⟨l,⟨_,rfl⟩,hx⟩:=hx
    exact ho x hx
   obtain⟨w',p1,p2,p3,p4⟩:=put_row (zeros z.cells.toList (m+1)) w cs (off+i * E.k) 0 h3 (by rw[hzl];omega) hoz
   simp only[CLR,p1]
   refine done w' _ p2 ?_ ?_ p3
   ·simp only[splice,List.length_append,List.length_take,List.length_drop];omega
   ·simp only[splice,Nat.add_zero]
    apply List.ext_getElem?
    intro j
    simp only[List.getElem?_take,List.getElem?_drop]
    split
    ·rename_i hj
     rw[List.append_assoc,List.getElem?_append_left (by rw[List.length_take];omega),List.getElem?_take,if_pos (by omega)]
    ·rfl
end
end Go.Cub
