/-
  Part 18 of the proof that TopNested returns true and leaves what it was given as it was. CONDITIONS: those of the given row and card.
-/
import Derived.Test.YtpelalpajdpkgaaGreatDoorZ16
set_option linter.all false
namespace Go.Cub
open Go Go.Proofs Go.IntWalk
def vict (N B:Nat):Nat→Nat→List (Nat×Nat)→List Nat
 |_,_,[]=>[]
 |n,c,x::l=>if N<n∨B<c then x.1::vict N B (n - 1) (c - x.2) l else[]
def slE:Enc (Option Addr×Nat×Nat):=⟨1,fun x=>[.slice x.1 x.2.1 x.2.2],fun _=>rfl,fun x v h=>by simp at h;subst h;rfl⟩
section
variable {R:Value→World→Prop} {w:World} {L C:List HP} {u:HP→List HP} {v v0 v1:Value} {A:List (Nat×Nat)} {keep N B:Nat}
attribute [local irreducible] PV CND GRD L1 LN S1 SN NEW NEWS MKS MKM LK MU DEL LENM APP CPY BTS Call CallV
theorem c_Grow (H:Own w.hp L) {n:Nat} (hn:n≤68719476736) (h:∀v w',Own w'.hp (sle v wgE []::L)→R v w'):Call Pg 276 #[.slice none 0 0,.int .i64 n] w R:=by
 refine c_276 ?_
 simp only[F_276]
 refine Ob ?_
 refine B_276_3.intro ?_
 simp only[P_276_3,capV_eq]
 refine Ob ?_
 by_cases h0:n=0
 ·subst h0
  refine Ob ?_
  exact h _ w (sl_nil wgE H)
 ·have e:((n:Int) - (((0:Nat):Int) - ((0:Nat):Int)))=n:=by omega
  rw[e]
  refine Ob ?_
  refine PV_of (v:=.slice none 0 0) (by simp[slc,natOf,slcV]) ?_
  refine APZo wgE (0,0) H rfl (by decide) (by omega) fun v w H=>?_
  refine slcto (E:=wgE) (v:=v) H (i:=0) (by simp) fun v' H=>?_
  exact h v' w H
theorem c_Concat {A0 A1:List (Nat×Nat)} [f0:Foc L (.v v0) (sle v0 wgE A0) u] {u1:HP→List HP} [f1:Foc L (.v v1) (sle v1 wgE A1) u1] (H:Own w.hp (sle v slE [((match v0 with |.slice a n c=>(a,n,c) |_=>(none,0,0))),(match v1 with |.slice a n c=>(a,n,c) |_=>(none,0,0))]::L))
  (h0:A0.length≤4194304) (h1:A1.length≤4194304) (h:∀v' w',Own w'.hp (sle v' wgE (A0++A1)::L)→R v' w'):Call Pg 223 #[v] w R:=by
 obtain⟨a0,n0,c0,rfl⟩:=sle_slice (f0.get H.drop)
 obtain⟨a1,n1,c1,rfl⟩:=sle_slice (f1.get H.drop)
 have e0:n0=A0.length:=by have :=leno (f:=f0) H.drop;simp[lenS] at this;omega
 have e1:n1=A1.length:=by have :=leno (f:=f1) H.drop;simp[lenS] at this;omega
 subst e0;subst e1
 refine c_223 ?_
 simp only[F_223]
 rw[leno (E:=slE) H]
 refine Os ?_
 refine B_223_3.intro ?_
 simp only[P_223_3,List.length_cons,List.length_nil]
 refine Ob ?_
 refine idxo (E:=slE) (i:=0) H (by simp) ?_
 refine L1e (E:=slE) H rfl rfl ?_
 refine Ob ?_
 refine B_223_3.intro ?_
 simp only[P_223_3]
 refine Ob ?_
 refine idxo (E:=slE) (i:=1) H (by simp) ?_
 refine L1e (E:=slE) H rfl rfl ?_
 refine Ob ?_
 refine B_223_3.intro ?_
 simp only[P_223_3]
 refine Ob ?_
 rw[show((0:Int)+A0.length+A1.length)=(A0.length+A1.length:Nat) by omega]
 refine c_Grow H (by omega) fun s w H=>?_
 have H:=H.mv1
 rw[leno (v:=v) (E:=slE) H]
 refine Os ?_
 refine B_223_11.intro ?_
 simp only[P_223_11,List.length_cons,List.length_nil]
 refine Ob ?_
 refine idxo (E:=slE) (i:=0) H (by simp) ?_
 refine L1e (E:=slE) H rfl rfl ?_
 refine APPo (E:=wgE) (xs:=[]) (ys:=A0) (v:=s) H rfl (by decide) (by simp;omega) fun s' w H=>?_
 refine Ob ?_
 refine B_223_11.intro ?_
 simp only[P_223_11]
 refine Ob ?_
 refine idxo (E:=slE) (i:=1) H (by simp) ?_
 refine L1e (E:=slE) H rfl rfl ?_
 refine APPo (E:=wgE) (xs:=A0) (ys:=A1) (v:=s') H rfl (by decide) (by omega) fun s' w H=>?_
 refine Ob ?_
 refine B_223_11.intro ?_
 simp only[P_223_11]
 refine Ob ?_
 exact h _ _ H.drop
def TestF (f:Value) (Q:HP) (p:Nat×Nat→Bool):Prop:=∀(x:Nat×Nat) (w:World) (K:Value→World→Prop) (L:List HP),Own w.hp (Q::L)→(∀w',Own w'.hp (Q::L)→K (.bool (p x)) w')→CallV Pg f #[.agg #[.int .u32 x.1,.int .i64 x.2]] w K
theorem c_IndexFunc {f:Value} {Q:HP} {p:Nat×Nat→Bool} (hf:TestF f Q p) (H:Own w.hp (sle v wgE A::Q::L)) (hA:A.length≤68719476736) (h:∀w',Own w'.hp (sle v wgE A::Q::L)→(∀x∈A,p x=false)→R (.int .i64 (-1)) w')
  (h2:∀w' i x,Own w'.hp (sle v wgE A::Q::L)→A[i]?=some x→p x=true→(∀x∈A.take i,p x=false)→R (.int .i64 i) w'):Call Pg 325 #[v,f] w R:=by
 refine c_325 ?_
 simp only[F_325]
 rw[leno (E:=wgE) H]
 refine Os ?_
 have loop:∀(m i:Nat) (w:World),m+i=A.length→Own w.hp (sle v wgE A::Q::L)→(∀x∈A.take i,p x=false)→B_325_2 R v f (.int .i64 A.length) (.int .i64 i) w:=by
  intro m
  induction m with
  |zero=>
   intro i w hm H hp
   refine B_325_2.intro ?_
   simp only[P_325_2]
   refine Ob ?_
   exact h w H (by rwa[List.take_of_length_le (by omega)] at hp)
  |succ m ih=>
   intro i w hm H hp
   refine B_325_2.intro ?_
   simp only[P_325_2]
   refine Ob ?_
   have hx:A[i]?=some A[i]:=List.getElem?_eq_getElem (by omega)
   refine idxo (E:=wgE) H (by omega) ?_
   refine LNe (E:=wgE) H hx ?_
   refine hf _ w _ _ H.mv1 fun w H=>?_
   have H:=H.mv1
   cases hpx:p A[i] with
   |true=>
    refine Ob ?_
    exact h2 w i _ H hx hpx hp
   |false=>
    refine Ob ?_
    refine ih (i+1) w (by omega) H ?_
    intro y hy
    rw[List.take_add_one,hx] at hy
    simp only[Option.toList_some,List.mem_append,List.mem_singleton] at hy
    rcases hy with hy |rfl
    ·exact hp y hy
    ·exact hpx
 exact loop A.length 0 w (by omega) H (by simp)
theorem c_DeleteFunc {f:Value} {Q:HP} {p:Nat×Nat→Bool} (hf:TestF f Q p) (H:Own w.hp (sle v wgE A::Q::L)) (hA:A.length≤68719476736) (h:∀v' w',Own w'.hp (sle v' wgE (A.filter fun x=> !p x)::Q::L)→R v' w'):Call Pg 277 #[v,f] w R:=by
 refine c_277 ?_
 simp only[F_277]
 refine c_IndexFunc hf H hA (fun w H hp=>?_) (fun w i x H hi hx hp=>?_)
 ·refine Ob ?_
  refine h v w ?_
  rwa[List.filter_eq_self.2 (fun x hx=>by simp[hp x hx])]
 ·have hil:=lt_of_get hi
  refine Ob ?_
  rw[show((i:Int)+1)=((i+1:Nat):Int) by omega]
  have loop:∀(m j n:Nat) (ys:List (Nat×Nat)) (w:World),m+j=A.length→n<j→ys.length=A.length→ys.take n=(A.take j).filter (fun x=> !p x)→ys.drop j=A.drop j→Own w.hp (sle v wgE ys::Q::L)→
    B_277_5 R v f (.int .i64 n) (.int .i64 j) w:=by
   intro m
   induction m with
   |zero=>
    intro j n ys w hm hn hl h1 h3 H
    refine B_277_5.intro ?_
    simp only[P_277_5]
    rw[leno (E:=wgE) H]
    refine Ob ?_
    refine clro (E:=wgE) H rfl (by simp[Value.oneCell']) (by omega) fun v' w H=>?_
    refine h v' w ?_
    rw[h1,List.take_of_length_le (by omega)] at H
    exact H
   |succ m ih=>
    intro j n ys w hm hn hl h1 h3 H
    refine B_277_5.intro ?_
    simp only[P_277_5]
    rw[leno (E:=wgE) H]
    refine Ob ?_
    have hx:A[j]?=some A[j]:=List.getElem?_eq_getElem (by omega)
    have hy:ys[j]?=some A[j]:=by
     have :=congrArg (·[0]?) h3
     simpa[hx] using this
    refine idxo (E:=wgE) H (by omega) ?_
    refine LNe (E:=wgE) H hy ?_
    refine NSo H rfl rfl (by simp[wgE,Value.oneCell']) fun t w H=>?_
    refine LNo H (by simp[wgE]) ?_
    refine hf (A[j]) w _ _ H.mv2 fun w H=>?_
    have H:=H.bk2
    have htk:A.take (j+1)=A.take j++[A[j]]:=by rw[List.take_add_one,hx];rfl
    cases hpx:p A[j] with
    |true=>
     refine Ob ?_
     rw[show((j:Int)+1)=((j+1:Nat):Int) by omega]
     refine ih (j+1) n ys w (by omega) (by omega) hl ?_ ?_ H.drop
     ·rw[htk,List.filter_append,h1];simp[hpx]
     ·have :=congrArg (·.drop 1) h3
      simpa[List.drop_drop] using this
    |false=>
     refine Ob ?_
     refine LNo H (by simp[wgE]) ?_
     have hyn:ys[n]?=some ys[n]:=List.getElem?_eq_getElem (by omega)
     refine idxo (E:=wgE) H (by omega) ?_
     refine SNe (E:=wgE) (A[j]) H hyn rfl fun w H=>?_
     rw[show((j:Int)+1)=((j+1:Nat):Int) by omega,show((n:Int)+1)=((n+1:Nat):Int) by omega]
     refine ih (j+1) (n+1) _ w (by omega) (by omega) (by simpa using hl) ?_ ?_ H.drop
     ·rw[htk,List.filter_append, ←h1,List.take_add_one,List.take_set_of_le (by omega)]
      have :n<ys.length:=by omega
      simp[hpx,this]
     ·rw[List.drop_set_of_lt (by omega)]
      have :=congrArg (·.drop 1) h3
      simpa[List.drop_drop] using this
  refine loop (A.length - (i+1)) (i+1) i A w (by omega) (by omega) rfl ?_ rfl H
  rw[List.take_add_one,hi,List.filter_append,List.filter_eq_self.2 (fun x hx=>by simp[hp x hx])]
  simp[hx]
theorem setP_length (ps:List (Nat×Value)) (n:Nat) (v:Value):(setP ps n v).length=if (lookP ps n).isSome then ps.length else ps.length+1:=by
 induction ps with
 |nil=>rfl
 |cons p ps ih=>
  simp only[setP,lookP]
  by_cases h:p.1=n
  ·simp[h]
  ·simp only[h,if_false,List.length_cons,ih]
   split<;>rfl
theorem sle_slc {α:Type} {h:Hp} {v:Value} {E:Enc α} {xs:List α} {C:List HP} (H:Own h (sle v E xs::C)):∃a c,v=.slice a xs.length c:=by
 obtain⟨F,G,F1,F2,G1,G2,e1,e2,a,o,d⟩:=H
 rcases a.1.2 with ⟨rfl,h,_⟩ |⟨_,_,_,_,rfl,_⟩
 ·rw[h];exact⟨_,_,rfl⟩
 ·exact⟨_,_,rfl⟩
theorem c_Clone_wg (hA:A.length≤68719476736) (H:Own w.hp (sle v wgE A::L)) (h:∀v' w',Own w'.hp (sle v' wgE A::sle v wgE A::L)→R v' w'):Call Pg 278 #[v] w R:=by
 refine c_278 ?_
 simp only[F_278]
 exact cloneo (E:=wgE) (v:=v) H rfl (by decide) rfl hA h
theorem take_succ {α:Type} {l:List α} {i:Nat} (h:i<l.length):l.take (i+1)=l.take i++[l[i]]:=by
 rw[List.take_add_one,List.getElem?_eq_getElem h];rfl
theorem c_order (hA:A.length≤4194304) (H:Own w.hp (sle v wgE A::L)) (h:∀v' w',Own w'.hp (sle v' wgE (A.filter fun x=> !decide (x.1=keep))::sle v wgE A::L)→R v' w'):Call Pg 224 #[.agg #[v,.int .u32 keep]] w R:=by
 obtain⟨a1,a2,a3,rfl⟩:=sle_slice H
 refine c_224 ?_
 simp only[F_224]
 refine NEWo H fun t w H=>?_
 (repeat first |refine L1o H rfl ?_ |refine Oc ?_)
 refine c_Clone_wg (by omega) H.mv1 fun v' w H=>?_
 have H:=H.mv2.bk1
 refine c_DeleteFunc (Q:=pt t [.slice a1 a2 a3,.int .u32 keep]) (p:=fun x=>decide (x.1=keep)) ?_ H (by omega) fun v' w H=>?_
 ·intro x w K L H hK
  refine callV_fn (Tryz.calOk _ (by rfl)) ?_
  rw[show(#[]++#[.agg #[.int .u32 x.1,.int .i64 x.2]]++#[ptrV t]:Array Value)=#[.agg #[.int .u32 x.1,.int .i64 x.2],ptrV t] from rfl]
  refine c_279 ?_
  simp only[F_279]
  refine NEWo H fun t2 w H=>?_
  refine PV_of (v:=.pointer (some ⟨t2,0,none⟩)) (by simp) ?_
  refine L1o H rfl ?_
  refine PV_of (v:=.pointer (some ⟨t,1,none⟩)) (by simp) ?_
  refine L1o H rfl ?_
  rw[binN_eql]
  refine Os ?_
  have :=hK w H.drop
  have e:decide (((x.1:Nat):Int)=(keep:Nat))=decide (x.1=keep):=by congr 1;apply propext;omega
  rw[e];exact this
 ·exact h v' w H.dp1
theorem c_victims_9 {N B:Nat}:∀(rest:List (Nat×Nat)) (n c:Nat) (out:List Nat) (s vr:Value) (w:World),(∀x∈rest,x.2≤1099511627776)→rest.length≤n→sumC rest≤c→n≤4194304→c≤4611686018427387904→out.length+rest.length≤4194304→
  (∀v w',Own w'.hp (sle v u32E (out++vict N B n c rest)::L)→R v w')→Own w.hp (sle vr wgE rest::sle s u32E out::L)→B_161_9 R (.int .i64 N) (.int .i64 B) (.int .i64 n) (.int .i64 c) s vr w
 |[],n,c,out,s,vr,w,hb,hn,hc,hn4,hc4,ho,h,H=>by
  refine B_161_9.intro ?_
  simp only[P_161_9]
  rw[leno (v:=vr) (E:=wgE) (xs:=[]) H]
  refine Ob ?_
  refine h s w ?_
  simpa[vict] using H.drop
 |x::rest,n,c,out,s,vr,w,hb,hn,hc,hn4,hc4,ho,h,H=>by
  refine B_161_9.intro ?_
  simp only[P_161_9]
  rw[leno (v:=vr) (E:=wgE) (xs:=x::rest) H]
  simp only[List.length_cons] at hn ho ⊢
  refine Ob ?_
  have hsum:sumC (x::rest)=x.2+sumC rest:=by simp[sumC]
  rw[hsum] at hc
  have hgo:N<n∨B<c→(PV (binN .sub (.int .i64 n) (.int .i64 1)) fun t44=>
 PV (idxS 2 vr (.int .i64 0)) fun t47=>
 PV (fldV 1 t47) fun t48=>
 L1 t48 w fun t49=>
 PV (binN .sub (.int .i64 c) t49) fun t50=>
 PV (idxS 2 vr (.int .i64 0)) fun t53=>
 PV (fldV 0 t53) fun t54=>
 L1 t54 w fun t55=>
 PV (slc 2 vr (some (.int .i64 1)) none none) fun t59=>
 NEWS 114 1 (buildS 1 (.int .u32 0) 1 [(0,t55)]) (World.drew (World.drew w)) fun t56 w_9=>
 APP 114 1 4 (.int .u32 0) s t56 w_9 fun t57 w_10=>
 B_161_9 R (.int .i64 N) (.int .i64 B) t44 t50 t57 t59 w_10):=by
   intro hor
   refine Ob ?_
   refine idxo (E:=wgE) (i:=0) (v:=vr) H (by simp) ?_
   refine Ob ?_
   refine L1e (E:=wgE) (v:=vr) H rfl rfl ?_
   refine Ob ?_
   refine idxo (E:=wgE) (i:=0) (v:=vr) H (by simp) ?_
   refine Ob ?_
   refine L1e (E:=wgE) (v:=vr) H rfl rfl ?_
   refine slcfo (E:=wgE) (i:=1) (v:=vr) H (by simp) fun vr' H=>?_
   refine NEWSo (w:=w.drew.drew) u32E [x.1] H (cs:=#[.int .u32 x.1]) rfl rfl rfl fun t w H=>?_
   refine APPo (E:=u32E) (xs:=out) (ys:=[x.1]) (v:=s) H rfl (by decide) (by simp;omega) fun s' w H=>?_
   rw[show(n:Int) - 1=((n - 1:Nat):Int) by omega,show(c:Int) - (x.2:Nat)=((c - x.2:Nat):Int) by omega]
   refine c_victims_9 rest (n - 1) (c - x.2) (out++[x.1]) s' vr' w (fun y hy=>hb y (List.mem_cons_of_mem _ hy)) (by omega) (by omega) (by omega) (by omega) (by simp;omega) (fun v w' H=>?_) H.drop
   refine h v w' ?_
   simp only[vict,if_pos hor]
   simpa using H
  have hno:¬(N<n∨B<c)→R s w:=by
   intro hor
   refine h s w ?_
   simp only[vict,if_neg hor,List.append_nil]
   exact H.drop
  by_cases h1:N<n
  ·refine Ob ?_
   have :=hgo (.inl h1)
   revert this
   refine Ob ?_
   exact id
  ·by_cases h2:B<c
   ·refine Ob ?_
    have :=hgo (.inr h2)
    revert this
    refine Ob ?_
    exact id
   ·refine Ob ?_
    exact hno (by omega)
theorem c_victims {N B:Nat} (hA:A.length≤4194304) (hb:∀x∈A,x.2≤1099511627776) (H:Own w.hp (sle v wgE A::L)) (h:∀v' w',Own w'.hp (sle v' u32E (vict N B A.length (sumC A) (A.filter fun x=> !decide (x.1=keep)))::sle v wgE A::L)→R v' w'):
  Call Pg 161 #[.agg #[v,.int .u32 keep],.int .i64 N,.int .i64 B] w R:=by
 obtain⟨a1,a3,rfl⟩:=sle_slc H
 have hs:=sumC_le hb
 have hs2:A.length * 1099511627776≤4194304 * 1099511627776:=Nat.mul_le_mul_right _ hA
 refine c_161 ?_
 simp only[F_161]
 refine NEWo H fun t w H=>?_
 (repeat first |refine L1o H rfl ?_ |refine Oc ?_)
 have loop:∀(m i:Nat) (w:World),m+i=A.length→Own w.hp (sle (.slice a1 A.length a3) wgE A::pt t [.slice a1 A.length a3,.int .u32 keep]::L)→B_161_3 R (.int .i64 N) (.int .i64 B) (ptrV t) (.int .i64 A.length) (.int .i64 (sumC (A.take i))) (.slice a1 A.length a3) (.int .i64 A.length) (.int .i64 i) w:=by
  intro m
  induction m with
  |zero=>
   intro i w hm H
   refine B_161_3.intro ?_
   simp only[P_161_3]
   refine Ob ?_
   rw[List.take_of_length_le (by omega)]
   refine LNo H (by simp) ?_
   refine c_order (A:=A) hA H fun v' w H=>?_
   refine c_victims_9 _ A.length (sumC A) [] _ v' w (fun x hx=>hb x (List.mem_filter.1 hx).1) (List.length_filter_le _ _) ?_ hA (by omega) (by have :=List.length_filter_le (fun x=> !decide (x.1=keep)) A;simp;omega) (fun v w' H=>?_) (sl_nil u32E H).mv1
   ·have :∀l:List (Nat×Nat),sumC (l.filter fun x=> !decide (x.1=keep))≤sumC l:=by
     intro l
     induction l with
     |nil=>simp[sumC]
     |cons x l ih=>
      simp only[sumC,List.filter_cons] at ih ⊢
      split<;>simp <;>omega
    exact this A
   ·exact h v w' H.dp2
  |succ m ih=>
   intro i w hm H
   refine B_161_3.intro ?_
   simp only[P_161_3]
   refine Ob ?_
   have hx:A[i]?=some A[i]:=List.getElem?_eq_getElem (by omega)
   refine idxo (E:=wgE) H (by omega) ?_
   refine LNe (E:=wgE) H hx ?_
   refine NSo H rfl rfl (by simp[wgE,Value.oneCell']) fun t2 w H=>?_
   refine Ob ?_
   refine L1o H rfl ?_
   have e:sumC (A.take (i+1))=sumC (A.take i)+A[i].2:=by rw[take_succ (by omega)];simp only[sumC,List.map_append,List.sum_append,List.map_cons,List.map_nil,List.sum_cons,List.sum_nil,Nat.add_zero]
   have h3:=hb A[i] (List.getElem_mem _)
   have h4:sumC (A.take i)≤4611686018427387904:=by
    have h5:=sumC_le (A:=A.take i) (b:=1099511627776) fun x hx=>hb x (List.mem_of_mem_take hx)
    have h6:(A.take i).length * 1099511627776≤4194304 * 1099511627776:=Nat.mul_le_mul_right _ (by rw[List.length_take];omega)
    omega
   refine Ob ?_
   have :=ih (i+1) w (by omega) H.drop
   rw[e] at this
   rw[show((sumC (A.take i):Nat):Int)+(A[i].2:Nat)=(sumC (A.take i)+A[i].2:Nat) by omega,show((i:Int)+1)=((i+1:Nat):Int) by omega]
   exact this
 exact loop A.length 0 w (by omega) H.mv1
theorem k_victim_Choose {N B:Nat} (hA:A.length≤2097152) (hb:∀x∈A,x.2≤1099511627776) (hn:∀x∈A,x.1<4194304) (hd:(A.map (·.1)).Nodup) (H:Own w.hp (sle v0 wgE A::sle v1 wgE []::L)) (h:∀v' w',Own w'.hp (sle v' u32E (vict N B A.length (sumC A) (A.filter fun x=> !decide (x.1=keep)))::L)→R (.tuple #[v',.int .i64 0]) w'):
  Call Pg 99 #[v0,v1,.int .u32 keep,.int .i64 N,.int .i64 B] w R:=by
 obtain⟨a0,n0,c0,rfl⟩:=sle_slice H
 obtain⟨a1,n1,c1,rfl⟩:=sle_slice H.drop
 refine c_99 ?_
 simp only[F_99]
 refine c_160 ?_
 simp only[F_160]
 refine NEWo H fun t6 w H=>?_
 refine NEWSo slE [(a0,n0,c0),(a1,n1,c1)] H (cs:=#[.slice a0 n0 c0,.slice a1 n1 c1]) rfl rfl rfl fun t14 w H=>?_
 refine c_Concat (v0:=.slice a0 n0 c0) (v1:=.slice a1 n1 c1) (A0:=A) (A1:=[]) H (by omega) (by simp) fun s w H=>?_
 rw[List.append_nil] at H
 obtain⟨b1,b3,rfl⟩:=sle_slc H
 refine PV_of (v:=.agg #[.slice b1 A.length b3,.int .u32 keep]) rfl ?_
 refine NSo H rfl rfl (by simp[Value.oneCell']) fun t8 w H=>?_
 refine MKMo .u32 H fun r w H=>?_
 (repeat first |refine L1o H rfl ?_ |refine Oc ?_)
 have loop:∀(m i:Nat) (ps:List (Nat×Value)) (w:World),m+i=A.length→ps.length=i→(∀n,lookP ps n=if n∈(A.take i).map (·.1) then some (.agg #[]) else none)→Own w.hp (mpi r .u32 ps::pt t8 [.slice b1 A.length b3,.int .u32 keep]::sle (.slice b1 A.length b3) wgE A::pt t6 [.slice none 0 0,.int .u32 0]::L)→
   B_160_4 (fun t18 w_1=>PV (extV 0 t18) fun t19=>
 PV (extV 1 t18) fun t20=>
 NEW 253 #[.slice none 0 0,.int .u32 0] w_1 fun t12 w_2=>
 SN 2 t12 t19 w_2 fun w_3=>
 PV (binN .neq t20 (.int .i64 0)) fun t22=>
 GRD t22 false w_3 (fun k=>
 k (.int .i64 N) w_3) fun t24 w_4=>
 GRD t22 false w_4 (fun k_1=>
 PV (binN .lss t24 (.int .i64 0)) fun t25=>
 k_1 t25 w_4) fun t25_1 w_5=>
 PV (pickV t22 (.bool true) t25_1) fun t26=>
 GRD t26 false w_5 (fun k_2=>
 k_2 (.int .i64 B) w_5) fun t28 w_6=>
 GRD t26 false w_6 (fun k_3=>
 PV (binN .lss t28 (.int .i64 0)) fun t29=>
 k_3 t29 w_6) fun t29_1 w_7=>
 PV (pickV t26 (.bool true) t29_1) fun t30=>
 CND t30
 (R (.tuple #[.slice none 0 0,.int .i64 2]) w_7)
 (LN 2 t12 w_7 fun t31=>
 Call Pg 161 #[t31,.int .i64 N,.int .i64 B] w_7 fun t34 w_8=>
 R (.tuple #[t34,.int .i64 0]) w_8)) (ptrV t6) (ptrV t8) (.map (some r)) (.slice b1 A.length b3) (.int .i64 A.length) (.int .i64 i) w:=by
  intro m
  induction m with
  |zero=>
   intro i ps w hm hl hlk H
   refine B_160_4.intro ?_
   simp only[P_160_4]
   refine Ob ?_
   refine LENMo H ?_
   (repeat first |refine L1o H rfl ?_ |refine Oc ?_)
   refine LENMo H ?_
   refine Ob ?_
   refine LNo H (by simp) ?_
   refine SNo H rfl (by simp) (by simp[Value.oneCell']) fun w H=>?_
   refine LNo H (by simp[splice]) ?_
   refine Ob ?_
   refine NSo H rfl rfl (by simp[splice,Value.oneCell']) fun t12 w H=>?_
   refine Ob ?_
   refine LNo H (by simp[splice]) ?_
   refine c_victims (A:=A) (v:=.slice b1 A.length b3) (keep:=keep) (by omega) hb H.mv3 fun v' w H=>?_
   exact h v' w H.dp1.dp1.dp1.dp1.dp1
  |succ m ih=>
   intro i ps w hm hl hlk H
   refine B_160_4.intro ?_
   simp only[P_160_4]
   refine Ob ?_
   have hx:A[i]?=some A[i]:=List.getElem?_eq_getElem (by omega)
   have hx1:=hn _ (List.getElem_mem (l:=A) (n:=i) (by omega))
   have hx2:=hb _ (List.getElem_mem (l:=A) (n:=i) (by omega))
   refine idxo (E:=wgE) (v:=.slice b1 A.length b3) H (by omega) ?_
   refine LNe (E:=wgE) (v:=.slice b1 A.length b3) H hx ?_
   refine NSo H rfl rfl (by simp[wgE,Value.oneCell']) fun t11 w H=>?_
   (repeat first |refine L1o H rfl ?_ |refine Oc ?_)
   refine PV_of (v:=.agg #[]) rfl ?_
   refine MUo H fun w H=>?_
   rw[show((i:Int)+1)=((i+1:Nat):Int) by omega]
   have hnew:A[i].1∉(A.take i).map (·.1):=by
    intro hm'
    have e:A=A.take i++A[i]::A.drop (i+1):=by rw[←List.drop_eq_getElem_cons (by omega),List.take_append_drop]
    rw[e] at hd
    simp only[List.map_append,List.map_cons,List.nodup_append] at hd
    exact hd.2.2 _ hm' _ List.mem_cons_self rfl
   refine ih (i+1) _ w (by omega) ?_ ?_ H.drop
   ·rw[setP_length,hl]
    rw[hlk,if_neg hnew];rfl
   ·intro n
    rw[lookP_setP,hlk,take_succ (by omega)]
    simp only[List.map_append,List.mem_append,List.map_cons,List.map_nil,List.mem_singleton]
    by_cases e:n=A[i].1
    ·simp[e]
    ·simp[e]
 exact loop A.length 0 [] w (by omega) rfl (by intro n;simp[lookP]) H.mv3.mv3.mv3.mv3.dp4.dp4
end
end Go.Cub
namespace Go.Cub
open Go Go.Proofs Go.IntWalk
def lenTab:ByteArray:=⟨#[0,1,2,2,3,3,3,3,4,4,4,4,4,4,4,4,5,5,5,5,5,5,5,5,5,5,5,5,5,5,5,5,6,6,6,6,6,6,6,6,6,6,6,6,6,6,6,6,6,6,6,6,6,6,6,6,6,6,6,6,6,6,6,6,7,7,7,7,7,7,7,7,7,7,7,7,7,7,7,7,7,7,7,7,7,7,7,7,7,7,7,7,7,7,7,7,7,7,7,7,7,7,7,7,7,7,7,7,7,7,7,7,7,7,7,7,7,7,7,7,7,7,7,7,7,7,7,7,8,8,8,8,8,8,8,8,8,8,8,8,8,8,8,8,8,8,8,8,8,8,8,8,8,8,8,8,8,8,8,8,8,8,8,8,8,8,8,8,8,8,8,8,8,8,8,8,8,8,8,8,8,8,8,8,8,8,8,8,8,8,8,8,8,8,8,8,8,8,8,8,8,8,8,8,8,8,8,8,8,8,8,8,8,8,8,8,8,8,8,8,8,8,8,8,8,8,8,8,8,8,8,8,8,8,8,8,8,8,8,8,8,8,8,8,8,8,8,8,8,8,8,8,8,8,8,8]⟩
def dbTab:List Nat:=[0,1,56,2,57,49,28,3,61,58,42,50,38,29,17,4,62,47,59,36,45,43,51,22,53,39,33,30,24,18,12,5,63,55,48,27,60,41,37,16,46,35,44,21,52,32,23,11,54,26,40,15,34,20,31,10,25,14,19,9,13,8,7,6]
def blen (x:Nat):Nat:=if x=0 then 0 else x.log2+1
theorem blen_spec {x L:Nat} (h1:x<2^L) (h2:L=0∨2^(L - 1)≤x):blen x=L:=by
 unfold blen
 rcases Nat.eq_zero_or_pos L with h0 |h0
 ·subst h0
  have :x=0:=by simpa using h1
  simp[this]
 ·have h3:2^(L - 1)≤x:=by rcases h2 with h |h<;>omega
  have hx:x≠0:=by
   have :0<2^(L - 1):=Nat.two_pow_pos _
   omega
  rw[if_neg hx]
  have e1:x.log2<L:=(Nat.log2_lt hx).2 h1
  have e2:L - 1≤x.log2:=(Nat.le_log2 hx).2 h3
  omega
theorem blen_lt (x:Nat):x<2^blen x:=by
 unfold blen
 by_cases hx:x=0
 ·subst hx;simp
 ·rw[if_neg hx];exact Nat.lt_log2_self
theorem blen_le {x:Nat} (hx:x≠0):2^(blen x - 1)≤x:=by
 unfold blen
 rw[if_neg hx,Nat.add_sub_cancel]
 exact Nat.log2_self_le hx
theorem blen_shift {x m:Nat} (h:2^m≤x):blen (x/2^m)+m=blen x:=by
 have hp:0<2^m:=Nat.two_pow_pos m
 have h1:=blen_lt (x/2^m)
 have hx:x/2^m≠0:=by
  have :=Nat.div_pos h hp
  omega
 have h2:=blen_le hx
 have h3:0<blen (x/2^m):=by
  rcases Nat.eq_zero_or_pos (blen (x/2^m)) with h0 |h0
  ·rw[h0] at h1;simp at h1;exact absurd (Nat.div_eq_zero_iff.2 (.inr h1)) hx
  ·exact h0
 symm
 refine blen_spec ?_ (.inr ?_)
 ·rw[Nat.pow_add]
  exact(Nat.div_lt_iff_lt_mul hp).1 h1
 ·rw[show blen (x/2^m)+m - 1=(blen (x/2^m) - 1)+m by omega,Nat.pow_add]
  exact(Nat.le_div_iff_mul_le hp).1 h2
theorem blen_tab:∀b,b<256→lenTab[b]?=some (UInt8.ofNat (blen b)):=by decide+kernel
theorem blen_le64 {x:Nat} (h:x<18446744073709551616):blen x≤64:=by
 unfold blen
 by_cases hx:x=0
 ·simp[hx]
 ·rw[if_neg hx]
  have :=(Nat.log2_lt (k:=64) hx).2 h
  omega
theorem blen8 {b:Nat} (h:b<256):blen b≤8:=by
 unfold blen
 by_cases hx:b=0
 ·simp[hx]
 ·rw[if_neg hx]
  have :=(Nat.log2_lt (k:=8) hx).2 h
  omega
section
variable {R:Value→World→Prop} {w:World}
attribute [local irreducible] PV CND GRD L1 LN S1 SN NEW NEWS MKS MKM LK MU DEL LENM APP CPY BTS Call CallV
theorem shrN (x m:Nat):Int.fdiv ((x:Nat):Int) ((2:Int)^m)=((x/2^m:Nat):Int):=by
 rw[Int.fdiv_eq_ediv_of_nonneg _ (by have :(0:Int)≤2^m:=Int.pow_nonneg (by decide);exact this)]
 simp
theorem len64_10 {x a:Nat} (hx:x<256) (ha:a≤64) (h:R (.int .i64 (a+blen x:Nat)) w):B_266_10 R (.int .u64 x) (.int .i64 a) w:=by
 refine B_266_10.intro ?_
 show PV (convI .u8 (.int .u64 x)) fun t21=>PV (idxStr (.string lenTab) t21) fun t22=>PV (convI .i64 t22) fun t23=>PV (binN .add (.int .i64 a) t23) fun t24=>R t24 w
 have hb:=blen8 hx
 refine Ob ?_
 refine PV_of (v:=.int .u8 (blen x:Nat)) ?_ ?_
 ·simp only[idxStr,Int.toNat_natCast,blen_tab x hx]
  rw[if_pos (by omega)]
  simp only[Option.map_some,UInt8.toNat_ofNat']
  rw[Nat.mod_eq_of_lt (by omega)]
 ·refine Ob ?_
  rw[show((a:Int)+(blen x:Nat))=((a+blen x:Nat):Int) by omega]
  exact h
theorem len64_7 {x a:Nat} (hx:x<65536) (ha:a≤48) (h:R (.int .i64 (a+blen x:Nat)) w):B_266_7 R (.int .u64 x) (.int .i64 a) w:=by
 refine B_266_7.intro ?_
 simp only[P_266_7]
 by_cases h1:256≤x
 ·refine Ob ?_
  rw[show(min 8 (IntKind.u64.bits))=8 from rfl,shrN,show((a:Int)+8)=((a+8:Nat):Int) by omega]
  refine len64_10 (by omega) (by omega) ?_
  have :=blen_shift (m:=8) (x:=x) (by omega)
  rw[show a+8+blen (x/2^8)=a+blen x by omega]
  exact h
 ·refine Ob ?_
  exact len64_10 (by omega) (by omega) h
theorem len64_4 {x a:Nat} (hx:x<4294967296) (ha:a≤32) (h:R (.int .i64 (a+blen x:Nat)) w):B_266_4 R (.int .u64 x) (.int .i64 a) w:=by
 refine B_266_4.intro ?_
 simp only[P_266_4]
 by_cases h1:65536≤x
 ·refine Ob ?_
  rw[show(min 16 (IntKind.u64.bits))=16 from rfl,shrN,show((a:Int)+16)=((a+16:Nat):Int) by omega]
  refine len64_7 (by omega) (by omega) ?_
  have :=blen_shift (m:=16) (x:=x) (by omega)
  rw[show a+16+blen (x/2^16)=a+blen x by omega]
  exact h
 ·refine Ob ?_
  exact len64_7 (by omega) (by omega) h
theorem c_Len64 {x:Nat} (hx:x<18446744073709551616) (h:R (.int .i64 (blen x)) w):Call Pg 266 #[.int .u64 x] w R:=by
 refine c_266 ?_
 simp only[F_266]
 by_cases h1:4294967296≤x
 ·refine Ob ?_
  rw[show(min 32 (IntKind.u64.bits))=32 from rfl,shrN]
  refine len64_4 (a:=32) (by omega) (by omega) ?_
  have :=blen_shift (m:=32) (x:=x) (by omega)
  rw[show 32+blen (x/2^32)=blen x by omega]
  exact h
 ·refine Ob ?_
  exact len64_4 (a:=0) (by omega) (by omega) (by simpa using h)
theorem c_Len {x:Nat} (hx:x<18446744073709551616) (h:R (.int .i64 (blen x)) w):Call Pg 271 #[.int .u64 x] w R:=by
 refine c_271 ?_
 simp only[F_271]
 refine Ob ?_
 exact c_Len64 hx h
end
end Go.Cub
namespace Go.Cub
open Go Go.Proofs Go.IntWalk
theorem ofIntN (n a:Nat):BitVec.ofInt n (a:Int)=BitVec.ofNat n a:=by
 apply BitVec.eq_of_toNat_eq
 simp[BitVec.toNat_ofInt]
theorem bitI_nat {k:IntKind} {a b:Nat} (ha:a<2^k.bits) (hb:b<2^k.bits):bitI .and k a b=k.wrap ((a &&& b:Nat):Int)∧bitI .or k a b=k.wrap ((a ||| b:Nat):Int)∧bitI .xor k a b=k.wrap ((a ^^^ b:Nat):Int)∧bitI .andNot k a b=k.wrap ((a &&& (2^k.bits - (b+1)):Nat):Int):=by
 have e1:(BitVec.ofNat k.bits a).toNat=a:=by rw[BitVec.toNat_ofNat,Nat.mod_eq_of_lt ha]
 have e2:(BitVec.ofNat k.bits b).toNat=b:=by rw[BitVec.toNat_ofNat,Nat.mod_eq_of_lt hb]
 refine⟨?_,?_,?_,?_⟩
 ·simp only[bitI,ofIntN,BitVec.toNat_and,e1,e2]
 ·simp only[bitI,ofIntN,BitVec.toNat_or,e1,e2]
 ·simp only[bitI,ofIntN,BitVec.toNat_xor,e1,e2]
 ·simp only[bitI,ofIntN,BitVec.toNat_and,BitVec.toNat_not,e1,e2]
  rw[show 2^k.bits - 1 - b=2^k.bits - (b+1) by omega]
theorem u64_and {a b:Nat} (ha:a<18446744073709551616) (hb:b<18446744073709551616):bitI .and .u64 a b=((a &&& b:Nat):Int):=by
 rw[(bitI_nat (k:=.u64) ha hb).1,u64_in]
 have :=Nat.and_lt_two_pow (n:=64) a hb
 omega
theorem u64_or {a b:Nat} (ha:a<18446744073709551616) (hb:b<18446744073709551616):bitI .or .u64 a b=((a ||| b:Nat):Int):=by
 rw[(bitI_nat (k:=.u64) ha hb).2.1,u64_in]
 have :=Nat.or_lt_two_pow (n:=64) ha hb
 omega
theorem u64_xor {a b:Nat} (ha:a<18446744073709551616) (hb:b<18446744073709551616):bitI .xor .u64 a b=((a ^^^ b:Nat):Int):=by
 rw[(bitI_nat (k:=.u64) ha hb).2.2.1,u64_in]
 have :=Nat.xor_lt_two_pow (n:=64) ha hb
 omega
theorem u64_andNot {a b:Nat} (ha:a<18446744073709551616) (hb:b<18446744073709551616):bitI .andNot .u64 a b=((a &&& (18446744073709551616 - (b+1)):Nat):Int):=by
 rw[(bitI_nat (k:=.u64) ha hb).2.2.2,u64_in]
 ·rfl
 ·have :=Nat.and_lt_two_pow (n:=64) a (y:=18446744073709551616 - (b+1)) (by omega)
  show 0≤((a &&& (18446744073709551616 - (b+1)):Nat):Int)∧((a &&& (18446744073709551616 - (b+1)):Nat):Int)≤_
  omega
def Low (x k:Nat):Prop:=x.testBit k=true∧∀j,j<k→x.testBit j=false
theorem low_ex {x:Nat} (hx:x≠0):∃k,Low x k:=by
 obtain⟨i,hi⟩:=Nat.exists_testBit_of_ne_zero hx
 have :∀n,(∃i,i<n∧x.testBit i=true)→∃k,Low x k:=by
  intro n
  induction n with
  |zero=>rintro⟨i,hi,_⟩;omega
  |succ n ih=>
   rintro⟨i,hi,h⟩
   by_cases hm:∃j,j<n∧x.testBit j=true
   ·exact ih hm
   ·have :i=n:=by
     rcases Nat.lt_or_ge i n with h1 |h1
     ·exact absurd ⟨i,h1,h⟩ hm
     ·omega
    subst this
    exact⟨i,h,fun j hj=>by
     cases hb:x.testBit j with
     |false=>rfl
     |true=>exact absurd ⟨j,hj,hb⟩ hm⟩
 exact this (i+1) ⟨i,by omega,hi⟩
theorem low_lt {x k n:Nat} (h:Low x k) (hx:x<2^n):k<n:=by
 rcases Nat.lt_or_ge k n with h1 |h1
 ·exact h1
 ·have :=Nat.testBit_lt_two_pow (Nat.lt_of_lt_of_le hx (Nat.pow_le_pow_right (by decide) h1))
  rw[h.1] at this;cases this
theorem low_and {x k:Nat} (h:Low x k) (hx:x<18446744073709551616):x &&& (18446744073709551616 - x)=2^k:=by
 have hk:k<64:=low_lt h (n:=64) hx
 have hy:∀i,(18446744073709551616 - (x+1)).testBit i=(decide (i<64)&& !x.testBit i):=fun i=>Nat.testBit_two_pow_sub_succ (n:=64) hx i
 have hsub:18446744073709551616 - x=(18446744073709551616 - (x+1))+1:=by omega
 rw[hsub]
 revert hy
 generalize 18446744073709551616 - (x+1)=y
 intro hy
 have hm:y%2^(k+1)=2^k - 1:=by
  apply Nat.eq_of_testBit_eq
  intro i
  rw[Nat.testBit_mod_two_pow,Nat.testBit_two_pow_sub_one,hy]
  by_cases h1:i<k
  ·have :=h.2 i h1
   simp[h1,this,show i<k+1 by omega,show i<64 by omega]
  ·by_cases h2:i=k
   ·subst h2;simp[h.1]
   ·simp[h1,show ¬i<k+1 by omega]
 have hd:=Nat.div_add_mod y (2^(k+1))
 rw[hm] at hd
 have hpos:=Nat.two_pow_pos k
 have e:y+1=2^(k+1) * (y/2^(k+1))+2^k:=by omega
 apply Nat.eq_of_testBit_eq
 intro j
 rw[Nat.testBit_and,e,Nat.testBit_two_pow_mul_add _ (by rw[Nat.pow_succ];omega),Nat.testBit_two_pow]
 by_cases h1:j<k+1
 ·rw[if_pos h1]
  by_cases h2:k=j
  ·subst h2;simp[h.1]
  ·simp[h2]
 ·rw[if_neg h1,Nat.testBit_div_two_pow,show j - (k+1)+(k+1)=j by omega,hy]
  have :k≠j:=by omega
  cases x.testBit j<;>simp[this]
theorem db_ok:∀k,k<64→0≤IntKind.u64.wrap (((2^k:Nat):Int) * 285870213051353865)∧(IntKind.u64.wrap (((2^k:Nat):Int) * 285870213051353865)).toNat/288230376151711744<64∧dbTab[(IntKind.u64.wrap (((2^k:Nat):Int) * 285870213051353865)).toNat/288230376151711744]?=some k:=by decide+kernel
theorem db_ex {k:Nat} (hk:k<64):∃z:Nat,IntKind.u64.wrap (((2^k:Nat):Int) * 285870213051353865)=(z:Int)∧z/288230376151711744<64∧dbTab[z/288230376151711744]?=some k:=by
 obtain⟨h0,h1,h2⟩:=db_ok k hk
 exact⟨_,(Int.toNat_of_nonneg h0).symm,h1,h2⟩
def glb:HP:=prd 1 (dbTab.map fun n=>.int .u8 (n:Nat))
instance :Keyed glb (.b 1):=⟨⟩
section
variable {R:Value→World→Prop} {w:World} {C:List HP} {u:HP→List HP}
attribute [local irreducible] PV CND GRD L1 LN S1 SN NEW NEWS MKS MKM LK MU DEL LENM APP CPY BTS Call CallV
theorem u64_wrap (n:Nat):IntKind.u64.wrap (n:Int)=((n%18446744073709551616:Nat):Int):=by
 simp[IntKind.wrap,IntKind.bits,IntKind.signed]
theorem tz_tail [f:Foc C (.b 1) glb u] {z k:Nat} (H:Own w.hp C) (hk:k<64) (d1:z/288230376151711744<64) (d2:dbTab[z/288230376151711744]?=some k) (h:R (.int .i64 k) w):
  PV (binN .shr (.int .u64 (z:Nat)) (.int .u64 58)) fun t10=>PV (idxA 64 1 (.pointer (some ⟨1,0,none⟩)) t10) fun t11=>L1 t11 w fun t12=>PV (convI .i64 t12) fun t13=>R t13 w:=by
 rw[binN_shr _ _ _ _ (by decide),show min (Int.toNat (58:Int)) IntKind.u64.bits=58 from rfl,shrN]
 simp only[PV_some]
 rw[show(2:Nat)^58=288230376151711744 from rfl,idxA_ptr d1]
 simp only[PV_some]
 have H':Own w.hp (prd 1 (dbTab.map fun n=>.int .u8 (n:Nat))::f.rest):=f.get H
 refine L1r H' (v:=.int .u8 (k:Nat)) (by rw[List.getElem?_map,Nat.zero_add,Nat.mul_one,d2];rfl) ?_
 refine Ob ?_
 exact h
end
end Go.Cub
namespace Go.Cub
open Go Go.Proofs Go.IntWalk
section
variable {R:Value→World→Prop} {w:World} {C:List HP} {u:HP→List HP}
attribute [local irreducible] PV CND GRD L1 LN S1 SN NEW NEWS MKS MKM LK MU DEL LENM APP CPY BTS Call CallV
theorem c_TZ64 [f:Foc C (.b 1) glb u] {x k:Nat} (H:Own w.hp C) (hx:x<18446744073709551616) (hk:Low x k) (h:R (.int .i64 k) w):Call Pg 343 #[.int .u64 x] w R:=by
 have hk64:k<64:=low_lt hk (n:=64) hx
 have hx0:x≠0:=by
  rintro rfl
  have :=hk.1
  simp at this
 obtain⟨z,d0,d1,d2⟩:=db_ex hk64
 refine c_343 ?_
 simp only[F_343]
 refine Ob ?_
 refine PV_of (v:=.int .u64 (18446744073709551616 - x:Nat)) ?_ ?_
 ·simp only[unV]
  have :IntKind.u64.wrap (0 - (x:Int))=((18446744073709551616 - x:Nat):Int):=by
   simp[IntKind.wrap,IntKind.bits,IntKind.signed];omega
  rw[this]
 ·rw[binN_and,u64_and hx (by omega),low_and hk hx]
  refine Os ?_
  rw[d0]
  exact tz_tail H hk64 d1 d2 h
def wcells (q:Nat) (mk:Nat→Nat) (many:Int):List Value:=[ptrV q,.int .u64 (mk 0:Nat),.int .u64 (mk 1:Nat),.int .u64 (mk 2:Nat),.int .u64 (mk 3:Nat),.int .i64 many]
theorem wcells_get {q:Nat} {mk:Nat→Nat} {many:Int} {i:Nat} (h:i<4):(wcells q mk many)[1+i]?=some (.int .u64 (mk i:Nat)):=by
 have :i=0∨i=1∨i=2∨i=3:=by omega
 rcases this with rfl |rfl |rfl |rfl<;>rfl
theorem wcells_set {q:Nat} {mk:Nat→Nat} {many:Int} {i:Nat} {x:Nat} (h:i<4):(wcells q mk many).set (1+i) (.int .u64 (x:Nat))=wcells q (upd mk i x) many:=by
 have :i=0∨i=1∨i=2∨i=3:=by omega
 rcases this with rfl |rfl |rfl |rfl<;>simp[wcells,upd]
theorem tmodN (a b:Nat):Int.tmod (a:Int) (b:Int)=((a%b:Nat):Int):=rfl
theorem tdivN (a b:Nat):Int.tdiv (a:Int) (b:Int)=((a/b:Nat):Int):=rfl
theorem shl1 {n:Nat} (h:n<64):IntKind.u64.wrap (1 * 2^(min n IntKind.u64.bits))=((2^n:Nat):Int):=by
 rw[show min n IntKind.u64.bits=n by show min n 64=n;omega,Int.one_mul]
 have h1:(2:Nat)^n≤9223372036854775808:=Nat.pow_le_pow_right (n:=2) (i:=n) (j:=63) (by decide) (by omega)
 have e:((2:Int)^n)=((2^n:Nat):Int):=by simp
 rw[e]
 generalize 2^n=z at h1
 exact u64_in _ (by omega)
variable {p q b:Nat} {mk:Nat→Nat} {many:Int} {ls:Nat→List Nat}
def MkOk (mk:Nat→Nat) (ls:Nat→List Nat):Prop:=(∀i,i<4→mk i<18446744073709551616)∧∀b,b<256→(mk (b/64)).testBit (b%64)= !(ls b).isEmpty
theorem c_marks_set [f:Foc C (.b p) (pt p (wcells q mk many)) u] (H:Own w.hp C) (hm:∀i,i<4→mk i<18446744073709551616) (hb:b<256) (h:∀w',Own w'.hp (u (pt p (wcells q (upd mk (b/64) (mk (b/64) ||| 2^(b%64))) many)))→R (.tuple #[]) w'):
  Call Pg 313 #[.pointer (some ⟨p,1,none⟩),.int .i64 b] w R:=by
 have hq:b/64<4:=by omega
 have hr:b%64<64:=Nat.mod_lt _ (by decide)
 have hp:2^(b%64)<18446744073709551616:=Nat.pow_lt_pow_right (a:=2) (by decide) (m:=b%64) (n:=64) hr
 refine c_313 ?_
 simp only[F_313]
 rw[show(.int .i64 64:Value)=.int .i64 ((64:Nat):Int) from rfl,binN_quo _ _ _ (by decide),tdivN,binN_rem _ _ _ (by decide),tmodN]
 refine Ob ?_
 rw[Nat.mul_one]
 refine L1o H (wcells_get hq) ?_
 rw[shl1 hr]
 refine Ob ?_
 rw[u64_or (hm _ hq) hp]
 refine Ob ?_
 refine S1o (w:=w.drew) H (by rw[wcells_get hq];rfl) rfl fun w H=>?_
 rw[wcells_set hq] at H
 exact h w H
theorem c_marks_clear [f:Foc C (.b p) (pt p (wcells q mk many)) u] (H:Own w.hp C) (hm:∀i,i<4→mk i<18446744073709551616) (hb:b<256) (h:∀w',Own w'.hp (u (pt p (wcells q (upd mk (b/64) (mk (b/64) &&& (18446744073709551616 - (2^(b%64)+1)))) many)))→R (.tuple #[]) w'):
  Call Pg 324 #[.pointer (some ⟨p,1,none⟩),.int .i64 b] w R:=by
 have hq:b/64<4:=by omega
 have hr:b%64<64:=Nat.mod_lt _ (by decide)
 have hp:2^(b%64)<18446744073709551616:=Nat.pow_lt_pow_right (a:=2) (by decide) (m:=b%64) (n:=64) hr
 refine c_324 ?_
 simp only[F_324]
 rw[show(.int .i64 64:Value)=.int .i64 ((64:Nat):Int) from rfl,binN_quo _ _ _ (by decide),tdivN,binN_rem _ _ _ (by decide),tmodN]
 refine Ob ?_
 rw[Nat.mul_one]
 refine L1o H (wcells_get hq) ?_
 rw[shl1 hr]
 refine Ob ?_
 rw[u64_andNot (hm _ hq) hp]
 refine Ob ?_
 refine S1o (w:=w.drew) H (by rw[wcells_get hq];rfl) rfl fun w H=>?_
 rw[wcells_set hq] at H
 exact h w H
theorem c_marks_next (H:Own w.hp (pt p (wcells q mk many)::glb::C)) (hm:MkOk mk ls) (h:∀b,b<256→ls b≠[]→(∀a,a<b→ls a=[])→R (.tuple #[.int .i64 b,.bool true]) w) (h0:(∀a,a<256→ls a=[])→R (.tuple #[.int .i64 0,.bool false]) w):
  Call Pg 310 #[.pointer (some ⟨p,1,none⟩),.int .i64 0] w R:=by
 refine c_310 ?_
 simp only[F_310]
 refine PV_of (v:=.int .i64 0) rfl ?_
 refine PV_of (v:=.int .u64 18446744073709551615) rfl ?_
 refine PV_of (v:=.int .i64 0) rfl ?_
 have emp:∀b,b<256→(mk (b/64)).testBit (b%64)=false→ls b=[]:=by
  intro b hb ht
  rw[hm.2 b hb] at ht
  simpa using ht
 have loop:∀(m i:Nat),m+i=4→(∀a,a<64 * i→ls a=[])→B_310_3 R (.pointer (some ⟨p,1,none⟩)) (.int .u64 18446744073709551615) (.int .i64 i) w:=by
  intro m
  induction m with
  |zero=>
   intro i hi ha
   refine B_310_3.intro ?_
   simp only[P_310_3]
   refine Ob ?_
   exact h0 fun a h=>ha a (by omega)
  |succ m ih=>
   intro i hi ha
   refine B_310_3.intro ?_
   simp only[P_310_3]
   refine Ob ?_
   rw[Nat.mul_one]
   refine L1o H (wcells_get (by omega)) ?_
   have hmi:=hm.1 i (by omega)
   rw[show(18446744073709551615:Int)=((18446744073709551615:Nat):Int) from rfl]
   refine Ob ?_
   rw[u64_and hmi (by decide)]
   have e1:mk i &&& 18446744073709551615=mk i:=by
    rw[show(18446744073709551615:Nat)=2^64 - 1 from rfl,Nat.and_two_pow_sub_one_eq_mod]
    exact Nat.mod_eq_of_lt hmi
   rw[e1]
   by_cases hz:mk i=0
   ·rw[hz]
    refine Ob ?_
    refine ih (i+1) (by omega) fun a h=>?_
    by_cases h1:a<64 * i
    ·exact ha a h1
    ·refine emp a (by omega) ?_
     rw[show a/64=i by omega,hz];simp
   ·obtain⟨k,hk⟩:=low_ex hz
    have hk64:k<64:=low_lt hk (n:=64) hmi
    refine Ob ?_
    refine c_TZ64 H hmi hk ?_
    refine Ob ?_
    rw[show(64 * (i:Int)+k)=((64 * i+k:Nat):Int) by omega]
    refine h _ (by omega) ?_ fun a hal=>?_
    ·have :=hm.2 (64 * i+k) (by omega)
     rw[show(64 * i+k)/64=i by omega,show(64 * i+k)%64=k by omega,hk.1] at this
     intro e
     rw[e] at this
     simp at this
    ·by_cases h1:a<64 * i
     ·exact ha a h1
     ·refine emp a (by omega) ?_
      rw[show a/64=i by omega]
      exact hk.2 _ (by omega)
 exact loop 4 0 rfl (fun a h=>by omega)
theorem MkOk.set (h:MkOk mk ls) (hb:b<256) {l:List Nat} (hl:l≠[]):MkOk (upd mk (b/64) (mk (b/64) ||| 2^(b%64))) (upd ls b l):=by
 have hp:2^(b%64)<18446744073709551616:=Nat.pow_lt_pow_right (a:=2) (by decide) (m:=b%64) (n:=64) (Nat.mod_lt _ (by decide))
 refine⟨fun i hi=>?_,fun a ha=>?_⟩
 ·simp only[upd]
  split
  ·exact Nat.or_lt_two_pow (n:=64) (h.1 _ (by omega)) hp
  ·exact h.1 i hi
 ·simp only[upd]
  by_cases e:a=b
  ·subst e
   simp[hl,Nat.testBit_or]
  ·rw[if_neg e]
   by_cases e2:a/64=b/64
   ·rw[if_pos e2,Nat.testBit_or,Nat.testBit_two_pow, ←e2,h.2 a ha]
    have :¬b%64=a%64:=by omega
    simp[this]
   ·rw[if_neg e2];exact h.2 a ha
theorem MkOk.clear (h:MkOk mk ls) (hb:b<256):MkOk (upd mk (b/64) (mk (b/64) &&& (18446744073709551616 - (2^(b%64)+1)))) (upd ls b []):=by
 have hp:2^(b%64)<18446744073709551616:=Nat.pow_lt_pow_right (a:=2) (by decide) (m:=b%64) (n:=64) (Nat.mod_lt _ (by decide))
 have hn:∀i,(18446744073709551616 - (2^(b%64)+1)).testBit i=(decide (i<64)&& !(2^(b%64)).testBit i):=fun i=>Nat.testBit_two_pow_sub_succ (n:=64) hp i
 refine⟨fun i hi=>?_,fun a ha=>?_⟩
 ·simp only[upd]
  split
  ·exact Nat.lt_of_le_of_lt Nat.and_le_left (h.1 _ (by omega))
  ·exact h.1 i hi
 ·have hr:a%64<64:=Nat.mod_lt _ (by decide)
  simp only[upd]
  by_cases e:a=b
  ·subst e
   rw[if_pos rfl,if_pos rfl,Nat.testBit_and,hn]
   simp
  ·rw[if_neg e]
   by_cases e2:a/64=b/64
   ·rw[if_pos e2,Nat.testBit_and,hn,Nat.testBit_two_pow, ←e2,h.2 a ha]
    have :¬b%64=a%64:=by omega
    simp[this,hr]
   ·rw[if_neg e2];exact h.2 a ha
theorem MkOk.same (h:MkOk mk ls) {l:List Nat} (hl:l.isEmpty=(ls b).isEmpty):MkOk mk (upd ls b l):=by
 refine⟨h.1,fun a ha=>?_⟩
 simp only[upd]
 by_cases e:a=b
 ·subst e;simp[hl,h.2 a ha]
 ·rw[if_neg e];exact h.2 a ha
end
end Go.Cub
