/-
  Part 27 of the proof that TopNested returns true and leaves what it was given as it was. CONDITIONS: those of the given row and card.
-/
import Derived.Test.YtpelalpajdpkgaaGreatDoorZ25
set_option linter.all false
namespace Go.Cub
open Go Go.Proofs Go.IntWalk
section
variable {R:Value→World→Prop} {w:World} {C:List HP} {u:HP→List HP} {sv:Value} {xs:List Nat}
attribute [local irreducible] PV CND GRD L1 LN S1 SN NEW NEWS MKS MKM LK MU DEL LENM APP CPY BTS Call CallV
theorem c_Less {a b:Nat} (h:R (.bool (decide ((a:Int)<b))) w):Call Pg 251 #[.int .u32 a,.int .u32 b] w R:=by
 refine c_251 ?_
 simp only[F_251]
 refine c_305 ?_
 simp only[F_305]
 refine Ob ?_
 exact h
theorem c_bsearch {t j:Nat} [f:Foc C (.v sv) (sle sv u32E xs) u] (H:Own w.hp C) (hl:xs.length≤4194304) (hj:j≤xs.length) (h1:∀m (hm:m<xs.length),m<j→xs[m]<t) (h2:∀m (hm:m<xs.length),j≤m→t≤xs[m]) (h:R (.tuple #[.int .i64 j,.bool (decide (xs[j]?=some t))]) w):
  ∀(m a b:Nat),b - a≤m→a≤j→j≤b→b≤xs.length→B_191_3 R sv (.int .u32 t) (.int .i64 xs.length) (.int .i64 a) (.int .i64 b) w:=by
 have fin:B_191_3 R sv (.int .u32 t) (.int .i64 xs.length) (.int .i64 j) (.int .i64 j) w:=by
  refine B_191_3.intro ?_
  simp only[P_191_3]
  by_cases hjl:j<xs.length
  ·have hg:=List.getElem?_eq_getElem hjl
   refine Ob ?_
   refine idxo (v:=sv) (E:=u32E) H hjl ?_
   refine L1e (v:=sv) (E:=u32E) (j:=0) H hg rfl ?_
   by_cases he:xs[j]=t
   ·rw[hg,he] at h
    rw[he]
    refine Ob ?_
    simpa using h
   ·have he2:¬((xs[j]:Nat):Int)=(t:Int):=by omega
    rw[hg] at h
    refine Ob ?_
    refine idxo (v:=sv) (E:=u32E) H hjl ?_
    refine L1e (v:=sv) (E:=u32E) (j:=0) H hg rfl ?_
    refine c_252 ?_
    simp only[F_252]
    refine Ob ?_
    simpa[he] using h
  ·rw[List.getElem?_eq_none (by omega)] at h
   refine Ob ?_
   simpa using h
 intro m
 induction m with
 |zero=>
  intro a b hm ha hb hbl
  obtain⟨e1,e2⟩:a=j∧b=j:=by omega
  rw[e1,e2];exact fin
 |succ m ih=>
  intro a b hm ha hb hbl
  by_cases hlt:a<b
  ·refine B_191_3.intro ?_
   simp only[P_191_3]
   have hmid:(a+b)/2<xs.length:=by omega
   refine Ob ?_
   rw[←Int.natCast_add,show min 1 IntKind.u64.bits=1 from rfl,shrN,show(2:Nat)^1=2 from rfl]
   refine Ob ?_
   refine idxo (v:=sv) (E:=u32E) H hmid ?_
   refine L1e (v:=sv) (E:=u32E) (j:=0) H (List.getElem?_eq_getElem hmid) rfl ?_
   refine c_Less ?_
   by_cases hc:xs[(a+b)/2]<t
   ·have hlt2:(a+b)/2<j:=by
     apply Nat.lt_of_not_le
     intro hle
     have :=h2 _ hmid hle
     omega
    refine Ob ?_
    rw[show(((((a+b)/2:Nat):Int))+1)=(((a+b)/2+1:Nat):Int) by simp]
    exact ih _ _ (by omega) (by omega) (by omega) hbl
   ·have hle:j≤(a+b)/2:=by
     apply Nat.le_of_not_lt
     intro hlt
     exact hc (h1 _ hmid hlt)
    refine Ob ?_
    exact ih _ _ (by omega) ha (by omega) (by omega)
  ·obtain⟨e1,e2⟩:a=j∧b=j:=by omega
   rw[e1,e2];exact fin
def plc (xs:List Nat) (t:Nat):Nat:=(xs.filter fun x=>decide (x<t)).length
theorem plc_le (xs:List Nat) (t:Nat):plc xs t≤xs.length:=List.length_filter_le _ _
theorem plc_spec:∀ {xs:List Nat} {t:Nat},xs.Pairwise (· < ·)→(∀m (hm:m<xs.length),m<plc xs t→xs[m]<t)∧∀m (hm:m<xs.length),plc xs t≤m→t≤xs[m]
 |[],t,_=>by simp
 |x::xs,t,hs=>by
  rw[List.pairwise_cons] at hs
  obtain⟨i1,i2⟩:=plc_spec (t:=t) hs.2
  by_cases hx:x<t
  ·have e:plc (x::xs) t=plc xs t+1:=by simp[plc,hx]
   rw[e]
   constructor
   ·intro m hm hlt
    cases m with
    |zero=>exact hx
    |succ m=>exact i1 m (by simpa using hm) (by omega)
   ·intro m hm hlt
    cases m with
    |zero=>omega
    |succ m=>exact i2 m (by simpa using hm) (by omega)
  ·have e0:xs.filter (fun x=>decide (x<t))=[]:=by
    rw[List.filter_eq_nil_iff]
    intro y hy
    have :=hs.1 y hy
    simp;omega
   have e:plc (x::xs) t=0:=by simp[plc,hx,e0]
   rw[e]
   constructor
   ·intro m hm hlt;omega
   ·intro m hm _
    cases m with
    |zero=>simp;omega
    |succ m=>
     have h1:=hs.1 _ (List.getElem_mem (l:=xs) (n:=m) (by simpa using hm))
     simp only[List.getElem_cons_succ];omega
theorem c_Moves_To {t:Nat} {n:Int} [f:Foc C (.v sv) (sle sv u32E xs) u] (H:Own w.hp C) (hl:xs.length≤4194304) (hs:xs.Pairwise (· < ·)) (h:∀w' (e:Int),Own w'.hp C→R (.tuple #[.int .u32 (if xs[plc xs t]?=some t then plc xs t else 0:Nat),.int .i64 e]) w'):Call Pg 117 #[.agg #[sv,.int .i64 n],.int .u32 t] w R:=by
 have hpl:=plc_le xs t
 obtain⟨h1,h2⟩:=plc_spec (t:=t) hs
 refine c_117 ?_
 simp only[F_117]
 refine NEWo H fun t2 w H=>?_
 have H:Own w.hp (pt t2 [sv,.int .i64 n]::C):=H
 (repeat first |refine L1o H rfl ?_ |refine Oc ?_)
 refine c_191 ?_
 simp only[F_191]
 rw[leno (v:=sv) (E:=u32E) (xs:=xs) H]
 refine Ob ?_
 refine c_bsearch (xs:=xs) H hl hpl h1 h2 ?_ xs.length 0 xs.length (by omega) (by omega) hpl (Nat.le_refl _)
 by_cases hf:xs[plc xs t]?=some t
 ·have :=h w 0 H.drop
  rw[if_pos hf] at this
  simp only[hf]
  refine Ob ?_
  exact this
 ·have :=h w 9 H.drop
  rw[if_neg hf] at this
  simp only[hf]
  refine Ob ?_
  exact this
theorem c_Moves_Len {n:Int} [f:Foc C (.v sv) (sle sv u32E xs) u] (H:Own w.hp C) (h:∀w',Own w'.hp C→R (.tuple #[.int .i64 xs.length,.int .i64 n]) w'):Call Pg 116 #[.agg #[sv,.int .i64 n]] w R:=by
 refine c_116 ?_
 simp only[F_116]
 refine NEWo H fun t2 w H=>?_
 have H:Own w.hp (pt t2 [sv,.int .i64 n]::C):=H
 (repeat first |refine L1o H rfl ?_ |refine Oc ?_)
 rw[leno (v:=sv) (E:=u32E) (xs:=xs) H]
 (repeat first |refine L1o H rfl ?_ |refine Oc ?_)
 exact h w.drew H.drop
theorem liveS_sorted (es:List Ent):(liveS es).Pairwise (· < ·):=by
 unfold liveS
 rw[List.pairwise_map]
 unfold liveI
 refine List.Pairwise.filter _ ?_
 have :((es.zipIdx).map (·.2)).Pairwise (· < ·):=by
  rw[List.zipIdx_map_snd]
  exact List.pairwise_lt_range'
 rwa[List.pairwise_map] at this
end
end Go.Cub
namespace Go.Cub
open Go Go.Proofs Go.IntWalk
abbrev AEv:=Nat×Ent×Nat
def evA (x:Evt):AEv:=(x.kind,x.ent,x.at_)
def evq (p:Nat) (l:List AEv):HP:=.ex fun xs=>.all [.pu (xs.map evA=l),evs p xs]
instance {p:Nat} {l:List AEv}:Keyed (evq p l) (.b p):=⟨⟩
structure Pts where
 d:Nat
 b:Nat
 o:Nat
 u:Nat
 e:Nat
 v:Nat
def chC (q:Pts) (N B:Nat) (hs:Nat×Bool):List Value:=[ptrV q.d,ptrV q.b,ptrV q.o,ptrV q.u,ptrV q.e,ptrV q.v,.int .i64 N,.int .i64 B,.int .i64 0,.int .u64 hs.1,.bool hs.2]
abbrev cl (p:Nat) (q:Pts) (N B:Nat) (hs:Nat×Bool) (es:List Ent) (bn:Nat) (A:List (Nat×Nat)) (c s now:Nat) (tm:Tm) (ev:List AEv) (C:List HP):List HP:=
 pt p (chC q N B hs)::dct q.d hs es::bcn q.b bn::seg q.o A::bud q.u N B c s::dues q.e now tm::evq q.v ev::C
section
variable {R:Value→World→Prop} {w:World} {C:List HP} {u u2:HP→List HP} {p:Nat} {q:Pts} {N B:Nat} {hs:Nat×Bool} {es:List Ent} {bn:Nat} {A:List (Nat×Nat)} {c s now:Nat} {tm:Tm} {ev:List AEv} {e:Ent} {i k:Nat} {v:SV}
attribute [local irreducible] PV CND GRD L1 LN S1 SN NEW NEWS MKS MKM LK MU DEL LENM APP CPY BTS Call CallV
theorem evq_iff {h:Hp} {l:List AEv}:Own h (evq p l::C)↔∃xs,xs.map evA=l∧Own h (evs p xs::C):=by
 simp only[evq,own_ex,all2,own_pu]
theorem k_evq_Len {l:List AEv} [f:Foc C (.b p) (evq p l) u] (H:Own w.hp C) (h:R (.int .i64 l.length) w):Call Pg 44 #[ptrV p] w R:=by
 obtain⟨xs,hx,H⟩:=evq_iff.1 (f.get H)
 refine k_ev_Len (p:=p) H ?_
 rw[←hx] at h
 simpa using h
theorem k_evq_Add {x:Evt} {l:List AEv} [fi:Foc C (.v (svV x.v)) (imm (svV x.v) x.ent.val) u] [f:Foc C (.b p) (evq p l) u2] (H:Own w.hp C) (hx:EvOk x) (hn:l.length<1048576)
  (h:∀w',Own w'.hp (u2 (evq p (l++[evA x])))→R (.int .i64 0) w'):Call Pg 180 #[ptrV p,.agg (evC x).toArray] w R:=by
 have H:=imdup (f:=fi) H
 have H:Own w.hp (evq p l::imm (svV x.v) x.ent.val::f.rest):=(f.tail (B:=imm (svV x.v) x.ent.val)).get H
 obtain⟨xs,hxs,H⟩:=evq_iff.1 H
 refine k_ev_Add (x:=x) (p:=p) (xs:=xs) H hx (by rw[←hxs] at hn;simpa using hn) fun v' w H=>?_
 refine h w (f.put (evq_iff.2 ⟨xs++[{x with v:=v'}],?_,H.dp1⟩))
 rw[List.map_append,hxs];rfl
theorem k_evq_New (H:Own w.hp C) (h:∀p w',Own w'.hp (evq p []::C)→R (ptrV p) w'):Call Pg 79 #[] w R:=
 k_ev_New H fun p w H=>h p w (evq_iff.2 ⟨[],rfl,H⟩)
theorem k_evq_Take {m:Int} {l:List AEv} [f:Foc C (.b p) (evq p l) u] (H:Own w.hp C) (hm:(l.length:Int)≤m)
  (h:∀s' xs w',xs.map evA=l→Own w'.hp (sle s' evE xs::imL (xs.map evB)::u (evq p []))→R (.tuple #[s',.int .i64 0]) w'):Call Pg 43 #[ptrV p,.int .i64 m] w R:=by
 obtain⟨xs,hx,H⟩:=evq_iff.1 (f.get H)
 refine k_ev_Take (p:=p) H (by rw[←hx] at hm;simpa using hm) fun s' w H=>?_
 exact h s' xs w hx (f.put2 (evq_iff.2 ⟨[],rfl,H.mv2⟩).bk2)
theorem k_due_Remove_none [f:Foc C (.b p) (dues p now tm) u] (H:Own w.hp C) (hi:i<4194304) (hm:tm i=none) (h:∀w',Own w'.hp (u (dues p now tm))→R (.int .i64 9) w'):Call Pg 108 #[ptrV p,.int .u32 i] w R:=by
 obtain⟨q,rb,bs,rs,ps,I,H⟩:=dues_iff.1 (f.get H)
 refine c_108 ?_
 simp only[F_108]
 refine c_due_check (q:=q) H rfl hi ?_
 (repeat first |refine L1o H rfl ?_ |refine Oc ?_)
 refine LKo H ?_
 rw[I.hps,hm]
 simp only[Option.map_none,Option.getD_none,Option.isSome_none]
 refine Ob ?_
 refine NSo H rfl rfl (by simp[Value.oneCell']) fun t w H=>?_
 refine Ob ?_
 exact h w (f.put (dues_iff.2 ⟨q,rb,bs,rs,ps,I,H.drop⟩))
theorem c_tell (hk:1≤k∧k≤5) (he:EntOk e) (hd:dueT e.dl now=decide (k=1)) (hn:ev.length<1048576) [f:Foc C (.v (svV v)) (imm (svV v) e.val) u] (H:Own w.hp (cl p q N B hs es bn A c s now tm ev C))
  (h:∀w',Own w'.hp (cl p q N B hs es bn A c s now tm (ev++[(k,e,now)]) C)→R (.tuple #[]) w'):Call Pg 110 #[ptrV p,.int .i64 k,entV e v] w R:=by
 refine c_110 ?_
 simp only[F_110,entV]
 refine NEWo H fun t5 w H=>?_
 have H:Own w.hp (pt t5 [.string e.key,svV v,.int .u64 e.dl,.int .u64 e.birth]::_):=H
 (repeat first |refine L1o H rfl ?_ |refine Oc ?_)
 refine k_due_Now (p:=q.e) (w:=w.drew) H ?_
 refine⟨L1o H rfl rfl,L1o H rfl rfl,L1o H rfl rfl,L1o H rfl rfl,L1o H rfl rfl,?_⟩
 refine PV_of (v:=.agg (evC ⟨k,e,now,v⟩).toArray) (by simp[buildV,Instr.fill,evC,svV_cells]) ?_
 refine k_evq_Add (x:=⟨k,e,now,v⟩) (p:=q.v) (w:=w.drew) H ⟨hk.1,hk.2,he.1.1,he.1.2,he.2.1,he.2.2,hd⟩ hn fun w H=>?_
 exact h w H.drop
theorem k_due_Rem [f:Foc C (.b p) (dues p now tm) u] (H:Own w.hp C) (hi:i<4194304) (h:∀w' r,Own w'.hp (u (dues p now (upd tm i none)))→R (.int .i64 r) w'):Call Pg 108 #[ptrV p,.int .u32 i] w R:=by
 cases hm:tm i with
 |none=>exact k_due_Remove_none H hi hm fun w H=>h w _ (by rw[upd_none hm];exact H)
 |some x=>exact k_due_Remove (d:=x.1) (n:=x.2) H hm fun w H=>h w _ H
def costE (e:Ent):Nat:=e.key.size+e.val.length+48
theorem leave_go {t2 t3:Nat} {K:Value→World→Prop} (hk:1≤k∧k≤5) (hi:es[i]?=some e) (hb:e.birth≠0) (hd:dueT e.dl now=decide (k=1)) (hn:ev.length<1048576) (hA:cst A i=some (costE e)) (hc:1≤c) (hs1:costE e≤s) (hs2:c=1→s=costE e)
  (H:Own w.hp (pt t2 [ptrV p]::pt t3 [.int .i64 k]::cl p q N B hs es bn A c s now tm ev C))
  (h:∀w',Own w'.hp (pt t2 [ptrV p]::pt t3 [.int .i64 k]::cl p q N B hs (es.set i ent0) bn (delS A i) (c - 1) (s - costE e) now (upd tm i none) (ev++[(k,e,now)]) C)→K (.tuple #[]) w'):
  CallV Pg (.func (.func 104) #[] #[ptrV t2,ptrV t3]) #[.int .u32 i] w K:=by
 have hdct:=H.mv3
 obtain⟨S,hS,hdct⟩:=dct_iff.1 hdct
 obtain⟨lg,ix,kk,hh,hdct⟩:=dctP_iff.1 hdct
 obtain⟨hlen,hok⟩:=elog_len hdct.mv1
 have heok:=hok i e hi hb
 have hil:=lt_of_get hi
 clear hdct
 have hcb:costE e≤1099511627776:=by
  have :=heok.1.2
  have :=heok.2.1
  unfold costE;omega
 refine callV_fn (Tryz.calOk _ (by rfl)) ?_
 show Call Pg 104 #[.int .u32 i,ptrV t2,ptrV t3] w _
 refine c_104 ?_
 simp only[F_104]
 (repeat first |refine L1o H rfl ?_ |refine Oc ?_)
 refine k_seg_Of (p:=q.o) H hA ?_
 (repeat first |refine L1o H rfl ?_ |refine Oc ?_)
 refine k_seg_Remove (p:=q.o) H hA fun w H=>?_
 (repeat first |refine L1o H rfl ?_ |refine Oc ?_)
 refine k_bud_Remove (p:=q.u) H hc hs1 hs2 hcb fun w H=>?_
 (repeat first |refine L1o H rfl ?_ |refine Oc ?_)
 refine k_due_Rem (p:=q.e) H (by omega) fun w r H=>?_
 (repeat first |refine L1o H rfl ?_ |refine Oc ?_)
 refine k_dict_Remove (p:=q.d) H hi hb fun v' w H=>?_
 refine Ob ?_
 refine NEWo H fun t7 w H=>?_
 refine SNo H rfl (by simp) (by simp[entV,svV,Value.oneCell']) fun w H=>?_
 (repeat first |refine L1o H rfl ?_ |refine Oc ?_)
 refine LNo H (by simp[splice,entV]) ?_
 have e4:(Value.agg (List.take 4 (List.drop 0 (splice #[Value.string ⟨#[]⟩,.slice none 0 0,.int .u64 0,.int .u64 0].toList 0 (entV e v').cells.toList))).toArray)=entV e v':=by simp[splice,entV]
 rw[e4]
 have H:Own w.hp (cl p q N B hs (es.set i ent0) bn (delS A i) (c - 1) (s - costE e) now (upd tm i none) ev (imm (svV v') e.val::pt t2 [ptrV p]::pt t3 [.int .i64 k]::C)):=H.mv3.mv3.mv3.mv10.mv10.mv10.mv10.mv10.mv10.mv10.dp10
 refine c_tell hk heok hd hn H fun w H=>?_
 refine Ob ?_
 exact h w H.mv6.mv6.mv6.mv6.mv6.mv6.mv6.mv9.mv9.dp9
end
end Go.Cub
namespace Go.Cub
open Go Go.Proofs Go.IntWalk
def aOf (L:List (Nat×Ent)):List (Nat×Nat):=L.map fun x=>(x.1,costE x.2)
def delL (L:List (Nat×Ent)) (s:Nat):List (Nat×Ent):=L.filter fun x=>decide (x.1≠s)
def tmOf (es:List Ent):Tm:=fun s=>match es[s]? with
 |some e=>if e.birth=0 then none else some (e.dl,e.birth)
 |none=>none
structure LOk (m:Nat) (es:List Ent) (L:List (Nat×Ent)) (bn:Nat):Prop where
 nd:(L.map (·.1)).Nodup
 mem:∀(s:Nat) (e:Ent),(s,e)∈L↔es[s]?=some e∧e.birth≠0
 len:es.length≤m
 srt:((liveE es).map (·.birth)).Pairwise (· < ·)
 bn:∀x∈L,x.2.birth≤bn
def Alive (L:List (Nat×Ent)) (now:Nat):Prop:=∀x∈L,x.2.dl<18446744073709551616∧dueT x.2.dl now=false
def cac (p N B:Nat) (hs:Nat×Bool) (m:Nat) (L:List (Nat×Ent)) (bn now:Nat) (ev:List AEv):HP:=.ex fun q=>.ex fun es=>.all [.pu (LOk m es L bn∧Alive L now∧now<18446744073709551616∧bn<18446744073709551615),pt p (chC q N B hs),dct q.d hs es,bcn q.b bn,seg q.o (aOf L),bud q.u N B L.length (sumC (aOf L)),dues q.e now (tmOf es),evq q.v ev]
instance {p N B:Nat} {hs:Nat×Bool} {m:Nat} {L:List (Nat×Ent)} {bn now:Nat} {ev:List AEv}:Keyed (cac p N B hs m L bn now ev) (.b p):=⟨⟩
section
variable {m bn now s i:Nat} {es:List Ent} {L:List (Nat×Ent)} {e:Ent}
theorem LOk.inj (h:LOk m es L bn) {x y:Nat×Ent} (hx:x∈L) (hy:y∈L) (e:x.1=y.1):x=y:=by
 have h1:=((h.mem x.1 x.2).1 hx).1
 have h2:=((h.mem y.1 y.2).1 hy).1
 rw[e,h2] at h1
 exact Prod.ext e (Option.some.inj h1).symm
theorem cst_aOf:∀ {L:List (Nat×Ent)},(L.map (·.1)).Nodup→(s,e)∈L→cst (aOf L) s=some (costE e)
 |x::L,hn,h=>by
  simp only[List.map_cons,List.nodup_cons] at hn
  rcases List.mem_cons.1 h with rfl |h
  ·simp[aOf,cst]
  ·have hne:x.1≠s:=fun e1=>hn.1 (List.mem_map.2 ⟨_,h,e1.symm⟩)
   have ih:=cst_aOf hn.2 h
   simp only[aOf,List.map_cons,cst] at ih ⊢
   simpa[hne] using ih
theorem cst_aOf_none:∀ {L:List (Nat×Ent)},(∀x∈L,x.1≠s)→cst (aOf L) s=none
 |[],_=>rfl
 |x::L,h=>by
  have h1:=h x (by simp)
  have ih:=cst_aOf_none (L:=L) fun y hy=>h y (by simp[hy])
  simp only[aOf,List.map_cons,cst] at ih ⊢
  simpa[h1] using ih
theorem delS_aOf:delS (aOf L) s=aOf (delL L s):=by
 unfold delS aOf delL
 rw[List.filter_map]
 rfl
theorem delL_len:∀ {L:List (Nat×Ent)},(L.map (·.1)).Nodup→(s,e)∈L→(delL L s).length+1=L.length∧sumC (aOf (delL L s))+costE e=sumC (aOf L)
 |x::L,hn,h=>by
  simp only[List.map_cons,List.nodup_cons] at hn
  rcases List.mem_cons.1 h with rfl |h
  ·have :delL L s=L:=by
    unfold delL
    rw[List.filter_eq_self]
    intro y hy
    simp only[ne_eq,decide_eq_true_eq]
    exact fun e1=>hn.1 (List.mem_map.2 ⟨y,hy,e1⟩)
   have e1:delL ((s,e)::L) s=L:=by
    rw[←this]
    simp[delL,List.filter_filter]
   rw[e1]
   constructor
   ·simp
   ·simp[aOf,sumC];omega
  ·have hne:x.1≠s:=fun e1=>hn.1 (List.mem_map.2 ⟨_,h,e1.symm⟩)
   obtain⟨i1,i2⟩:=delL_len hn.2 h
   have e1:delL (x::L) s=x::delL L s:=by simp[delL,hne]
   rw[e1]
   constructor
   ·simp;omega
   ·simp only[aOf,sumC,List.map_cons,List.sum_cons] at i2 ⊢;omega
theorem mem_delL {x:Nat×Ent}:x∈delL L s↔x∈L∧x.1≠s:=by simp[delL]
theorem liveE_eq (es:List Ent):liveE es=es.filter fun e=>decide (e.birth≠0):=by
 have h:∀(es:List Ent) (k:Nat),((es.zipIdx k).filter fun x=>decide (x.1.birth≠0)).map (·.1)=es.filter fun e=>decide (e.birth≠0):=by
  intro es
  induction es with
  |nil=>intro k;rfl
  |cons a es ih=>
   intro k
   simp only[List.zipIdx_cons,List.filter_cons]
   by_cases hb:a.birth=0
   ·simp[hb];simpa using ih (k+1)
   ·simp[hb];simpa using ih (k+1)
 exact h es 0
theorem live_sub:∀(es:List Ent) (i:Nat),((es.set i ent0).filter fun e=>decide (e.birth≠0)).Sublist (es.filter fun e=>decide (e.birth≠0))
 |[],i=>by simp
 |a::es,0=>by
  simp only[List.set_cons_zero,List.filter_cons]
  have :ent0.birth=0:=rfl
  simp only[this,ne_eq,not_true,decide_false,Bool.false_eq_true,if_false]
  split
  ·exact List.sublist_cons_self _ _
  ·exact List.Sublist.refl _
 |a::es,i+1=>by
  have ih:=live_sub es i
  simp only[List.set_cons_succ,List.filter_cons]
  split
  ·exact ih.cons_cons _
  ·exact ih
theorem LOk.del (h:LOk m es L bn) (hi:(i,e)∈L):LOk m (es.set i ent0) (delL L i) bn:=by
 obtain⟨hg,hb⟩:=(h.mem i e).1 hi
 refine {nd:=(List.filter_sublist.map _).nodup h.nd,mem:=?_,len:=by simpa using h.len,srt:=?_,bn:=fun x hx=>h.bn x (mem_delL.1 hx).1}
 ·intro s e'
  rw[mem_delL,h.mem]
  constructor
  ·rintro⟨⟨h1,h2⟩,h3⟩
   exact⟨by rw[List.getElem?_set_ne (Ne.symm h3)];exact h1,h2⟩
  ·rintro⟨h1,h2⟩
   rcases get_set hg h1 with ⟨rfl,rfl⟩ |⟨h3,h4⟩
   ·simp[ent0] at h2
   ·exact⟨⟨h4,h2⟩,h3⟩
 ·have hs:=h.srt
  rw[liveE_eq] at hs ⊢
  exact hs.sublist ((live_sub es i).map _)
theorem tmOf_del (hi:es[i]?=some e):upd (tmOf es) i none=tmOf (es.set i ent0):=by
 funext t
 simp only[upd,tmOf]
 by_cases h:t=i
 ·subst h
  rw[List.getElem?_set_self (lt_of_get hi)]
  simp[ent0]
 ·rw[List.getElem?_set_ne (Ne.symm h),if_neg h]
theorem LOk.tm (h:LOk m es L bn) {d n:Nat}:tmOf es s=some (d,n)↔∃e,(s,e)∈L∧e.dl=d∧e.birth=n:=by
 unfold tmOf
 constructor
 ·intro hh
  cases hg:es[s]? with
  |none=>rw[hg] at hh;cases hh
  |some e=>
   rw[hg] at hh
   simp only at hh
   by_cases hb:e.birth=0
   ·rw[if_pos hb] at hh;cases hh
   ·rw[if_neg hb] at hh
    simp only[Option.some.injEq,Prod.mk.injEq] at hh
    exact⟨e,(h.mem s e).2 ⟨hg,hb⟩,hh⟩
 ·rintro⟨e,he,rfl,rfl⟩
  obtain⟨hg,hb⟩:=(h.mem s e).1 he
  rw[hg]
  simp only[if_neg hb]
end
section
variable {R:Value→World→Prop} {w:World} {C:List HP} {p N B:Nat} {hs:Nat×Bool} {m bn now i k:Nat} {L:List (Nat×Ent)} {ev:List AEv} {e:Ent}
attribute [local irreducible] PV CND GRD L1 LN S1 SN NEW NEWS MKS MKM LK MU DEL LENM APP CPY BTS Call CallV
theorem cac_iff {h:Hp}:Own h (cac p N B hs m L bn now ev::C)↔∃q es,(LOk m es L bn∧Alive L now∧now<18446744073709551616∧bn<18446744073709551615)∧Own h (cl p q N B hs es bn (aOf L) L.length (sumC (aOf L)) now (tmOf es) ev C):=by
 simp only[cac,own_ex,all8,own_pu]
theorem c_leave {t2 t3:Nat} {K:Value→World→Prop} (hk:2≤k∧k≤5) (hi:(i,e)∈L) (hn:ev.length<1048576) (H:Own w.hp (pt t2 [ptrV p]::pt t3 [.int .i64 k]::cac p N B hs m L bn now ev::C))
  (h:∀w',Own w'.hp (pt t2 [ptrV p]::pt t3 [.int .i64 k]::cac p N B hs m (delL L i) bn now (ev++[(k,e,now)])::C)→K (.tuple #[]) w'):
  CallV Pg (.func (.func 104) #[] #[ptrV t2,ptrV t3]) #[.int .u32 i] w K:=by
 obtain⟨q,es,⟨hL,hA,hnow,hbn⟩,H⟩:=cac_iff.1 H.mv2
 obtain⟨hg,hb⟩:=(hL.mem i e).1 hi
 obtain⟨hl1,hl2⟩:=delL_len hL.nd hi
 have hd:=(hA _ hi).2
 have hz:L.length=1→sumC (aOf L)=costE e:=by
  intro h1
  match L,h1,hi with
  |[x],_,hi=>
   simp only[List.mem_singleton] at hi
   subst hi
   simp[aOf,sumC]
 refine leave_go (q:=q) (N:=N) (B:=B) (hs:=hs) (es:=es) (A:=aOf L) (c:=L.length) (s:=sumC (aOf L)) (now:=now) (tm:=tmOf es) (ev:=ev) ⟨by omega,hk.2⟩ hg hb (by rw[hd];simp;omega) hn (cst_aOf hL.nd hi) (by omega) (by omega) hz H.mv6.mv6.mv6.mv6.mv6.mv6.mv6.mv8.mv8 fun w H=>?_
 refine h w (Own.bk2 (cac_iff.2 ⟨q,es.set i ent0,⟨hL.del hi,fun x hx=>hA x (mem_delL.1 hx).1,hnow,hbn⟩,?_⟩))
 rw[delS_aOf,tmOf_del hg,show L.length - 1=(delL L i).length by omega,show sumC (aOf L) - costE e=sumC (aOf (delL L i)) by omega] at H
 exact H.mv1.mv1.mv8.mv8.mv8.mv8.mv8.mv8.mv8
end
end Go.Cub
namespace Go.Cub
open Go Go.Proofs Go.IntWalk
def toOf (es:List Ent) (t:Nat):Nat:=if (liveS es)[plc (liveS es) t]?=some t then plc (liveS es) t else 0
def tosOf (es:List Ent):List Nat:=(List.range es.length).map (toOf es)
def packL (es:List Ent) (L:List (Nat×Ent)):List (Nat×Ent):=L.map fun x=>(toOf es x.1,x.2)
section
variable {m bn s j:Nat} {es:List Ent} {L:List (Nat×Ent)} {e:Ent}
theorem liveI_get {j s:Nat} {e:Ent} (h:(liveI es)[j]?=some (e,s)):(liveS es)[j]?=some s∧(liveE es)[j]?=some e:=by
 unfold liveS liveE
 rw[List.getElem?_map,List.getElem?_map,h]
 exact⟨rfl,rfl⟩
theorem to_at (h:(liveS es)[j]?=some s):toOf es s=j:=by
 have hs:=liveS_sorted es
 obtain⟨h1,h2⟩:=plc_spec (t:=s) hs
 have hj:=lt_of_get h
 rw[List.getElem?_eq_getElem hj] at h
 have h:=Option.some.inj h
 have hp:plc (liveS es) s=j:=by
  have hle:plc (liveS es) s≤j:=by
   apply Nat.le_of_not_lt
   intro hlt
   have :=h1 j hj hlt
   omega
  rcases Nat.lt_or_eq_of_le hle with hlt |heq
  ·have a1:=List.pairwise_iff_getElem.1 hs (plc (liveS es) s) j (by omega) hj hlt
   have a2:=h2 (plc (liveS es) s) (by omega) (Nat.le_refl _)
   omega
  ·exact heq
 unfold toOf
 rw[hp,List.getElem?_eq_getElem hj,h,if_pos rfl]
theorem to_live (hg:es[s]?=some e) (hb:e.birth≠0):(liveS es)[toOf es s]?=some s∧(liveE es)[toOf es s]?=some e:=by
 have hm:(e,s)∈liveI es:=mem_liveI.2 ⟨hg,hb⟩
 obtain⟨j,hj,he⟩:=List.getElem_of_mem hm
 have :=liveI_get (es:=es) (j:=j) (e:=e) (s:=s) (by rw[List.getElem?_eq_getElem hj,he])
 rw[to_at this.1]
 exact this
theorem tos_get (hs:s<es.length):(tosOf es)[s]?=some (toOf es s):=by
 unfold tosOf
 rw[List.getElem?_map,List.getElem?_range hs];rfl
theorem liveE_get (h:(liveE es)[j]?=some e):∃s,es[s]?=some e∧e.birth≠0∧toOf es s=j:=by
 obtain⟨s,h1,h2,h3⟩:=mem_live h
 exact⟨s,h2,h3,to_at (liveI_get h1).1⟩
theorem LOk.len_eq (h:LOk m es L bn):(liveE es).length=L.length:=by
 have hp:((liveI es).map fun y=>(y.2,y.1)).Perm L:=by
  refine(List.perm_ext_iff_of_nodup ?_ (nd_of_map h.nd)).2 fun x=>?_
  ·refine nd_of_map (f:=(·.1)) ?_
   rw[List.map_map]
   exact liveI_nodup es
  ·rw[List.mem_map,h.mem]
   constructor
   ·rintro⟨y,hy,rfl⟩
    exact mem_liveI.1 hy
   ·intro hh
    exact⟨(x.2,x.1),mem_liveI.2 hh,rfl⟩
 have :=hp.length_eq
 simpa[liveE] using this
theorem packL_snd:(packL es L).map (·.2)=L.map (·.2):=by
 unfold packL
 rw[List.map_map];rfl
theorem LOk.pack (h:LOk m es L bn):LOk L.length (liveE es) (packL es L) bn:=by
 have hto:∀x∈L,(liveS es)[toOf es x.1]?=some x.1∧(liveE es)[toOf es x.1]?=some x.2:=fun x hx=>by
  obtain⟨h1,h2⟩:=(h.mem x.1 x.2).1 hx
  exact to_live h1 h2
 refine {nd:=?_,mem:=?_,len:=by rw[h.len_eq];exact Nat.le_refl _,srt:=?_,bn:=?_}
 ·unfold packL
  rw[List.map_map]
  have :∀l:List (Nat×Ent),(∀x∈l,x∈L)→(l.map (·.1)).Nodup→(l.map ((·.1) ∘ fun x=>(toOf es x.1,x.2))).Nodup:=by
   intro l
   induction l with
   |nil=>simp
   |cons a l ih=>
    intro hl hn
    simp only[List.map_cons,List.nodup_cons] at hn ⊢
    refine⟨fun hm=>?_,ih (fun x hx=>hl x (by simp[hx])) hn.2⟩
    obtain⟨b,hb,e1⟩:=List.mem_map.1 hm
    have e1:toOf es b.1=toOf es a.1:=e1
    have a1:=(hto a (hl a (by simp))).1
    have b1:=(hto b (hl b (by simp[hb]))).1
    rw[e1,a1] at b1
    exact hn.1 (List.mem_map.2 ⟨b,hb,(Option.some.inj b1).symm⟩)
  exact this L (fun x hx=>hx) h.nd
 ·intro t e
  unfold packL
  rw[List.mem_map]
  constructor
  ·rintro⟨x,hx,e1⟩
   simp only[Prod.mk.injEq] at e1
   obtain⟨rfl,rfl⟩:=e1
   exact⟨(hto x hx).2,((h.mem x.1 x.2).1 hx).2⟩
  ·rintro⟨h1,h2⟩
   obtain⟨s,a1,a2,a3⟩:=liveE_get h1
   exact⟨(s,e),(h.mem s e).2 ⟨a1,a2⟩,by rw[a3]⟩
 ·have :liveE (liveE es)=liveE es:=by
   rw[liveE_eq,liveE_eq,List.filter_filter]
   simp
  rw[this]
  exact h.srt
 ·intro x hx
  unfold packL at hx
  obtain⟨y,hy,rfl⟩:=List.mem_map.1 hx
  exact h.bn y hy
theorem LOk.packTm (h:LOk m es L bn) {tm':Tm} (ht:∀y d n,tm' y=some (d,n)↔∃s,tmOf es s=some (d,n)∧(tosOf es)[s]?=some y):tm'=tmOf (liveE es):=by
 have h':=h.pack
 have key:∀y d n,tm' y=some (d,n)↔tmOf (liveE es) y=some (d,n):=by
  intro y d n
  rw[ht,h'.tm]
  constructor
  ·rintro⟨s,a1,a2⟩
   obtain⟨e,b1,b2,b3⟩:=h.tm.1 a1
   have hlt:=lt_of_get ((h.mem s e).1 b1).1
   rw[tos_get hlt] at a2
   have a2:=Option.some.inj a2
   exact⟨e,List.mem_map.2 ⟨(s,e),b1,by rw[←a2]⟩,b2,b3⟩
  ·rintro⟨e,b1,b2,b3⟩
   obtain⟨x,hx,e1⟩:=List.mem_map.1 b1
   simp only[Prod.mk.injEq] at e1
   obtain⟨e2,e3⟩:=e1
   have hlt:=lt_of_get ((h.mem x.1 x.2).1 hx).1
   refine⟨x.1,h.tm.2 ⟨x.2,hx,by rw[e3];exact b2,by rw[e3];exact b3⟩,?_⟩
   rw[tos_get hlt,e2]
 funext y
 cases h1:tm' y with
 |some x=>exact((key y x.1 x.2).1 h1).symm
 |none=>
  cases h2:tmOf (liveE es) y with
  |none=>rfl
  |some x=>
   have :=(key y x.1 x.2).2 h2
   rw[h1] at this;cases this
end
end Go.Cub
namespace Go.Cub
open Go Go.Proofs Go.IntWalk
def firstE (l:List Int):Int:=(l.find? fun x=>decide (x≠0)).getD 0
section
variable {R:Value→World→Prop} {w:World} {C:List HP} {u u2:HP→List HP} {p N B:Nat} {q:Pts} {hs:Nat×Bool} {m bn now i k c s:Nat} {es:List Ent} {A:List (Nat×Nat)} {tm:Tm} {L:List (Nat×Ent)} {ev:List AEv} {e:Ent}
attribute [local irreducible] PV CND GRD L1 LN S1 SN NEW NEWS MKS MKM LK MU DEL LENM APP CPY BTS Call CallV
theorem renS_aOf (h:LOk m es L bn):renS (tosOf es) (aOf L)=aOf (packL es L):=by
 unfold renS aOf packL
 rw[List.map_map,List.map_map]
 apply List.map_congr_left
 intro x hx
 have hlt:=lt_of_get ((h.mem x.1 x.2).1 hx).1
 have :=tos_get hlt
 simp only[Function.comp_apply,List.getD_eq_getElem?_getD,this,Option.getD_some]
theorem k_pack [f:Foc C (.b p) (cac p N B hs m L bn now ev) u] (H:Own w.hp C) (h:∀L' w',L'.map (·.2)=L.map (·.2)→Own w'.hp (u (cac p N B hs L.length L' bn now ev))→R (.tuple #[]) w'):Call Pg 59 #[ptrV p] w R:=by
 have h:∀L' w',L'.map (·.2)=L.map (·.2)→Own w'.hp (cac p N B hs L.length L' bn now ev::f.rest)→R (.tuple #[]) w':=fun L' w' e H=>h L' w' e (f.put H)
 obtain⟨q,es,⟨hL,hA,hnow,hbn⟩,H⟩:=cac_iff.1 (f.get H)
 generalize f.rest=C1 at H h
 have hlen:es.length≤4194304:=by
  obtain⟨S,_,H⟩:=dct_iff.1 H.mv1
  obtain⟨lg,ix,kk,hh,H⟩:=dctP_iff.1 H
  exact(elog_len H.mv1).1
 have H:=tl7.1 H
 refine c_59 ?_
 simp only[F_59]
 (repeat first |refine L1o H rfl ?_ |refine Oc ?_)
 refine k_compact_Dict (p:=q.d) H fun pd sv w H=>?_
 obtain⟨a1,a2,a3,rfl⟩:=sle_slice H.mv1
 refine Ob ?_
 refine NEWo H fun t3 w H=>?_
 refine SNo H rfl (by simp) (by simp[Value.oneCell']) fun w H=>?_
 have H:Own w.hp [pt t3 [.slice a1 a2 a3,.int .i64 es.length],dct pd hs (liveE es),sle (.slice a1 a2 a3) u32E (liveS es),pt p (chC q N B hs),dct q.d hs es,bcn q.b bn,seg q.o (aOf L),bud q.u N B L.length (sumC (aOf L)),dues q.e now (tmOf es),evq q.v ev,.all C1]:=H
 refine Ob ?_
 refine LNo H (by simp) ?_
 refine c_Moves_Len (sv:=.slice a1 a2 a3) H fun w H=>?_
 refine Ob ?_
 refine MKSo u32E 0 H rfl (Nat.le_refl _) (by omega) (by decide) fun tv w H=>?_
 have hlv:=leno (v:=tv) H
 rw[List.length_replicate] at hlv
 rw[hlv]
 refine Ob ?_
 have hls:(liveS es).length≤4194304:=by
  have :(liveS es).length≤es.length:=by
   unfold liveS liveI
   rw[List.length_map]
   exact Nat.le_trans (List.length_filter_le _ _) (by simp)
  omega
 have loop:∀(n t:Nat) (w:World),t+n=es.length→Own w.hp [sle tv u32E ((List.range t).map (toOf es)++List.replicate n 0),pt t3 [.slice a1 a2 a3,.int .i64 es.length],dct pd hs (liveE es),sle (.slice a1 a2 a3) u32E (liveS es),pt p (chC q N B hs),dct q.d hs es,bcn q.b bn,seg q.o (aOf L),bud q.u N B L.length (sumC (aOf L)),dues q.e now (tmOf es),evq q.v ev,.all C1]→
   B_59_5 R (ptrV p) (ptrV pd) (ptrV t3) tv (.int .i64 es.length) (.int .i64 t) w:=by
  intro n
  induction n with
  |zero=>
   intro t w ht H
   have ht:t=es.length:=ht
   subst ht
   have H:Own w.hp [sle tv u32E (tosOf es),pt t3 [.slice a1 a2 a3,.int .i64 es.length],dct pd hs (liveE es),sle (.slice a1 a2 a3) u32E (liveS es),pt p (chC q N B hs),dct q.d hs es,bcn q.b bn,seg q.o (aOf L),bud q.u N B L.length (sumC (aOf L)),dues q.e now (tmOf es),evq q.v ev,.all C1]:=by
    simpa[tosOf] using H
   have htl:(tosOf es).length≤4194304:=by simpa[tosOf] using hlen
   have htob:∀s,s<es.length→toOf es s<4194304∨toOf es s=0:=by
    intro s _
    unfold toOf
    split
    ·rename_i hh
     have :=lt_of_get hh
     omega
    ·exact .inr rfl
   refine B_59_5.intro ?_
   simp only[P_59_5]
   refine Ob ?_
   refine S1o H rfl rfl fun w H=>?_
   have H:Own w.hp [sle tv u32E (tosOf es),pt t3 [.slice a1 a2 a3,.int .i64 es.length],dct pd hs (liveE es),sle (.slice a1 a2 a3) u32E (liveS es),pt p (chC {q with d:=pd} N B hs),dct q.d hs es,bcn q.b bn,seg q.o (aOf L),bud q.u N B L.length (sumC (aOf L)),dues q.e now (tmOf es),evq q.v ev,.all C1]:=H
   (repeat first |refine L1o H rfl ?_ |refine Oc ?_)
   refine k_seg_Renumber (A:=aOf L) (tos:=tosOf es) H.mv11.mv11.mv11.mv11.mv10.mv10.mv10.mv10.mv10.mv10.mv10.mv11 ?_ htl ?_ fun w H=>?_
   ·intro x hx
    obtain⟨y,hy,rfl⟩:=List.mem_map.1 hx
    have hlt:=lt_of_get ((hL.mem y.1 y.2).1 hy).1
    refine⟨toOf es y.1,tos_get hlt,?_⟩
    have :=htob y.1 hlt
    omega
   ·rw[renS_aOf hL]
    have :=hL.pack.nd
    unfold aOf
    rw[List.map_map]
    exact this
   rw[renS_aOf hL] at H
   (repeat first |refine L1o H rfl ?_ |refine Oc ?_)
   refine k_due_Renumber (tos:=tosOf es) H.mv11.mv11.mv10.mv10.mv10.mv10.mv10.mv10.mv10.mv9.mv10.mv11 htl ?_ ?_ fun w tm' htm H=>?_
   ·intro s d n hsd
    obtain⟨e,he,_⟩:=hL.tm.1 hsd
    have hlt:=lt_of_get ((hL.mem s e).1 he).1
    refine⟨toOf es s,tos_get hlt,?_⟩
    have :=htob s hlt
    omega
   ·intro s s' y d n d' n' h1 h2 h3 h4
    obtain⟨e,he,_⟩:=hL.tm.1 h1
    obtain⟨e',he',_⟩:=hL.tm.1 h2
    have g1:=(hL.mem s e).1 he
    have g2:=(hL.mem s' e').1 he'
    rw[tos_get (lt_of_get g1.1)] at h3
    rw[tos_get (lt_of_get g2.1)] at h4
    have b1:=(to_live g1.1 g1.2).1
    have b2:=(to_live g2.1 g2.2).1
    rw[Option.some.inj h3] at b1
    rw[Option.some.inj h4,b1] at b2
    exact Option.some.inj b2
   rw[hL.packTm htm] at H
   refine h (packL es L) w packL_snd (cac_iff.2 ⟨{q with d:=pd},liveE es,⟨hL.pack,?_,hnow,hbn⟩,?_⟩)
   ·intro x hx
    obtain⟨y,hy,rfl⟩:=List.mem_map.1 hx
    exact hA y hy
   ·have e1:(packL es L).length=L.length:=by simp[packL]
    have e2:sumC (aOf (packL es L))=sumC (aOf L):=by
     unfold sumC aOf packL
     rw[List.map_map,List.map_map,List.map_map]
     rfl
    rw[e1,e2]
    have H:=H.mv11.mv11.mv2.mv11.mv5.mv11.mv8.mv10.dp8.dp8.dp8.dp8
    exact tl7.2 H
  |succ n ih=>
   intro t w ht H
   refine B_59_5.intro ?_
   simp only[P_59_5]
   refine Ob ?_
   refine LNo H (by simp) ?_
   refine c_Moves_To (sv:=.slice a1 a2 a3) H hls (liveS_sorted es) fun w e H=>?_
   have hg:((List.range t).map (toOf es)++List.replicate (n+1) 0)[t]?=some 0:=by
    rw[List.getElem?_append_right (by simp)];simp
   refine Ob ?_
   refine idxo (v:=tv) (E:=u32E) H (lt_of_get hg) ?_
   refine S1e (v:=tv) (E:=u32E) (j:=0) (toOf es t) H hg (by decide) rfl rfl fun w H=>?_
   refine Ob ?_
   rw[show((t:Int)+1)=((t+1:Nat):Int) by simp]
   refine ih (t+1) w (by omega) ?_
   have e1:((List.range t).map (toOf es)++List.replicate (n+1) 0).set t (toOf es t)=(List.range (t+1)).map (toOf es)++List.replicate n 0:=by
    rw[List.set_append_right _ _ (by simp),List.length_map,List.length_range,Nat.sub_self,List.replicate_succ,List.set_cons_zero,List.range_succ]
    simp
   rw[e1] at H
   exact H
 exact loop es.length 0 w (by omega) H
end
end Go.Cub
namespace Go.Cub
open Go Go.Proofs Go.IntWalk
section
variable {R:Value→World→Prop} {w:World} {C:List HP} {u u2:HP→List HP} {p N B:Nat} {q:Pts} {hs:Nat×Bool} {m bn now i k c s:Nat} {es:List Ent} {A:List (Nat×Nat)} {tm:Tm} {L:List (Nat×Ent)} {ev:List AEv} {e:Ent}
attribute [local irreducible] PV CND GRD L1 LN S1 SN NEW NEWS MKS MKM LK MU DEL LENM APP CPY BTS Call CallV
theorem c_first {v:Value} {xs:List Int} [f:Foc C (.v v) (sle v i64E xs) u] (H:Own w.hp C) (hl:xs.length≤1000000) (h:R (.int .i64 (firstE xs)) w):Call Pg 96 #[v] w R:=by
 refine c_96 ?_
 simp only[F_96]
 rw[leno (v:=v) H]
 refine Ob ?_
 have loop:∀(n j:Nat),j+n=xs.length→firstE xs=firstE (xs.drop j)→B_96_2 R v (.int .i64 xs.length) (.int .i64 j) w:=by
  intro n
  induction n with
  |zero=>
   intro j hj hf
   rw[List.drop_eq_nil_of_le (by omega)] at hf
   have hf:firstE xs=0:=hf
   refine B_96_2.intro ?_
   simp only[P_96_2]
   refine Ob ?_
   rw[hf] at h
   exact h
  |succ n ih=>
   intro j hj hf
   have hlt:j<xs.length:=by omega
   rw[List.drop_eq_getElem_cons hlt] at hf
   refine B_96_2.intro ?_
   simp only[P_96_2]
   refine Ob ?_
   refine idxo (v:=v) (E:=i64E) H hlt ?_
   refine L1e (v:=v) (E:=i64E) (j:=0) H (List.getElem?_eq_getElem hlt) rfl ?_
   by_cases hz:xs[j]=0
   ·have hf2:firstE xs=firstE (xs.drop (j+1)):=by
     rw[hf];simp[firstE,hz]
    refine Ob ?_
    rw[show((j:Int)+1)=((j+1:Nat):Int) by simp]
    exact ih (j+1) (by omega) hf2
   ·have hf2:firstE xs=xs[j]:=by
     rw[hf]
     generalize xs.drop (j+1)=r
     simp only[firstE,List.find?_cons,ne_eq,hz,not_false_eq_true,decide_true,Option.getD_some]
    rw[hf2] at h
    refine Ob ?_
    exact h
 exact loop xs.length 0 (by omega) rfl
theorem c_cl_none (H:Own w.hp (cl p q N B hs es bn A c s now tm ev C)) (h:R (.bool false) w):Call Pg 41 #[ptrV p] w R:=by
 refine c_41 ?_
 simp only[F_41]
 (repeat first |refine L1o H rfl ?_ |refine Oc ?_)
 exact h
theorem k_none [f:Foc C (.b p) (cac p N B hs m L bn now ev) u] (H:Own w.hp C) (h:R (.bool false) w):Call Pg 41 #[ptrV p] w R:=by
 obtain⟨q,es,_,H⟩:=cac_iff.1 (f.get H)
 exact c_cl_none H h
theorem live_len (h:LOk m es L bn):live es=L.length:=by
 rw[←h.len_eq,liveE_eq];rfl
theorem k_check {v:Value} {xs:List Int} [f:Foc C (.b p) (cac p N B hs m L bn now ev) u] (H:Own w.hp (sle v i64E xs::C)) (hl:xs.length≤100) (hn:ev.length+L.length≤1048576) (h:∀w',Own w'.hp C→R (.int .i64 (firstE (xs++[0]))) w'):
  Call Pg 47 #[ptrV p,v] w R:=by
 refine c_47 ?_
 simp only[F_47]
 refine k_none (p:=p) H.drop ?_
 have hopen:∀ {K:Prop},(∀q es,LOk m es L bn→Own w.hp (cl p q N B hs es bn (aOf L) L.length (sumC (aOf L)) now (tmOf es) ev f.rest)→K)→K:=fun h=>by
  obtain⟨q,es,⟨hL,_⟩,H⟩:=cac_iff.1 (f.get H.drop)
  exact h q es hL H
 refine Ob ?_
 refine hopen fun q es hL H1=>?_
 refine L1o H1 rfl ?_
 refine L1o H1 rfl ?_
 refine k_evq_Len (p:=q.v) (w:=w.drew) H1 ?_
 refine⟨L1o H1 rfl rfl,?_⟩
 refine k_dict_Len (p:=q.d) (w:=w.drew) H1 ?_
 rw[live_len hL]
 refine Ob ?_
 refine B_47_6.intro ?_
 simp only[P_47_6]
 refine NEWSo (w:=w.drew) i64E [(0:Int)] H (cs:=#[.int .i64 0]) rfl rfl rfl fun tt w H=>?_
 refine APPo (E:=i64E) (xs:=xs) (ys:=[0]) (v:=v) H rfl (by decide) (by simp;omega) fun v' w H=>?_
 refine c_first (v:=v') H.drop (by simp;omega) ?_
 exact h w H.drop.drop
theorem c_use {c0 n:Nat} (hA:cst A i=some c0) (hB:(1≤N∧N≤1048576)∧1≤B∧B≤1099511627776) (hc:1≤c∧c≤2097152) (hs1:c0≤s) (hs2:c=1→s=c0) (hs3:s - c0+n≤2305843009213693952) (hn:n≤1099511627776) (hn0:c0≤1099511627776) (H:Own w.hp (cl p q N B hs es bn A c s now tm ev C))
  (h:∀w',Own w'.hp (cl p q N B hs es bn (delS A i++[(i,n)]) c (s - c0+n) now tm ev C)→R (.tuple #[]) w'):Call Pg 130 #[ptrV p,.int .u32 i,.int .i64 n] w R:=by
 refine c_130 ?_
 simp only[F_130]
 (repeat first |refine L1o H rfl ?_ |refine Oc ?_)
 refine k_seg_Of (p:=q.o) H hA ?_
 (repeat first |refine L1o H rfl ?_ |refine Oc ?_)
 refine k_seg_Use (p:=q.o) H hn hA fun w H=>?_
 (repeat first |refine L1o H rfl ?_ |refine Oc ?_)
 refine k_bud_Remove (p:=q.u) H hc.1 hs1 hs2 hn0 fun w H=>?_
 (repeat first |refine L1o H rfl ?_ |refine Oc ?_)
 refine LNo H (by simp[chC]) ?_
 have e5:(Value.agg (List.take 5 (List.drop 6 (chC q N B hs))).toArray)=cfgV N B 0 hs.1 hs.2:=rfl
 rw[e5]
 refine c_config_Part (by omega) (by omega) fun w' he=>?_
 have H:=H.ex he
 refine Ob ?_
 refine B_130_7.intro ?_
 simp only[P_130_7]
 (repeat first |refine L1o H rfl ?_ |refine Oc ?_)
 refine k_bud_Add (p:=q.u) H (by omega) (by omega) hn fun w H=>?_
 refine c_57 ?_
 simp only[F_57]
 refine PV_of (v:=.int .i64 0) rfl ?_
 refine B_57_1.intro ?_
 simp only[P_57_1]
 refine Ob ?_
 rw[show c - 1+1=c by omega] at H
 exact h w H
end
end Go.Cub
namespace Go.Cub
open Go Go.Proofs Go.IntWalk
def notDue (L:List (Nat×Ent)) (t:Nat):List (Nat×Ent):=L.filter fun x=> !dueT x.2.dl t
section
variable {R:Value→World→Prop} {w:World} {C:List HP} {u u2:HP→List HP} {p N B:Nat} {q:Pts} {hs:Nat×Bool} {m bn now i k c s to:Nat} {es:List Ent} {A:List (Nat×Nat)} {tm:Tm} {L:List (Nat×Ent)} {ev:List AEv} {e:Ent} {eff:Value}
attribute [local irreducible] PV CND GRD L1 LN S1 SN NEW NEWS MKS MKM LK MU DEL LENM APP CPY BTS Call CallV
theorem c_leaveF (H:Own w.hp C) (h:∀t2 t3 w',Own w'.hp (pt t2 [ptrV p]::pt t3 [.int .i64 k]::C)→R (.func (.func 104) #[] #[ptrV t2,ptrV t3]) w'):Call Pg 51 #[ptrV p,.int .i64 k] w R:=by
 refine c_51 ?_
 simp only[F_51]
 refine NEWo H fun t2 w H=>?_
 refine NEWo H fun t3 w H=>?_
 exact h t2 t3 w H.mv1
theorem delL_notin:∀ {L:List (Nat×Ent)},(∀x∈L,x.1≠s)→delL L s=L:=fun h=>by
 unfold delL
 rw[List.filter_eq_self]
 intro x hx
 simpa using h x hx
theorem run_expire {t2 t3:Nat} {D:List (Nat×Nat×Nat)} {v:Value} {tm':Tm} (htm':∀s,(∃x∈D,x.1=s)→tm' s=none) (hdl:D.length≤4194304)
  (hcont:∀w es' L' Y,LOk m es' L' bn→(∀x,x∈L'↔x∈L∧¬∃y∈D,y.1=x.1)→L'.Sublist L→Y.length+L'.length=L.length→(∀y∈Y,y.1=1)→Own w.hp (cl p q N B hs es' bn (aOf L') L'.length (sumC (aOf L')) now tm' (ev++Y) C)→
   B_48_2 R (ptrV p) eff (.func (.func 104) #[] #[ptrV t2,ptrV t3]) v (.int .i64 D.length) (.int .i64 D.length) w):
  ∀(n j:Nat) (w:World) (es':List Ent) (L':List (Nat×Ent)) (Y:List AEv),j+n=D.length→LOk m es' L' bn→(∀x,x∈L'↔x∈L∧¬∃y∈D.take j,y.1=x.1)→L'.Sublist L→Y.length+L'.length=L.length→(∀y∈Y,y.1=1)→ev.length+L.length<1048577→(D.map (·.1)).Nodup→
   (∀y∈D,∃e,(y.1,e)∈L∧dueT e.dl now=true)→
   Own w.hp (sle v tmE D::pt t2 [ptrV p]::pt t3 [.int .i64 (1:Nat)]::cl p q N B hs es' bn (aOf L') L'.length (sumC (aOf L')) now tm' (ev++Y) C)→
   B_48_2 R (ptrV p) eff (.func (.func 104) #[] #[ptrV t2,ptrV t3]) v (.int .i64 D.length) (.int .i64 j) w:=by
 intro n
 induction n with
 |zero=>
  intro j w es' L' Y hj hL' hmem hsub hY hY1 hev hDn hDd H
  have hj:j=D.length:=hj
  subst hj
  rw[List.take_length] at hmem
  exact hcont w es' L' Y hL' hmem hsub hY hY1 H.drop.drop.drop
 |succ n ih=>
  intro j w es' L' Y hj hL' hmem hsub hY hY1 hev hDn hDd H
  have hjl:j<D.length:=by omega
  have hg:D[j]?=some D[j]:=List.getElem?_eq_getElem hjl
  generalize hx:D[j]=x at hg
  obtain⟨sl,d,bb⟩:=x
  obtain⟨e,heL,hed⟩:=hDd _ (List.mem_of_getElem? hg)
  have hnt:¬∃y∈D.take j,y.1=sl:=by
   rintro⟨y,hy,e1⟩
   obtain⟨a,ha,e2⟩:=List.getElem_of_mem hy
   rw[List.getElem_take] at e2
   have hal:a<j:=by simp at ha;omega
   have :=(List.getElem_inj (i:=a) (j:=j) (h₀:=by simp;omega) (h₁:=by simpa using hjl) hDn).1 (by simp only[List.getElem_map];rw[e2,hx,e1])
   omega
  have heL':(sl,e)∈L':=(hmem _).2 ⟨heL,hnt⟩
  obtain⟨hge,hbe⟩:=(hL'.mem sl e).1 heL'
  obtain⟨hl1,hl2⟩:=delL_len hL'.nd heL'
  have hz:L'.length=1→sumC (aOf L')=costE e:=by
   intro h1
   match L',h1,heL' with
   |[x],_,hi=>
    simp only[List.mem_singleton] at hi
    subst hi
    simp[aOf,sumC]
  have htn:tm' sl=none:=htm' sl ⟨_,List.mem_of_getElem? hg,rfl⟩
  refine B_48_2.intro ?_
  simp only[P_48_2]
  refine Ob ?_
  refine idxo (v:=v) (E:=tmE) H hjl ?_
  refine LNe (v:=v) (E:=tmE) H hg ?_
  refine NEWo H fun t8 w H=>?_
  refine SNo H rfl (by simp) (fun x hx=>tmE.one (sl,d,bb) x (by simpa using hx)) fun w H=>?_
  have H:Own w.hp (pt t8 [.int .u32 sl,.int .u64 d,.int .u64 bb]::_):=H
  (repeat first |refine L1o H rfl ?_ |refine Oc ?_)
  refine leave_go (k:=1) (q:=q) (N:=N) (B:=B) (hs:=hs) (es:=es') (A:=aOf L') (c:=L'.length) (s:=sumC (aOf L')) (now:=now) (tm:=tm') (ev:=ev++Y) (by decide) hge hbe (by rw[hed];rfl) (by simp;omega) (cst_aOf hL'.nd heL') (by omega) (by omega) hz H.mv1.mv1.mv10.mv10.mv10.mv10.mv10.mv10.mv10.mv10.mv10 fun w H=>?_
  rw[delS_aOf,upd_none htn,show L'.length - 1=(delL L' sl).length by omega,show sumC (aOf L') - costE e=sumC (aOf (delL L' sl)) by omega,List.append_assoc] at H
  refine Ob ?_
  rw[show((j:Int)+1)=((j+1:Nat):Int) by simp]
  refine ih (j+1) w (es'.set sl ent0) (delL L' sl) (Y++[(1,e,now)]) (by omega) (hL'.del heL') ?_ (List.filter_sublist.trans hsub) (by simp;omega) ?_ hev hDn hDd ?_
  ·intro x
   rw[mem_delL,hmem,List.take_add_one,hg]
   constructor
   ·rintro⟨⟨h1,h2⟩,h3⟩
    refine⟨h1,?_⟩
    rintro⟨y,hy,e1⟩
    rcases List.mem_append.1 hy with hy |hy
    ·exact h2 ⟨y,hy,e1⟩
    ·simp at hy
     subst hy
     exact h3 e1.symm
   ·rintro⟨h1,h2⟩
    refine⟨⟨h1,?_⟩,?_⟩
    ·rintro⟨y,hy,e1⟩
     exact h2 ⟨y,List.mem_append_left _ hy,e1⟩
    ·intro e1
     exact h2 ⟨(sl,d,bb),by simp,e1.symm⟩
  ·intro y hy
   rcases List.mem_append.1 hy with hy |hy
   ·exact hY1 y hy
   ·simp at hy;subst hy;rfl
  ·exact H.mv8.mv8.mv8.mv8.mv8.mv8.mv8.mv8.mv8.mv10.dp10
end
end Go.Cub
