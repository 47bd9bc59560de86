/-
  Part 30 of the proof that TopNested returns true and leaves what it was given as it was. CONDITIONS: those of the given row and card.
-/
import Derived.Test.YtpelalpajdpkgaaGreatDoorZ28
set_option linter.all false
namespace Go.Cub
open Go Go.Proofs Go.IntWalk
section
variable {R:Value→World→Prop} {w:World} {C:List HP} {u:HP→List HP} {p N B:Nat} {q:Pts} {hs:Nat×Bool} {m bn now to i a:Nat} {es:List Ent} {L:List (Nat×Ent)} {ev:List AEv} {e e':Ent} {key:ByteArray}
attribute [local irreducible] PV CND GRD L1 LN S1 SN NEW NEWS MKS MKM LK MU DEL LENM APP CPY BTS Call CallV
theorem k_After {C0:HP} (hto:to<18446744073709551616) (ha:a<18446744073709551615) (hev:ev.length+L.length≤1048576) (H:Own w.hp [glb,cac p N B hs m L bn now ev,C0])
  (h:∀X L3 Y m3,X.length+(notDue L (max now to)).length=L.length→(∀x∈X,x.1=1)→(∀y∈Y,y.1=2)→Y.length=(vics N B nobody (notDue L (max now to))).length→L3.map (·.2)=(outL (notDue L (max now to)) (vics N B nobody (notDue L (max now to)))).map (·.2)→m3=2 * (outL (notDue L (max now to)) (vics N B nobody (notDue L (max now to)))).length+16→
   ((∀x∈L3,x.2.birth≤a)→∀w',Own w'.hp [glb,cac p N B hs m3 L3 bn (max now to) (ev++X++Y),C0]→R (.tuple #[entV ent0 sv0,.bool false,.int .i64 0]) w')∧
   (∀s e v w',(s,e)∈L3→a<e.birth→(∀x∈L3,a<x.2.birth→e.birth≤x.2.birth)→Own w'.hp [imm (svV v) e.val,glb,cac p N B hs m3 L3 bn (max now to) (ev++X++Y),C0]→R (.tuple #[entV e v,.bool true,.int .i64 0]) w')):
  Call Pg 121 #[ptrV p,.int .u64 to,.int .u64 a] w R:=by
 refine c_121 ?_
 simp only[F_121]
 refine NEWo H fun t6 w H=>?_
 have H:Own w.hp [pt t6 [.string ⟨#[]⟩,.slice none 0 0,.int .u64 0,.int .u64 0],glb,cac p N B hs m L bn now ev,C0]:=H
 refine k_check (p:=p) (xs:=[]) (sl_nil i64E H) (by simp) hev fun w H=>?_
 rw[show firstE ([]++[0])=0 from rfl]
 refine Ob ?_
 refine k_runN (C:=[pt t6 [.string ⟨#[]⟩,.slice none 0 0,.int .u64 0,.int .u64 0],C0]) hto hev H.mv3.mv1.mv3.mv3 fun X hX hX1 w'' L3 Y hY2 hY hL3 H=>?_
 obtain⟨g1,g2⟩:=h X L3 Y _ hX hX1 hY2 hY hL3 rfl
 obtain⟨q,es,⟨hL,hA,hnow,hbn⟩,H⟩:=cac_iff.1 H.mv1
 have hbs:∀e∈es,e.birth<18446744073709551616:=by
  intro e he
  obtain⟨j,hj,rfl⟩:=List.getElem_of_mem he
  by_cases hb:es[j].birth=0
  ·rw[hb];decide
  ·have :=hL.bn (j,es[j]) ((hL.mem _ _).2 ⟨List.getElem?_eq_getElem hj,hb⟩)
   have :es[j].birth≤bn:=this
   omega
 (repeat first |refine L1o H rfl ?_ |refine Oc ?_)
 refine k_birth_After (p:=q.d) H ha hbs (fun w hf H=>?_) (fun w x hf H=>?_)
 ·refine Ob ?_
  refine PV_of (v:=.agg #[.string ⟨#[]⟩,.slice none 0 0,.int .u64 0,.int .u64 0]) rfl ?_
  refine SNo H rfl (by simp) (by simp[Value.oneCell']) fun w H=>?_
  refine LNo H (by simp[splice]) ?_
  have H:=cac_iff.2 ⟨q,es,⟨hL,hA,hnow,hbn⟩,H⟩
  exact g1 (first_none hL hbn hf) w H.mv3.mv1.mv2.dp3
 ·obtain⟨e,he,h1,h2⟩:=first_some hL hbn hf
  obtain⟨hi,hb⟩:=(hL.mem _ _).1 he
  (repeat first |refine L1o H rfl ?_ |refine Oc ?_)
  refine k_dict_Get (p:=q.d) H hi hb fun v w H=>?_
  refine Ob ?_
  refine NEWo H fun t12 w H=>?_
  refine SNo H rfl (by simp) (by simp[entV,svV,Value.oneCell']) fun w H=>?_
  refine LNo H (by simp[splice,entV]) ?_
  refine SNo H rfl (by simp) (by simp[splice,entV,svV,Value.oneCell']) fun w H=>?_
  refine LNo H (by simp[splice,entV]) ?_
  have H:=H.mv11.mv11.mv3.mv11.mv11.mv11.mv11.mv11.mv11.mv11.mv11.dp11
  have H:=cac_iff.2 ⟨q,es,⟨hL,hA,hnow,hbn⟩,H⟩
  exact g2 _ e v w he h1 h2 H.mv4.mv1.mv2.mv3.dp4
end
end Go.Cub
namespace Go.Cub
open Go Go.Proofs Go.IntWalk
theorem mem_outL:∀ {V:List Nat} {L:List (Nat×Ent)} {x:Nat×Ent},x∈outL L V↔x∈L∧x.1∉V
 |[],L,x=>by simp[outL]
 |a::V,L,x=>by
  have :outL L (a::V)=outL (delL L a) V:=rfl
  rw[this,mem_outL,mem_delL]
  simp only[List.mem_cons,not_or]
  exact and_assoc
section
variable {R:Value→World→Prop} {w:World} {C:List HP} {u:HP→List HP} {p N B:Nat} {q:Pts} {hs:Nat×Bool} {m bn now to i a:Nat} {es:List Ent} {L:List (Nat×Ent)} {ev:List AEv} {e e':Ent} {key:ByteArray}
attribute [local irreducible] PV CND GRD L1 LN S1 SN NEW NEWS MKS MKM LK MU DEL LENM APP CPY BTS Call CallV
theorem clear_6 {t2 t3:Nat} {v:Value} {V ds:List Nat} (hl:V.length≤4194304)
  (hcont:∀w Y,(∀y∈Y,y.1=5)→Y.length=V.length→Own w.hp (sle v u32E V::cac p N B hs m (outL L V) bn now (ev++Y)::C)→R (.int .u32 4294967295) w):
  ∀(n j:Nat) (w:World) (Y:List AEv),j+n=V.length→Y.length=j→(∀y∈Y,y.1=5)→ev.length+V.length<1048577→V.Nodup→(∀s∈V,∃e,(s,e)∈L)→
   Own w.hp (dfo ds::sle v u32E V::pt t2 [ptrV p]::pt t3 [.int .i64 (5:Nat)]::cac p N B hs m (outL L (V.take j)) bn now (ev++Y)::C)→
   B_49_6 R (.func (.func 104) #[] #[ptrV t2,ptrV t3]) v (.int .i64 V.length) (.int .i64 j) (dfs ds) w:=by
 intro n
 induction n with
 |zero=>
  intro j w Y hj hY hY2 hev hn hV H
  have hj:j=V.length:=hj
  subst hj
  rw[List.take_length] at H
  refine B_49_6.intro ?_
  simp only[P_49_6]
  refine Ob ?_
  refine RET_ds ds w H fun w H=>?_
  exact hcont w Y hY2 hY H.dp1.dp1
 |succ n ih=>
  intro j w Y hj hY hY2 hev hn hV H
  have hjl:j<V.length:=by omega
  have hg:V[j]?=some V[j]:=List.getElem?_eq_getElem hjl
  generalize hx:V[j]=x at hg
  obtain⟨e,he⟩:=hV x (List.mem_of_getElem? hg)
  have hnt:x∉V.take j:=by
   intro hm
   obtain⟨a,ha,e2⟩:=List.getElem_of_mem hm
   rw[List.getElem_take] at e2
   have hal:a<j:=by simp at ha;omega
   have :=(List.getElem_inj (i:=a) (j:=j) (h₀:=by omega) (h₁:=hjl) hn).1 (by rw[e2,hx])
   omega
  have hxe:(x,e)∈outL L (V.take j):=mem_outL.2 ⟨he,hnt⟩
  refine B_49_6.intro ?_
  simp only[P_49_6]
  refine Ob ?_
  refine idxo (v:=v) (E:=u32E) H hjl ?_
  refine L1e (v:=v) (E:=u32E) (j:=0) H hg rfl ?_
  refine c_leave (k:=5) (by decide) hxe (by simp;omega) H.mv1.mv1.mv4.mv4.mv4 fun w H=>?_
  refine Ob ?_
  rw[show((j:Int)+1)=((j+1:Nat):Int) by simp]
  have e1:delL (outL L (V.take j)) x=outL L (V.take (j+1)):=by
   rw[List.take_add_one,hg]
   simp[outL]
  rw[e1,List.append_assoc] at H
  refine ih (j+1) w (Y++[(5,e,now)]) (by omega) (by simp;omega) ?_ hev hn hV H.mv2.mv2.mv2.mv4.mv4
  intro y hy
  rcases List.mem_append.1 hy with hy |hy
  ·exact hY2 y hy
  ·simp at hy;subst hy;rfl
theorem c_clear1 {t2 t7:Nat} {C0:HP} {K:Value→World→Prop} (hev:ev.length+L.length<1048577) (H:Own w.hp [cac p N B hs m L bn now ev,pt t2 [ptrV p],pt t7 [.slice none 0 0],C0])
  (h:∀w' sv Y V,(∀y∈Y,y.1=5)→Y.length=L.length→V.length=L.length→Own w'.hp [cac p N B hs m [] bn now (ev++Y),pt t2 [ptrV p],pt t7 [sv],sle sv u32E V,C0]→K (.int .u32 (nobody:Nat)) w'):
  CallV Pg (.func (.func 49) #[] #[ptrV t2,ptrV t7]) #[] w K:=by
 refine callV_fn (Tryz.calOk _ (by rfl)) ?_
 show Call Pg 49 #[ptrV t2,ptrV t7] w _
 refine c_49 ?_
 simp only[F_49]
 obtain⟨q,es,⟨hL,hA,hnow,hbn⟩,H⟩:=cac_iff.1 H
 obtain⟨f1,f2,f3,f4⟩:=cl_facts H
 (repeat first |refine L1o H rfl ?_ |refine Oc ?_)
 refine k_dict_All (p:=q.d) H fun t s LL w hl H=>?_
 have hll:(liveI es).length≤es.length:=by
  unfold liveI
  exact Nat.le_trans (List.length_filter_le _ _) (by simp)
 have hVl:(liveS es).length=L.length:=by
  have :=hL.len_eq
  simpa[liveE,liveS] using this
 refine RFx (fun i=>.ex fun sv=>.all [pt t7 [sv],sle sv u32E (((liveI es).take i).map (·.2)),pt t2 [ptrV p],cac p N B hs m L bn now ev,C0]) (fun _=>.pu False) (iter_el (s:=s) hl) ?_ ?_ ?_ ?_
 ·have H:=H.mv10.mv1.mv10.mv10.mv10.mv10.mv10.mv10.mv10.mv10.mv10
  have H:=cac_iff.2 ⟨q,es,⟨hL,hA,hnow,hbn⟩,H⟩
  have H:=sl_nil u32E H
  exact Own.mv1 (own_ex.2 ⟨.slice none 0 0,all5.2 H.mv4.mv5.mv3.mv4.mv4.mv5⟩)
 ·intro l j y hj args r w X hrd hst H
  obtain⟨v,H⟩:=own_ex.1 H
  obtain⟨rfl,H⟩:=own_pu.1 (all2.1 H)
  have hjl:=lt_of_get hj
  have H2:=H.mv1
  refine y_49_3 (x13:=.int .u32 y.2) (x14:=entV y.1 v) H2.lp hrd.fn hrd.params hrd.aq hrd.body hrd.size hrd.live ?_
  simp only[D_49_3]
  refine BRo H hst fun w H=>?_
  obtain⟨sv,H⟩:=own_ex.1 H.mv4.mv3.mv3.mv3.mv4
  have H:=all5.1 H
  (repeat first |refine L1o H rfl ?_ |refine Oc ?_)
  refine NEWSo u32E [y.2] H (cs:=#[.int .u32 y.2]) rfl rfl rfl fun tt w H=>?_
  refine APPo (E:=u32E) (ys:=[y.2]) (v:=sv) H rfl (by decide) (by simp;omega) fun sv' w H=>?_
  have H:=H.drop
  obtain⟨a1,a2,a3,rfl⟩:=sle_slice H.mv1
  refine S1o H rfl rfl fun w H=>?_
  have hsu:((liveI es).take (j+1)).map (·.2)=((liveI es).take j).map (·.2)++[y.2]:=by
   rw[List.take_add_one,hj];simp
  refine ERn hrd (Own.bk2 (own_ex.2 ⟨.slice a1 a2 a3,all5.2 ?_⟩))
  rw[hsu]
  exact H.mv8.mv8.mv8.mv7.mv7.mv7.mv7.mv7.dp8
 ·intro d w H
  refine JMP_none ?_
  obtain⟨sv,H⟩:=own_ex.1 H.mv2
  have H:=all5.1 H
  rw[List.take_length] at H
  have H:Own w.hp [pt t7 [sv],sle sv u32E (liveS es),pt t2 [ptrV p],cac p N B hs m L bn now ev,C0,dfr d (some []),elA t s LL]:=H
  (repeat first |refine L1o H rfl ?_ |refine Oc ?_)
  refine c_leaveF (k:=5) H fun t2' t3' w H=>?_
  (repeat first |refine L1o H rfl ?_ |refine Oc ?_)
  rw[leno (v:=sv) (E:=u32E) (xs:=liveS es) H]
  refine Ob ?_
  have H:Own w.hp (dfo [d]::sle sv u32E (liveS es)::pt t2' [ptrV p]::pt t3' [.int .i64 (5:Nat)]::cac p N B hs m (outL L ((liveS es).take 0)) bn now (ev++[])::[pt t2 [ptrV p],pt t7 [sv],C0]):=by
   rw[List.append_nil]
   exact all1.2 H.mv6.mv3.mv5.mv6.mv5.mv5.mv6.mv7.dp8
  refine clear_6 (V:=liveS es) (ds:=[d]) (L:=L) (p:=p) (N:=N) (B:=B) (hs:=hs) (m:=m) (bn:=bn) (now:=now) (ev:=ev) (C:=[pt t2 [ptrV p],pt t7 [sv],C0]) (by omega) (fun w Y hY5 hYl H=>?_) (liveS es).length 0 w [] (by omega) rfl (by simp) (by omega) (liveI_nodup es) (fun s hs'=>?_) H
  ·have hnil:outL L (liveS es)=[]:=by
    rw[List.eq_nil_iff_forall_not_mem]
    intro x hx
    obtain⟨h1,h2⟩:=mem_outL.1 hx
    exact h2 (List.mem_map.2 ⟨(x.2,x.1),mem_liveI.2 ((hL.mem x.1 x.2).1 h1),rfl⟩)
   rw[hnil] at H
   exact h w sv Y (liveS es) hY5 (by omega) hVl H.mv4.mv1.mv4.mv4.mv4
  ·obtain⟨y,hy,rfl⟩:=List.mem_map.1 hs'
   exact⟨y.1,(hL.mem _ _).2 (mem_liveI.1 hy)⟩
 ·intro j d w H
  exact(own_pu.1 H.mv1).1.elim
end
end Go.Cub
namespace Go.Cub
open Go Go.Proofs Go.IntWalk
section
variable {R:Value→World→Prop} {w:World} {C:List HP} {u:HP→List HP} {p N B:Nat} {q:Pts} {hs:Nat×Bool} {m bn now to i a:Nat} {es:List Ent} {L:List (Nat×Ent)} {ev:List AEv} {e e':Ent} {key:ByteArray}
attribute [local irreducible] PV CND GRD L1 LN S1 SN NEW NEWS MKS MKM LK MU DEL LENM APP CPY BTS Call CallV
theorem k_Clear {C0:HP} (hto:to<18446744073709551616) (hev:ev.length+L.length≤1048576) (H:Own w.hp [glb,cac p N B hs m L bn now ev,C0])
  (h:∀X Z F,X.length+(notDue L (max now to)).length=L.length→(∀x∈X,x.1=1)→(∀y∈Z,y.1=5)→Z.length=(notDue L (max now to)).length→AftRun p N B hs nobody [] bn (max now to) (ev++X++Z) [F,C0] (R (.tuple #[.int .i64 (notDue L (max now to)).length,.int .i64 0]))):
  Call Pg 25 #[ptrV p,.int .u64 to] w R:=by
 refine c_25 ?_
 simp only[F_25]
 refine NEWo H fun t2 w H=>?_
 have H:Own w.hp [pt t2 [ptrV p],glb,cac p N B hs m L bn now ev,C0]:=H
 (repeat first |refine L1o H rfl ?_ |refine Oc ?_)
 refine k_check (p:=p) (xs:=[]) (sl_nil i64E H) (by simp) hev fun w H=>?_
 rw[show firstE ([]++[0])=0 from rfl]
 refine Ob ?_
 refine NEWo H fun t7 w H=>?_
 have H:Own w.hp [pt t7 [.slice none 0 0],pt t2 [ptrV p],glb,cac p N B hs m L bn now ev,C0]:=H
 (repeat first |refine L1o H rfl ?_ |refine Oc ?_)
 refine k_run' hto hev (C:=[pt t2 [ptrV p],pt t7 [.slice none 0 0],C0]) H.mv4.mv1.mv2.mv4.mv4 fun w X hX hX1 H=>?_
 have hle:=List.length_filter_le (fun x:Nat×Ent=> !dueT x.2.dl (max now to)) L
 have hle:(notDue L (max now to)).length≤L.length:=hle
 refine c_clear1 (C0:=.all [glb,C0]) (L:=notDue L (max now to)) (by simp;omega) ((all2.2 H.mv3.mv3.mv3.mv4.mv4).mv3.mv3.mv3) fun w' sv Z V hZ hZl hVl H=>?_
 have H:=all2.1 H.mv3.mv3.mv3.mv3.mv4
 refine⟨nobody,m,[],bn,ev++X++Z,[pt t2 [ptrV p],pt t7 [sv],sle sv u32E V,C0],rfl,by simp;omega,H.mv1.mv5.mv5.mv5.mv5.mv5,?_⟩
 intro w'' L3 Y hY2 hY hL3 H
 have H:Own w''.hp [glb,cac p N B hs _ L3 bn (max now to) _,pt t2 [ptrV p],pt t7 [sv],sle sv u32E V,C0]:=H
 (repeat first |refine L1o H rfl ?_ |refine Oc ?_)
 rw[leno (v:=sv) (E:=u32E) (xs:=V) H,hVl]
 refine Ob ?_
 exact h X Z (pt t2 [ptrV p]) hX hX1 hZ hZl w'' L3 Y hY2 hY hL3 H.mv5.mv3.mv3.mv3.dp4.dp4
theorem k_Config [f:Foc C (.b p) (cac p N B hs m L bn now ev) u] (H:Own w.hp C) (h:∀w',Own w'.hp C→R (cfgV N B 0 hs.1 hs.2) w'):Call Pg 35 #[ptrV p] w R:=by
 refine c_35 ?_
 simp only[F_35]
 refine NEWo H fun t2 w H=>?_
 refine k_none (p:=p) (m:=m) (L:=L) H ?_
 obtain⟨q,es,hh,H1⟩:=cac_iff.1 ((f.tail (B:=pt t2 _)).get H)
 refine Ob ?_
 refine LNo (w:=w) H1 (by simp[chC]) ?_
 refine SNo H rfl (by simp[chC]) (by simp[chC,Value.oneCell']) fun w H=>?_
 refine LNo H (by simp[splice,chC]) ?_
 have e5:(Value.agg (List.take 5 (List.drop 0 (splice #[Value.int .i64 0,.int .i64 0,.int .i64 0,.int .u64 0,.bool false].toList 0 (Value.agg (List.take 5 (List.drop 6 (chC q N B hs))).toArray).cells.toList))).toArray)=cfgV N B 0 hs.1 hs.2:=by simp[splice,chC,cfgV]
 rw[e5]
 exact h w H.drop
end
end Go.Cub
namespace Go.Cub
open Go Go.Proofs Go.IntWalk
def hasC (o n:Nat):Bool:=decide (n<64)&&o.testBit n
section
variable {R:Value→World→Prop} {w:World} {o n:Nat}
attribute [local irreducible] PV CND GRD L1 LN S1 SN NEW NEWS MKS MKM LK MU DEL LENM APP CPY BTS Call CallV
theorem c_has (ho:o<18446744073709551616) (h:R (.bool (hasC o n)) w):Call Pg 194 #[.int .u64 o,.int .i64 n] w R:=by
 refine c_194 ?_
 simp only[F_194]
 by_cases hn:n<64
 ·have e:decide (bitI .and .u64 ((o/2^n:Nat):Int) 1=1)=hasC o n:=by
   rw[show(1:Int)=((1:Nat):Int) from rfl,u64_and (a:=o/2^n) (b:=1) (Nat.lt_of_le_of_lt (Nat.div_le_self _ _) ho) (by decide),Nat.and_one_is_mod]
   unfold hasC
   rw[Nat.testBit_eq_decide_div_mod_eq]
   simp only[hn,decide_true,Bool.true_and]
   congr 1
   apply propext
   omega
  refine Ob ?_
  rw[show min n IntKind.u64.bits=n by show min n 64=n;omega,shrN,e]
  exact h
 ·have e:hasC o n=false:=by simp[hasC,hn]
  rw[e] at h
  refine Ob ?_
  exact h
def FreeC (o k:Nat):Prop:=k≤64∧(∀j,j<k→o.testBit j=true)∧(k<64→o.testBit k=false)
theorem c_free (ho:o<18446744073709551616) (h:∀k,FreeC o k→R (.int .i64 k) w):Call Pg 122 #[.int .u64 o] w R:=by
 refine c_122 ?_
 simp only[F_122]
 have loop:∀(n j:Nat),j+n=64→(∀i,i<j→o.testBit i=true)→B_122_2 R (.int .u64 o) (.int .i64 j) w:=by
  intro n
  induction n with
  |zero=>
   intro j hj hb
   refine B_122_2.intro ?_
   simp only[P_122_2]
   refine c_has ho ?_
   have e:hasC o j=false:=by simp[hasC];omega
   rw[e]
   refine Ob ?_
   exact h j ⟨by omega,hb,by omega⟩
  |succ n ih=>
   intro j hj hb
   refine B_122_2.intro ?_
   simp only[P_122_2]
   refine c_has ho ?_
   have e:hasC o j=o.testBit j:=by
    have :j<64:=by omega
    simp[hasC,this]
   rw[e]
   cases hbj:o.testBit j with
   |true=>
    refine Ob ?_
    rw[show((j:Int)+1)=((j+1:Nat):Int) by simp]
    refine ih (j+1) (by omega) fun i hi=>?_
    by_cases hij:i=j
    ·rw[hij,hbj]
    ·exact hb i (by omega)
   |false=>
    refine Ob ?_
    exact h j ⟨by omega,hb,fun _=>hbj⟩
 exact loop 64 0 (by omega) (by simp)
end
end Go.Cub
namespace Go.Cub
open Go Go.Proofs Go.IntWalk
def ccs (pc o:Nat) (pl:Nat→Nat):List Value:=ptrV pc:: .int .u64 o::(List.range 64).map fun i=>.int .u64 (pl i)
def crs (p pc o:Nat) (pl:Nat→Nat):HP:=.all [.pu (o<18446744073709551616∧∀i,pl i<18446744073709551615),pt p (ccs pc o pl)]
instance {p pc o:Nat} {pl:Nat→Nat}:Keyed (crs p pc o pl) (.b p):=⟨⟩
section
variable {R:Value→World→Prop} {w:World} {C:List HP} {u:HP→List HP} {p pc o n:Nat} {pl:Nat→Nat}
attribute [local irreducible] PV CND GRD L1 LN S1 SN NEW NEWS MKS MKM LK MU DEL LENM APP CPY BTS Call CallV
theorem crs_iff {h:Hp}:Own h (crs p pc o pl::C)↔(o<18446744073709551616∧∀i,pl i<18446744073709551615)∧Own h (pt p (ccs pc o pl)::C):=by
 simp only[crs,all2,own_pu]
theorem ccs_get {i:Nat} (hi:i<64):(ccs pc o pl)[2+i * 1]?=some (.int .u64 (pl i)):=by
 simp only[ccs,Nat.mul_one,Nat.add_comm 2 i,List.getElem?_cons_succ,List.getElem?_map,List.getElem?_range hi];rfl
theorem ccs_set {i v:Nat} (hi:i<64):(ccs pc o pl).set (2+i * 1) (.int .u64 (v:Nat))=ccs pc o (fun j=>if j=i then v else pl j):=by
 simp only[ccs,Nat.mul_one,Nat.add_comm 2 i,List.set_cons_succ]
 congr 2
 apply List.ext_getElem?
 intro j
 by_cases hj:j<64
 ·by_cases e:i=j
  ·subst e
   rw[List.getElem?_set_self (by simpa using hj)]
   simp only[List.getElem?_map,List.getElem?_range hj,Option.map_some,if_true]
  ·rw[List.getElem?_set_ne e]
   simp only[List.getElem?_map,List.getElem?_range hj,Option.map_some,if_neg (Ne.symm e)]
 ·rw[List.getElem?_eq_none (by simp;omega),List.getElem?_eq_none (by simp;omega)]
theorem c_cur_none [f:Foc C (.b p) (pt p (ccs pc o pl)) u] (H:Own w.hp C) (h:R (.bool false) w):Call Pg 32 #[ptrV p] w R:=by
 refine c_32 ?_
 simp only[F_32]
 (repeat first |refine L1o H rfl ?_ |refine Oc ?_)
 exact h
theorem k_cur_Cache [f:Foc C (.b p) (crs p pc o pl) u] (H:Own w.hp C) (h:R (ptrV pc) w):Call Pg 12 #[ptrV p] w R:=by
 obtain⟨⟨ho,hpl⟩,H⟩:=crs_iff.1 (f.get H)
 refine c_12 ?_
 simp only[F_12]
 refine c_cur_none H ?_
 (repeat first |refine L1o H rfl ?_ |refine Oc ?_)
 exact h
def curE (o n:Nat):Int:=if hasC o n then 0 else 9
theorem c_cur_check [f:Foc C (.b p) (pt p (ccs pc o pl)) u] (ho:o<18446744073709551616) (H:Own w.hp C) (h:R (.int .i64 (curE o n)) w):Call Pg 120 #[ptrV p,.int .i64 n] w R:=by
 refine c_120 ?_
 simp only[F_120]
 refine c_cur_none H ?_
 (repeat first |refine L1o H rfl ?_ |refine Oc ?_)
 refine c_has ho ?_
 unfold curE at h
 cases hc:hasC o n with
 |true=>
  simp only[hc,if_true] at h
  refine Ob ?_
  exact h
 |false=>
  simp only[hc] at h
  refine Ob ?_
  exact h
theorem k_cur_Seek {b:Nat} (hb:b<18446744073709551615) [f:Foc C (.b p) (crs p pc o pl) u] (H:Own w.hp C) (h:∀w' pl',Own w'.hp (u (crs p pc o pl'))→R (.int .i64 (curE o n)) w'):Call Pg 62 #[ptrV p,.int .i64 n,.int .u64 b] w R:=by
 have hC:=f.eq
 have H0:=H
 obtain⟨⟨ho,hpl⟩,H⟩:=crs_iff.1 (f.get H)
 refine c_62 ?_
 simp only[F_62]
 refine c_cur_check (n:=n) ho H ?_
 by_cases hc:hasC o n=true
 ·have e:curE o n=0:=by simp[curE,hc]
  rw[e] at h ⊢
  have hn:n<64:=by
   simp only[hasC,Bool.and_eq_true,decide_eq_true_eq] at hc
   exact hc.1
  refine Ob ?_
  refine S1o (b:=p) H (by rw[ccs_get hn];rfl) rfl fun w H=>?_
  rw[ccs_set hn] at H
  have hpl':∀i,(if i=n then b else pl i)<18446744073709551615:=fun i=>by
   by_cases hi:i=n
   ·rw[if_pos hi];exact hb
   ·rw[if_neg hi];exact hpl i
  exact h w _ (f.put (crs_iff.2 ⟨⟨ho,hpl'⟩,H⟩))
 ·have e:curE o n=9:=by simp[curE,hc]
  rw[e] at h ⊢
  refine Ob ?_
  exact h w pl (by rw[←hC];exact H0)
theorem k_cur_Close [f:Foc C (.b p) (crs p pc o pl) u] (H:Own w.hp C) (h:∀w',Own w'.hp (u (crs p pc (if hasC o n then o &&& (18446744073709551616 - (2^n+1)) else o) pl))→R (.int .i64 (curE o n)) w'):Call Pg 63 #[ptrV p,.int .i64 n] w R:=by
 have hC:=f.eq
 have H0:=H
 obtain⟨⟨ho,hpl⟩,H⟩:=crs_iff.1 (f.get H)
 refine c_63 ?_
 simp only[F_63]
 refine c_cur_check (n:=n) ho H ?_
 by_cases hc:hasC o n=true
 ·have e:curE o n=0:=by simp[curE,hc]
  rw[e] at h ⊢
  simp only[hc,if_true] at h
  have hn:n<64:=by
   simp only[hasC,Bool.and_eq_true,decide_eq_true_eq] at hc
   exact hc.1
  have hp:(2:Nat)^n<18446744073709551616:=Nat.pow_lt_pow_right (a:=2) (by decide) hn
  (repeat first |refine L1o H rfl ?_ |refine Oc ?_)
  rw[shl1 hn,u64_andNot ho hp]
  refine S1o (b:=p) (w:=w.drew) H rfl rfl fun w H=>?_
  have hlt:o &&& (18446744073709551616 - (2^n+1))<18446744073709551616:=Nat.lt_of_le_of_lt Nat.and_le_left ho
  exact h w (f.put (crs_iff.2 ⟨⟨hlt,hpl⟩,H⟩))
 ·have e:curE o n=9:=by simp[curE,hc]
  rw[e] at h ⊢
  have hc':hasC o n=false:=by simpa using hc
  rw[hc'] at h
  simp only[Bool.false_eq_true,if_false] at h
  refine Ob ?_
  exact h w (by rw[←hC];exact H0)
end
end Go.Cub
namespace Go.Cub
open Go Go.Proofs Go.IntWalk
section
variable {R:Value→World→Prop} {w:World} {C:List HP} {u:HP→List HP} {p pc o n:Nat} {pl:Nat→Nat} {N B:Nat} {hs:Nat×Bool} {m bn now:Nat} {L:List (Nat×Ent)} {ev:List AEv}
attribute [local irreducible] PV CND GRD L1 LN S1 SN NEW NEWS MKS MKM LK MU DEL LENM APP CPY BTS Call CallV
theorem k_cur_Open [f:Foc C (.b p) (crs p pc o pl) u] (H:Own w.hp C) (h1:FreeC o 64→∀w',Own w'.hp (u (crs p pc o pl))→R (.tuple #[.int .i64 0,.int .i64 7]) w')
  (h2:∀k w' pl',k<64→FreeC o k→Own w'.hp (u (crs p pc (o ||| 2^k) pl'))→R (.tuple #[.int .i64 k,.int .i64 0]) w'):Call Pg 61 #[ptrV p] w R:=by
 have hC:=f.eq
 have H0:=H
 obtain⟨⟨ho,hpl⟩,H⟩:=crs_iff.1 (f.get H)
 refine c_61 ?_
 simp only[F_61]
 refine c_cur_none H ?_
 (repeat first |refine L1o H rfl ?_ |refine Oc ?_)
 refine c_free ho fun k hk=>?_
 by_cases h64:k=64
 ·subst h64
  refine Ob ?_
  exact h1 hk w (by rw[←hC];exact H0)
 ·have hn:k<64:=by have :=hk.1;omega
  have hp:(2:Nat)^k<18446744073709551616:=Nat.pow_lt_pow_right (a:=2) (by decide) hn
  (repeat first |refine L1o H rfl ?_ |refine Oc ?_)
  rw[shl1 hn,u64_or ho hp]
  refine S1o (b:=p) (w:=w.drew) H rfl rfl fun w H=>?_
  have H:Own w.hp (pt p (ccs pc (o ||| 2^k) pl)::_):=H
  refine Ob ?_
  refine S1o (b:=p) H (by rw[ccs_get hn];rfl) rfl fun w H=>?_
  have e0:=ccs_set (pc:=pc) (o:=o ||| 2^k) (pl:=pl) (v:=0) hn
  have H:Own w.hp (pt p ((ccs pc (o ||| 2^k) pl).set (2+k * 1) (.int .u64 ((0:Nat):Int)))::_):=H
  rw[e0] at H
  have hpl':∀i,(if i=k then 0 else pl i)<18446744073709551615:=fun i=>by
   by_cases hi:i=k
   ·rw[if_pos hi];decide
   ·rw[if_neg hi];exact hpl i
  exact h2 k w _ hn hk (f.put (crs_iff.2 ⟨⟨Nat.or_lt_two_pow (n:=64) ho hp,hpl'⟩,H⟩))
theorem k_cur_New [f:Foc C (.b pc) (cac pc N B hs m L bn now ev) u] (H:Own w.hp C) (hN:1≤N) (h:∀p w',Own w'.hp (crs p pc 0 (fun _=>0)::C)→R (.tuple #[ptrV p,.int .i64 0]) w'):Call Pg 14 #[ptrV pc] w R:=by
 refine c_14 ?_
 simp only[F_14]
 refine k_Config (p:=pc) H fun w H=>?_
 refine PV_of (v:=.agg #[.int .i64 0,.int .i64 0,.int .i64 0,.int .u64 0,.bool false]) rfl ?_
 have hne:¬((N:Nat):Int)=0:=by omega
 refine PV_of (v:=.bool false) (by simp[eqA,cfgV,eqL,eqD,hne];intro h0;omega) ?_
 refine Ob ?_
 refine PV_of (v:=.agg (ccs pc 0 fun _=>0).toArray) (by simp[buildV,Instr.fill,ccs,List.range,List.range.loop]) ?_
 refine NEWo H fun p w H=>?_
 exact h p w (crs_iff.2 ⟨⟨by decide,fun _=>by decide⟩,H⟩)
end
end Go.Cub
namespace Go.Cub
open Go Go.Proofs Go.IntWalk
section
variable {R:Value→World→Prop} {w:World} {C:List HP} {u:HP→List HP} {p pc o n to:Nat} {pl:Nat→Nat} {N B:Nat} {hs:Nat×Bool} {m bn now:Nat} {L:List (Nat×Ent)} {ev:List AEv}
attribute [local irreducible] PV CND GRD L1 LN S1 SN NEW NEWS MKS MKM LK MU DEL LENM APP CPY BTS Call CallV
theorem k_cur_Next {C0:HP} (hto:to<18446744073709551616) (hbn:bn<18446744073709551615) (hev:ev.length+L.length≤1048576) (H:Own w.hp [glb,cac pc N B hs m L bn now ev,crs p pc o pl,C0])
  (h0:hasC o n=false→∀w',Own w'.hp [glb,cac pc N B hs m L bn now ev,crs p pc o pl,C0]→R (.tuple #[entV ent0 sv0,.int .i64 9]) w')
  (h1:hasC o n=true→∀X L3 Y m3 pl' (x:Ent×SV) (er:Int) w' F,X.length+(notDue L (max now to)).length=L.length→(∀x∈X,x.1=1)→(∀y∈Y,y.1=2)→Y.length=(vics N B nobody (notDue L (max now to))).length→L3.map (·.2)=(outL (notDue L (max now to)) (vics N B nobody (notDue L (max now to)))).map (·.2)→m3=2 * (outL (notDue L (max now to)) (vics N B nobody (notDue L (max now to)))).length+16→
   Own w'.hp [glb,cac pc N B hs m3 L3 bn (max now to) (ev++X++Y),crs p pc o pl',imm (svV x.2) x.1.val,F,C0]→R (.tuple #[entV x.1 x.2,.int .i64 er]) w'):
  Call Pg 60 #[ptrV p,.int .u64 to,.int .i64 n] w R:=by
 have H:=H
 obtain⟨⟨ho,hpl⟩,H⟩:=crs_iff.1 H.mv2
 refine c_60 ?_
 simp only[F_60]
 refine NEWo H fun t6 w H=>?_
 have H:Own w.hp [pt t6 [.string ⟨#[]⟩,.slice none 0 0,.int .u64 0,.int .u64 0],pt p (ccs pc o pl),glb,cac pc N B hs m L bn now ev,C0]:=H
 refine c_cur_check (n:=n) ho H ?_
 by_cases hc:hasC o n=true
 ·have e:curE o n=0:=by simp[curE,hc]
  rw[e]
  have hn:n<64:=by
   simp only[hasC,Bool.and_eq_true,decide_eq_true_eq] at hc
   exact hc.1
  (repeat first |refine L1o H rfl ?_ |refine Oc ?_)
  refine L1o (b:=p) H (ccs_get hn) ?_
  refine⟨?_,?_⟩
  ·refine k_After (C0:=.all [pt t6 [.string ⟨#[]⟩,.slice none 0 0,.int .u64 0,.int .u64 0],pt p (ccs pc o pl),C0]) (w:=w.drew) hto (hpl n) hev ((all3.2 H.mv3.mv3.mv4.mv4.mv4).mv2.mv2) fun X L3 Y m3 a1 a2 a3 a4 a5 a6=>⟨fun _ w H=>?_,fun s e v w hse hae _ H=>?_⟩
   ·have H:=all3.1 H.mv1.mv1.mv2
    refine Ob ?_
    refine NEWo H fun t9 w H=>?_
    refine SNo H rfl (by simp) (by simp[entV,svV,Value.oneCell']) fun w H=>?_
    refine Ob ?_
    refine PV_of (v:=.agg #[.string ⟨#[]⟩,.slice none 0 0,.int .u64 0,.int .u64 0]) rfl ?_
    refine SNo H rfl (by simp) (by simp[Value.oneCell']) fun w H=>?_
    refine LNo H (by simp[splice]) ?_
    have H:=imm_nil H
    have H:=crs_iff.2 ⟨⟨ho,hpl⟩,H.mv4.mv3.mv2.mv6.mv6.mv6.dp6⟩
    exact h1 hc X L3 Y m3 pl (ent0,sv0) 14 w _ a1 a2 a3 a4 a5 a6 H.mv5.mv5.mv5.mv3.mv5.mv5
   ·have H:=all3.1 H.mv2.mv2.mv2.mv3
    refine Ob ?_
    refine NEWo H fun t9 w H=>?_
    refine SNo H rfl (by simp) (by simp[entV,svV,Value.oneCell']) fun w H=>?_
    (repeat first |refine L1o H rfl ?_ |refine Oc ?_)
    refine S1o (b:=p) (w:=w.drew) H (by rw[ccs_get hn];rfl) rfl fun w H=>?_
    rw[ccs_set hn] at H
    refine LNo H (by simp[splice,entV]) ?_
    refine SNo H rfl (by simp) (by simp[splice,entV,svV,Value.oneCell']) fun w H=>?_
    refine LNo H (by simp[splice,entV]) ?_
    have hbe:e.birth≤bn:=by
     obtain⟨q,es,⟨hL,_⟩,_⟩:=cac_iff.1 H.mv6
     exact hL.bn _ hse
    have hpl':∀i,(if i=n then e.birth else pl i)<18446744073709551615:=fun i=>by
     by_cases hi:i=n
     ·rw[if_pos hi];omega
     ·rw[if_neg hi];exact hpl i
    have H:=crs_iff.2 ⟨⟨ho,hpl'⟩,H.mv3.mv1.mv4.mv6.mv6.mv6.dp6⟩
    exact h1 hc X L3 Y m3 _ (e,v) 0 w _ a1 a2 a3 a4 a5 a6 H.mv5.mv5.mv5.mv3.mv5.mv5
  ·refine NEWo (w:=w.drew) H fun t9 w H=>?_
   refine⟨L1o (b:=p) H (ccs_get hn) rfl,L1o H rfl rfl,?_⟩
   refine k_After (C0:=.all [pt t9 [.string ⟨#[]⟩,.slice none 0 0,.int .u64 0,.int .u64 0],pt t6 [.string ⟨#[]⟩,.slice none 0 0,.int .u64 0,.int .u64 0],pt p (ccs pc o pl),C0]) hto (hpl n) hev ((all4.2 H.mv4.mv4.mv5.mv5.mv5.mv5).mv2.mv2) fun X L3 Y m3 a1 a2 a3 a4 a5 a6=>⟨fun _ w H=>?_,fun s e v w hse hae _ H=>?_⟩
   ·have H:=all4.1 H.mv1.mv1.mv2
    refine Ob ?_
    refine SNo H rfl (by simp) (by simp[entV,svV,Value.oneCell']) fun w H=>?_
    refine Ob ?_
    refine PV_of (v:=.agg #[.string ⟨#[]⟩,.slice none 0 0,.int .u64 0,.int .u64 0]) rfl ?_
    refine SNo H rfl (by simp) (by simp[Value.oneCell']) fun w H=>?_
    refine LNo H (by simp[splice]) ?_
    have H:=imm_nil H
    have H:=crs_iff.2 ⟨⟨ho,hpl⟩,H.mv4.mv3.mv2.mv6.mv6.mv6.dp6⟩
    exact h1 hc X L3 Y m3 pl (ent0,sv0) 14 w _ a1 a2 a3 a4 a5 a6 H.mv5.mv5.mv5.mv3.mv5.mv5
   ·have H:=all4.1 H.mv2.mv2.mv2.mv3
    refine Ob ?_
    refine SNo H rfl (by simp) (by simp[entV,svV,Value.oneCell']) fun w H=>?_
    (repeat first |refine L1o H rfl ?_ |refine Oc ?_)
    refine S1o (b:=p) (w:=w.drew) H (by rw[ccs_get hn];rfl) rfl fun w H=>?_
    rw[ccs_set hn] at H
    refine LNo H (by simp[splice,entV]) ?_
    refine SNo H rfl (by simp) (by simp[splice,entV,svV,Value.oneCell']) fun w H=>?_
    refine LNo H (by simp[splice,entV]) ?_
    have hbe:e.birth≤bn:=by
     obtain⟨q,es,⟨hL,_⟩,_⟩:=cac_iff.1 H.mv6
     exact hL.bn _ hse
    have hpl':∀i,(if i=n then e.birth else pl i)<18446744073709551615:=fun i=>by
     by_cases hi:i=n
     ·rw[if_pos hi];omega
     ·rw[if_neg hi];exact hpl i
    have H:=crs_iff.2 ⟨⟨ho,hpl'⟩,H.mv3.mv1.mv4.mv6.mv6.mv6.dp6⟩
    exact h1 hc X L3 Y m3 _ (e,v) 0 w _ a1 a2 a3 a4 a5 a6 H.mv5.mv5.mv5.mv3.mv5.mv5
 ·have e:curE o n=9:=by simp[curE,hc]
  rw[e]
  refine Ob ?_
  refine PV_of (v:=.agg #[.string ⟨#[]⟩,.slice none 0 0,.int .u64 0,.int .u64 0]) rfl ?_
  refine SNo H rfl (by simp) (by simp[Value.oneCell']) fun w H=>?_
  refine LNo H (by simp[splice]) ?_
  have H:=crs_iff.2 ⟨⟨ho,hpl⟩,H.drop⟩
  exact h0 (by simpa using hc) w H.mv3.mv1.mv3.mv3
end
end Go.Cub
namespace Go.Cub
open Go Go.Proofs Go.IntWalk
def kindsL:List Nat:=[3,1,2,4,5,6,7,8,9,10,11,12,13,14,3,1]
def knd:HP:=prd 0 (kindsL.map fun n=>.int .i64 (n:Nat))
instance :Keyed knd (.b 0):=⟨⟩
section
variable {R:Value→World→Prop} {w:World} {C:List HP} {u:HP→List HP}
attribute [local irreducible] PV CND GRD L1 LN S1 SN NEW NEWS MKS MKM LK MU DEL LENM APP CPY BTS Call CallV
theorem c_Index {k:Nat} [f:Foc C (.b 0) knd u] (H:Own w.hp C) (hk:k∈kindsL) (h:∀i:Nat,R (.int .i64 i) w):Call Pg 88 #[.slice (some ⟨0,0,none⟩) 16 16,.int .i64 k] w R:=by
 have H:Own w.hp (prd 0 (kindsL.map fun n=>.int .i64 (n:Nat))::_):=f.get H
 refine c_88 ?_
 simp only[F_88]
 refine PV_of (v:=.int .i64 16) rfl ?_
 have loop:∀(n j:Nat),j+n=16→k∈kindsL.drop j→B_88_2 R (.slice (some ⟨0,0,none⟩) 16 16) (.int .i64 k) (.int .i64 16) (.int .i64 j) w:=by
  intro n
  induction n with
  |zero=>
   intro j hj hm
   rw[List.drop_eq_nil_of_le (by show 16≤j;omega)] at hm
   cases hm
  |succ n ih=>
   intro j hj hm
   have hjl:j<kindsL.length:=by show j<16;omega
   rw[List.drop_eq_getElem_cons hjl] at hm
   refine B_88_2.intro ?_
   simp only[P_88_2]
   refine Ob ?_
   have hix:idxS 1 (.slice (some ⟨0,0,none⟩) 16 16) (.int .i64 j)=some (.pointer (some ⟨0,j,none⟩)):=by
    simp only[idxS]
    rw[if_pos ⟨by omega,by omega⟩,Int.toNat_natCast,Nat.mul_one]
    unfold Addr.add
    by_cases hj0:j=0<;>simp[hj0]
   rw[hix]
   refine Ob ?_
   refine L1r (b:=0) H (v:=.int .i64 (kindsL[j]:Nat)) (by rw[List.getElem?_map,List.getElem?_eq_getElem hjl];rfl) ?_
   by_cases he:k=kindsL[j]
   ·rw[←he]
    refine Ob ?_
    exact h j
   ·have he2:¬((k:Int)=(kindsL[j]:Nat)):=by omega
    refine Ob ?_
    rw[show((j:Int)+1)=((j+1:Nat):Int) by simp]
    refine ih (j+1) (by omega) ?_
    rcases List.mem_cons.1 hm with hm |hm
    ·exact absurd hm he
    ·exact hm
 exact loop 16 0 (by omega) hk
theorem c_known {k:Nat} {cs:List Value} [f:Foc C (.b 0) knd u] (H:Own w.hp C) (hk:k∈kindsL) (hcs:cs.length=9) (h0:cs[0]?=some (.int .i64 k)) (h:∀w',Own w'.hp C→R (.bool true) w'):Call Pg 17 #[.agg cs.toArray] w R:=by
 refine c_17 ?_
 simp only[F_17]
 refine NEWo H fun t1 w H=>?_
 have H:Own w.hp (pt t1 cs::C):=by simpa[Value.cells] using H
 refine PV_of (v:=.slice (some ⟨0,0,none⟩) 16 16) rfl ?_
 refine Ob ?_
 refine L1o (b:=t1) (w:=w) H h0 ?_
 refine c_40 ?_
 simp only[F_40]
 refine c_Index (k:=k) (w:=w.drew) H hk fun i=>?_
 refine Ob ?_
 exact h _ H.drop
end
end Go.Cub
namespace Go.Cub
theorem vics_none {N B keep:Nat} {L:List (Nat×Ent)} (h1:L.length≤N) (h2:sumC (aOf L)≤B):vics N B keep L=[]:=vict_nil (by omega) _
theorem vict_one {N B n c:Nat} (hn:n=N+1) (hc:c≤B):∀(l:List (Nat×Nat)),l≠[]→vict N B n c l=[(l.headD (0,0)).1]
 |[],h=>absurd rfl h
 |x::l,_=>by
  simp only[vict,List.headD_cons]
  rw[if_pos (.inl (by omega)),vict_nil (by omega)]
theorem delL_head {x:Nat×Ent} {L:List (Nat×Ent)} (h:((x::L).map (·.1)).Nodup):delL (x::L) x.1=L:=by
 simp only[List.map_cons,List.nodup_cons] at h
 have :delL L x.1=L:=delL_notin fun y hy e=>h.1 (List.mem_map.2 ⟨y,hy,e⟩)
 have e1:delL (x::L) x.1=delL L x.1:=by simp[delL]
 rw[e1,this]
theorem vics_one {N B s:Nat} {e:Ent} {L:List (Nat×Ent)} (hN:1≤N) (hl:L.length=N) (hB:sumC (aOf (L++[(s,e)]))≤B) (hn:((L++[(s,e)]).map (·.1)).Nodup):
  (vics N B s (L++[(s,e)])).length=1∧outL (L++[(s,e)]) (vics N B s (L++[(s,e)]))=(L++[(s,e)]).tail:=by
 match L,hl with
 |x::L,hl=>
  have hx:x.1≠s:=by
   intro e1
   simp only[List.cons_append,List.map_cons,List.nodup_cons] at hn
   exact hn.1 (List.mem_map.2 ⟨(s,e),by simp,e1.symm⟩)
  have hv:vics N B s (x::L++[(s,e)])=[x.1]:=by
   unfold vics
   have hf:(aOf (x::L++[(s,e)])).filter (fun y=> !decide (y.1=s))=(x.1,costE x.2)::(aOf (L++[(s,e)])).filter (fun y=> !decide (y.1=s)):=by
    show((x.1,costE x.2)::aOf (L++[(s,e)])).filter _=_
    rw[List.filter_cons,if_pos (by simp[hx])]
   rw[hf,vict_one (by simp at hl ⊢;omega) hB _ (by simp)]
   rfl
  rw[hv]
  refine⟨rfl,?_⟩
  show delL (x::(L++[(s,e)])) x.1=_
  exact delL_head hn
 |[],hl=>simp at hl;omega
end Go.Cub
