/-
  Part 29 of the proof that TopNested returns true and leaves what it was given as it was. CONDITIONS: those of the given row and card.
-/
import Derived.Test.YtpelalpajdpkgaaGreatDoorZ27
set_option linter.all false
namespace Go.Cub
open Go Go.Proofs Go.IntWalk
section
variable {m bn now s i:Nat} {es:List Ent} {L:List (Nat×Ent)} {e e':Ent}
theorem LOk.ins (h:LOk m es L bn) (hb:e'.birth=bn+1):LOk (m+1) (es++[e']) (L++[(es.length,e')]) (bn+1):=by
 have hlt:∀x∈L,x.1<es.length:=fun x hx=>lt_of_get ((h.mem x.1 x.2).1 hx).1
 refine {nd:=?_,mem:=?_,len:=by have :=h.len;simp;omega,srt:=?_,bn:=?_}
 ·rw[List.map_append,List.nodup_append]
  refine⟨h.nd,by simp,?_⟩
  intro a ha b hb' e1
  obtain⟨x,hx,rfl⟩:=List.mem_map.1 ha
  simp only[List.map_cons,List.map_nil,List.mem_singleton] at hb'
  have :=hlt x hx
  omega
 ·intro s x
  rw[List.mem_append,h.mem,List.mem_singleton]
  constructor
  ·rintro(⟨h1,h2⟩ |h1)
   ·exact⟨by rw[List.getElem?_append_left (lt_of_get h1)];exact h1,h2⟩
   ·simp only[Prod.mk.injEq] at h1
    obtain⟨rfl,rfl⟩:=h1
    exact⟨by simp,by omega⟩
  ·rintro⟨h1,h2⟩
   by_cases hs:s<es.length
   ·rw[List.getElem?_append_left hs] at h1
    exact .inl ⟨h1,h2⟩
   ·have :=lt_of_get h1
    have hs2:s=es.length:=by simp at this;omega
    subst hs2
    simp at h1
    exact .inr (by rw[h1])
 ·have hs:=h.srt
  rw[liveE_eq] at hs ⊢
  rw[List.filter_append,List.map_append,List.pairwise_append]
  have hf:[e'].filter (fun e=>decide (e.birth≠0))=[e']:=by simp[hb]
  rw[hf]
  refine⟨hs,by simp,?_⟩
  intro a ha b hb'
  obtain⟨x,hx,rfl⟩:=List.mem_map.1 ha
  simp only[List.map_cons,List.map_nil,List.mem_singleton] at hb'
  obtain⟨hx1,hx2⟩:=List.mem_filter.1 hx
  obtain⟨j,hj,rfl⟩:=List.getElem_of_mem hx1
  have :=h.bn (j,es[j]) ((h.mem _ _).2 ⟨List.getElem?_eq_getElem hj,by simpa using hx2⟩)
  have :es[j].birth≤bn:=this
  omega
 ·intro x hx
  rcases List.mem_append.1 hx with hx |hx
  ·have :=h.bn x hx;omega
  ·simp only[List.mem_singleton] at hx
   subst hx
   show e'.birth≤bn+1
   omega
theorem tmOf_ins (hb:e'.birth≠0):tmOf (es++[e'])=upd (tmOf es) es.length (some (e'.dl,e'.birth)):=by
 funext t
 simp only[upd,tmOf]
 by_cases h:t=es.length
 ·subst h
  simp[hb]
 ·rw[if_neg h]
  by_cases hlt:t<es.length
  ·rw[List.getElem?_append_left hlt]
  ·rw[List.getElem?_eq_none (by simp;omega),List.getElem?_eq_none (by omega)]
theorem sumL_le:∀ {L:List (Nat×Ent)},(∀x∈L,EntOk x.2)→sumC (aOf L)≤L.length * 65834
 |[],_=>by simp[sumC,aOf]
 |x::L,h=>by
  have h1:=costE_le (h x (by simp))
  have h2:=sumL_le (L:=L) fun y hy=>h y (by simp[hy])
  simp only[sumC,aOf,List.map_cons,List.sum_cons,List.length_cons] at h2 ⊢
  omega
end
def DlS (p N B:Nat) (hs:Nat×Bool) (fv:Value) (F:HP) (d now:Nat):Prop:=
 ∀w q es bn A c s tm ev C',Own w.hp (cl p q N B hs es bn A c s now tm ev (F::C'))→CallV Pg fv #[] w fun v w'=>v=.int .u64 d∧Own w'.hp (cl p q N B hs es bn A c s now tm ev (F::C'))
section
variable {R:Value→World→Prop} {w:World} {C:List HP} {u:HP→List HP} {p N B:Nat} {q:Pts} {hs:Nat×Bool} {m bn now to i:Nat} {es:List Ent} {L:List (Nat×Ent)} {ev:List AEv} {e e':Ent} {key:ByteArray}
attribute [local irreducible] PV CND GRD L1 LN S1 SN NEW NEWS MKS MKM LK MU DEL LENM APP CPY BTS Call CallV
theorem c_set1 {t5 t7 t8 t9 t11 d:Nat} {v0:SV} {bs:List UInt8} {dlf:Value} {F C0:HP} {K:Value→World→Prop} (hdl:DlS p N B hs dlf F d now) (hd:d<18446744073709551616∧(d≠18446744073709551615→now<d)) (hk:0<key.size∧key.size≤250) (hbs:bs.length≤65536) (hev:ev.length<1048576) (hm:m<4194304) (hL1:L.length<2097152) (hbn1:bn<18446744073709551614)
  (H:Own w.hp (cac p N B hs m L bn now ev::pt t5 [ptrV p]::pt t7 [.string key]::pt t9 [dlf]::pt t8 [svV v0]::pt t11 [.int .i64 (key.size+bs.length+48:Nat)]::imm (svV v0) bs::[F,C0]))
  (hold:∀w s e,(s,e)∈L→e.key=key→Own w.hp (cac p N B hs m (useL L s {e with val:=bs,dl:=d}) bn now (ev++[(3,e,now)])::pt t5 [ptrV p]::pt t7 [.string key]::pt t9 [dlf]::pt t8 [svV v0]::pt t11 [.int .i64 (key.size+bs.length+48:Nat)]::imm (svV v0) bs::[F,C0])→K (.int .u32 s) w)
  (hnew:∀w s,(∀x∈L,x.2.key≠key)→(∀x∈L,x.1≠s)→Own w.hp (cac p N B hs (m+1) (L++[(s,⟨key,bs,d,bn+1⟩)]) (bn+1) now ev::pt t5 [ptrV p]::pt t7 [.string key]::pt t9 [dlf]::pt t8 [svV v0]::pt t11 [.int .i64 (key.size+bs.length+48:Nat)]::imm (svV v0) bs::[F,C0])→K (.int .u32 s) w):
  CallV Pg (.func (.func 200) #[] #[ptrV t5,ptrV t7,ptrV t9,ptrV t8,ptrV t11]) #[] w K:=by
 have hdn:dueT d now=false:=by
  simp only[dueT,decide_eq_false_iff_not]
  rintro⟨h1,h2⟩
  have :=hd.2 h1
  omega
 refine callV_fn (Tryz.calOk _ (by rfl)) ?_
 show Call Pg 200 #[ptrV t5,ptrV t7,ptrV t9,ptrV t8,ptrV t11] w _
 refine c_200 ?_
 simp only[F_200]
 obtain⟨q,es,⟨hL,hA,hnow,hbn⟩,H⟩:=cac_iff.1 H
 obtain⟨f1,f2,f3,f4⟩:=cl_facts H
 have hokL:∀x∈L,EntOk x.2:=fun x hx=>by
  obtain⟨g1,g2⟩:=(hL.mem x.1 x.2).1 hx
  exact f1.2 _ _ g1 g2
 have hsum:=sumL_le hokL
 have hlen:=hL.len
 (repeat first |refine L1o H rfl ?_ |refine Oc ?_)
 refine k_dict_Find (p:=q.d) (w:=w.drew) (by omega) H (fun w hnf H=>?_) (fun w i e hi hb hke H=>?_)
 ·(repeat first |refine L1o H rfl ?_ |refine Oc ?_)
  refine CallV.mono (hdl w q es bn _ _ _ _ _ _ H.mv14.mv13.mv13.mv13.mv13.mv13.mv13.mv14.mv14.mv14.mv14.mv14.mv14.mv14.mv14) ?_
  rintro v w' ⟨rfl,H⟩
  have H:=H.mv14.mv8.mv14.mv14.mv14.mv14.mv14.mv14.mv14.mv14.mv14.mv14.mv14.mv14.mv14
  (repeat first |refine L1o H rfl ?_ |refine Oc ?_)
  refine k_bcn_Next (p:=q.b) H (by omega) fun w H=>?_
  (repeat first |refine L1o H rfl ?_ |refine Oc ?_)
  refine PV_of (v:=entV ⟨key,bs,d,bn+1⟩ v0) rfl ?_
  have hnk:∀x∈L,x.2.key≠key:=fun x hx hk=>by
   obtain⟨g1,g2⟩:=(hL.mem x.1 x.2).1 hx
   exact hnf _ _ g1 g2 hk
  have hok':EntOk ⟨key,bs,d,bn+1⟩:=⟨hk,hbs,by simp⟩
  refine k_dict_Insert (p:=q.d) (e:=⟨key,bs,d,bn+1⟩) (v:=v0) (w:=w.drew) H hok' (fun i e' g1 g2=>hnf i e' g1 g2) (by omega) fun w H=>?_
  (repeat first |refine L1o H rfl ?_ |refine Oc ?_)
  have hfresh:∀x∈L,x.1≠es.length:=fun x hx=>by
   have :=lt_of_get ((hL.mem x.1 x.2).1 hx).1
   omega
  have htn:tmOf es es.length=none:=by
   unfold tmOf
   rw[List.getElem?_eq_none (Nat.le_refl _)]
  refine k_due_Set (p:=q.e) H (by omega) hd (by omega) (.inl ⟨htn,fun s' d' hs'=>?_⟩) fun w H=>?_
  ·obtain⟨e,he,_,e2⟩:=hL.tm.1 hs'
   have :=hL.bn _ he
   have :e.birth≤bn:=this
   omega
  (repeat first |refine L1o H rfl ?_ |refine Oc ?_)
  refine k_seg_Add (p:=q.o) (w:=w.drew) H (by omega) (by omega) (cst_aOf_none hfresh) fun w H=>?_
  (repeat first |refine L1o H rfl ?_ |refine Oc ?_)
  refine k_bud_Add (p:=q.u) (w:=w.drew) H (by omega) (by omega) (by omega) fun w H=>?_
  refine hnew w es.length hnk hfresh (cac_iff.2 ⟨q,es++[⟨key,bs,d,bn+1⟩],⟨hL.ins rfl,?_,hnow,by omega⟩,?_⟩)
  ·intro x hx
   rcases List.mem_append.1 hx with hx |hx
   ·exact hA x hx
   ·simp only[List.mem_singleton] at hx
    subst hx
    exact⟨hd.1,hdn⟩
  ·have e1:aOf L++[(es.length,key.size+bs.length+48)]=aOf (L++[(es.length,⟨key,bs,d,bn+1⟩)]):=by simp[aOf,costE]
   have e2:sumC (aOf (L++[(es.length,⟨key,bs,d,bn+1⟩)]))=sumC (aOf L)+(key.size+bs.length+48):=by simp[aOf,sumC,costE]
   have e3:(L++[(es.length,(⟨key,bs,d,bn+1⟩:Ent))]).length=L.length+1:=by simp
   have e4:tmOf (es++[⟨key,bs,d,bn+1⟩])=upd (tmOf es) es.length (some (d,bn+1)):=tmOf_ins (by simp)
   rw[e2,e3,e4, ←e1]
   exact H
 ·(repeat first |refine L1o H rfl ?_ |refine Oc ?_)
  refine CallV.mono (hdl w q es bn _ _ _ _ _ _ H.mv14.mv13.mv13.mv13.mv13.mv13.mv13.mv14.mv14.mv14.mv14.mv14.mv14.mv14.mv14) ?_
  rintro v w' ⟨rfl,H⟩
  have H:=H.mv14.mv8.mv14.mv14.mv14.mv14.mv14.mv14.mv14.mv14.mv14.mv14.mv14.mv14.mv14
  have hiL:(i,e)∈L:=(hL.mem i e).2 ⟨hi,hb⟩
  have hoke:EntOk e:=f1.2 i e hi hb
  have hoke':EntOk {e with val:=bs,dl:=d}:=⟨hoke.1,hbs,hb⟩
  have hilt:=lt_of_get hi
  obtain⟨g1,g2,g3,g4⟩:=useL_len (e':= {e with val:=bs,dl:=d}) hL.nd hiL
  have hce:costE {e with val:=bs,dl:=d}=key.size+bs.length+48:=by
   show e.key.size+bs.length+48=_
   rw[hke]
  have hcle:=costE_le hoke'
  (repeat first |refine L1o H rfl ?_ |refine Oc ?_)
  refine k_dict_Get (p:=q.d) H hi hb fun v w H=>?_
  refine Ob ?_
  refine NEWo H fun t9' w H=>?_
  refine SNo H rfl (by simp) (by simp[entV,svV,Value.oneCell']) fun w H=>?_
  have H:Own w.hp [pt t9' [.string e.key,svV v,.int .u64 e.dl,.int .u64 e.birth],imm (svV v) e.val,pt p (chC q N B hs),dct q.d hs es,bcn q.b bn,seg q.o (aOf L),bud q.u N B L.length (sumC (aOf L)),dues q.e now (tmOf es),evq q.v ev,pt t5 [ptrV p],pt t7 [.string key],pt t9 [dlf],pt t8 [svV v0],pt t11 [.int .i64 (key.size+bs.length+48:Nat)],imm (svV v0) bs,F,C0]:=H
  (repeat first |refine L1o H rfl ?_ |refine Oc ?_)
  refine LNo H (by simp) ?_
  have e4:(Value.agg (List.take 4 (List.drop 0 [.string e.key,svV v,.int .u64 e.dl,.int .u64 e.birth])).toArray)=entV e v:=rfl
  rw[e4]
  have H:Own w.hp (cl p q N B hs es bn (aOf L) L.length (sumC (aOf L)) now (tmOf es) ev [pt t9' [.string e.key,svV v,.int .u64 e.dl,.int .u64 e.birth],imm (svV v) e.val,pt t5 [ptrV p],pt t7 [.string key],pt t9 [dlf],pt t8 [svV v0],pt t11 [.int .i64 (key.size+bs.length+48:Nat)],imm (svV v0) bs,F,C0]):=H.mv16.mv16.mv16.mv16.mv16.mv16.mv16.mv16.mv9.mv9.mv16.mv16.mv16.mv16.mv16.mv16.mv16
  refine c_tell (k:=3) (by decide) hoke (by rw[(hA _ hiL).2];rfl) hev H fun w H=>?_
  (repeat first |refine L1o H rfl ?_ |refine Oc ?_)
  refine k_dict_Set (p:=q.d) (v0:=v0) (bs:=bs) (w:=w.drew) H hi hb hbs fun w H=>?_
  (repeat first |refine L1o H rfl ?_ |refine Oc ?_)
  have hti:tmOf es i=some (e.dl,e.birth):=hL.tm.2 ⟨e,hiL,rfl,rfl⟩
  have hbb:=hL.bn _ hiL
  have hbb:e.birth≤bn:=hbb
  refine k_due_Set (p:=q.e) (w:=w.drew) H (by omega) hd (by omega) (.inr ⟨e.dl,hti⟩) fun w H=>?_
  have e5:tmOf (es.set i {e with val:=bs,dl:=d})=upd (tmOf es) i (some (d,e.birth)):=tmOf_put hi hb
  rw[←e5] at H
  (repeat first |refine L1o H rfl ?_ |refine Oc ?_)
  rw[←hce]
  refine use_go (q:=q) (es:=es) (e:=e) hL hiL hoke hoke' rfl (by omega) (alive_use hA ⟨hd.1,hdn⟩) hnow hbn H fun w H=>?_
  exact hold w i e hiL hke H.mv10.mv10.mv10.mv10.mv10.mv10.mv10.mv10.mv8.dp9.dp9
end
end Go.Cub
namespace Go.Cub
open Go Go.Proofs Go.IntWalk
section
variable {R:Value→World→Prop} {w:World} {C:List HP} {u:HP→List HP} {p N B:Nat} {q:Pts} {hs:Nat×Bool} {m bn now to i:Nat} {es:List Ent} {L:List (Nat×Ent)} {ev:List AEv} {e e':Ent} {key:ByteArray}
attribute [local irreducible] PV CND GRD L1 LN S1 SN NEW NEWS MKS MKM LK MU DEL LENM APP CPY BTS Call CallV
theorem k_set {d:Nat} {v0:SV} {bs:List UInt8} {dlf:Value} {F C0:HP} (hto:to<18446744073709551616) (hdl:DlS p N B hs dlf F d (max now to)) (hfv:dlf.cells=#[dlf]) (hd:d<18446744073709551616∧(d≠18446744073709551615→max now to<d)) (hBc:key.size+bs.length+48≤B) (hev:ev.length+L.length<524288) (hm:m<4194304) (hbn1:bn<18446744073709551614)
  (H:Own w.hp [glb,cac p N B hs m L bn now ev,imm (svV v0) bs,F,C0])
  (hbad:chkE key bs.length 1≠0→∀w',Own w'.hp [glb,cac p N B hs m L bn now ev,imm (svV v0) bs,F,C0]→R (.int .i64 (chkE key bs.length 1)) w')
  (hold:chkE key bs.length 1=0→∀X s e,X.length+(notDue L (max now to)).length=L.length→(∀x∈X,x.1=1)→(s,e)∈notDue L (max now to)→e.key=key→AftRun p N B hs s (useL (notDue L (max now to)) s {e with val:=bs,dl:=d}) bn (max now to) (ev++X++[(3,e,max now to)]) [imm (svV v0) bs,F,C0] (R (.int .i64 0)))
  (hnew:chkE key bs.length 1=0→∀X s,X.length+(notDue L (max now to)).length=L.length→(∀x∈X,x.1=1)→(∀x∈notDue L (max now to),x.2.key≠key)→(∀x∈notDue L (max now to),x.1≠s)→AftRun p N B hs s (notDue L (max now to)++[(s,⟨key,bs,d,bn+1⟩)]) (bn+1) (max now to) (ev++X) [imm (svV v0) bs,F,C0] (R (.int .i64 0))):
  Call Pg 123 #[ptrV p,.int .u64 to,.string key,svV v0,dlf] w R:=by
 have hlv:lenS (svV v0)=some (.int .i64 bs.length):=imlen (bs:=bs) H
 refine c_123 ?_
 simp only[F_123]
 refine NEWo H fun t5 w H=>?_
 refine NEWo H fun t7 w H=>?_
 refine NEWo H fun t8 w H=>?_
 refine NEWo H fun t9 w H=>?_
 rw[hfv] at H
 have H:Own w.hp [pt t9 [dlf],pt t8 [svV v0],pt t7 [.string key],pt t5 [ptrV p],glb,cac p N B hs m L bn now ev,imm (svV v0) bs,F,C0]:=H
 (repeat first |refine L1o H rfl ?_ |refine Oc ?_)
 have hopen:∀ {w:World} {K:Prop} {t11:Nat} {c:Int},Own w.hp [pt t11 [.int .i64 c],pt t9 [dlf],pt t8 [svV v0],pt t7 [.string key],pt t5 [ptrV p],glb,cac p N B hs m L bn now ev,imm (svV v0) bs,F,C0]→(∀q es,Own w.hp (cl p q N B hs es bn (aOf L) L.length (sumC (aOf L)) now (tmOf es) ev [pt t11 [.int .i64 c],pt t9 [dlf],pt t8 [svV v0],pt t7 [.string key],pt t5 [ptrV p],glb,imm (svV v0) bs,F,C0])→K)→K:=fun H h=>by
  obtain⟨q,es,_,H⟩:=cac_iff.1 H.mv6
  exact h q es H
 by_cases hz:chkE key bs.length 1=0
 ·have hks:(0<key.size∧key.size≤250)∧bs.length≤65536:=by
   unfold chkE at hz
   split at hz
   ·cases hz
   ·rename_i h1
    split at hz
    ·cases hz
    ·exact⟨by omega,by omega⟩
  refine c_entry_Cost hlv hks.1 hks.2 fun w' he=>?_
  have H:=H.ex he
  refine Ob ?_
  refine NEWo H fun t11 w H=>?_
  refine S1o H rfl rfl fun w H=>?_
  have H:Own w.hp [pt t11 [.int .i64 (key.size+bs.length+48:Nat)],pt t9 [dlf],pt t8 [svV v0],pt t7 [.string key],pt t5 [ptrV p],glb,cac p N B hs m L bn now ev,imm (svV v0) bs,F,C0]:=H
  (repeat first |refine L1o H rfl ?_ |refine Oc ?_)
  refine k_none (p:=p) (w:=w.drew) H ?_
  refine⟨L1o (w:=w.drew) H rfl rfl,?_⟩
  (repeat first |refine L1o H rfl ?_ |refine Oc ?_)
  refine hopen H fun q es H1=>?_
  refine L1o (w:=w) H1 rfl ?_
  refine Ob ?_
  refine c_132 ?_
  simp only[F_132]
  refine Ob ?_
  refine⟨L1o H rfl rfl,?_⟩
  refine NEWSo (w:=w.drew) i64E [(0:Int),0] H (cs:=#[.int .i64 0,.int .i64 0]) rfl rfl rfl fun tt w H=>?_
  refine⟨L1o H rfl rfl,?_⟩
  refine k_check (p:=p) H (by simp) (by omega) fun w H=>?_
  rw[show firstE ([(0:Int),0]++[0])=0 from rfl]
  (repeat first |refine L1o H rfl ?_ |refine Oc ?_)
  refine hopen H fun q es H1=>?_
  refine L1o (w:=w) H1 rfl ?_
  refine k_bcn_Last (p:=q.b) H1 ?_
  (repeat first |refine L1o H rfl ?_ |refine Oc ?_)
  refine k_run' hto (by omega) (C:=[pt t11 [.int .i64 (key.size+bs.length+48:Nat)],pt t9 [dlf],pt t8 [svV v0],pt t7 [.string key],pt t5 [ptrV p],imm (svV v0) bs,F,C0]) H.mv9.mv9.mv9.mv7.mv7.mv7.mv7.mv7.mv9.mv9 fun w X hX hX1 H=>?_
  have hle:=List.length_filter_le (fun x:Nat×Ent=> !dueT x.2.dl (max now to)) L
  have hle:(notDue L (max now to)).length≤L.length:=hle
  have hnd:((notDue L (max now to)).map (·.1)).Nodup:=by
   obtain⟨q,es,⟨hL,_⟩,_⟩:=cac_iff.1 H.mv1
   exact hL.nd
  refine c_set1 (C0:=.all [glb,C0]) (ev:=ev++X) (L:=notDue L (max now to)) (key:=key) (bs:=bs) (v0:=v0) hdl hd hks.1 hks.2 (by simp;omega) hm (by omega) hbn1 ?_ (fun w s e hse hke H=>?_) (fun w s hnk hns H=>?_)
  ·exact(all2.2 H.mv8.mv8.mv4.mv6.mv6.mv7.mv8.mv8.mv9.mv9).mv8.mv8.mv8.mv8.mv8.mv8.mv8.mv8
  ·have hul:=(useL_len (e':= {e with val:=bs,dl:=d}) hnd hse).1
   have H:=all2.1 H.mv7.mv7.mv7.mv7.mv7.mv7.mv7.mv7.mv8
   refine⟨s,m,_,bn,_,_,rfl,?_,H.mv9.mv9.mv9.mv9.mv9.mv9.mv9.mv8.mv9.mv9,?_⟩
   ·rw[hul];simp;omega
   ·intro w'' L3 Y hY2 hY hL3 H
    exact hold hz X s e hX hX1 hse hke w'' L3 Y hY2 hY hL3 H.mv2.mv9.mv9.mv4.mv4.dp5.dp5.dp5.dp5.dp5
  ·have H:=all2.1 H.mv7.mv7.mv7.mv7.mv7.mv7.mv7.mv7.mv8
   refine⟨s,m+1,_,bn+1,_,_,rfl,?_,H.mv9.mv9.mv9.mv9.mv9.mv9.mv9.mv8.mv9.mv9,?_⟩
   ·simp;omega
   ·intro w'' L3 Y hY2 hY hL3 H
    exact hnew hz X s hX hX1 hnk hns w'' L3 Y hY2 hY hL3 H.mv2.mv9.mv9.mv4.mv4.dp5.dp5.dp5.dp5.dp5
 ·refine c_entry_Cost_err hlv hz fun w' he=>?_
  have H:=H.ex he
  refine Ob ?_
  refine NEWo H fun t11 w H=>?_
  refine S1o H rfl rfl fun w H=>?_
  have H:Own w.hp [pt t11 [.int .i64 0],pt t9 [dlf],pt t8 [svV v0],pt t7 [.string key],pt t5 [ptrV p],glb,cac p N B hs m L bn now ev,imm (svV v0) bs,F,C0]:=H
  (repeat first |refine L1o H rfl ?_ |refine Oc ?_)
  refine k_none (p:=p) (w:=w.drew) H ?_
  refine⟨L1o (w:=w.drew) H rfl rfl,?_⟩
  (repeat first |refine L1o H rfl ?_ |refine Oc ?_)
  refine hopen H fun q es H1=>?_
  refine L1o (w:=w) H1 rfl ?_
  refine Ob ?_
  refine c_132 ?_
  simp only[F_132]
  refine Ob ?_
  refine⟨L1o H rfl rfl,?_⟩
  refine NEWSo (w:=w.drew) i64E [chkE key bs.length 1,0] H (cs:=#[.int .i64 (chkE key bs.length 1),.int .i64 0]) rfl rfl rfl fun tt w H=>?_
  refine⟨L1o H rfl rfl,?_⟩
  refine k_check (p:=p) H (by simp) (by omega) fun w H=>?_
  rw[show firstE ([chkE key bs.length 1,0]++[0])=chkE key bs.length 1 by simp[firstE,hz]]
  refine Ob ?_
  exact hbad hz w H.mv9.mv9.mv9.mv9.mv9.dp5.dp5.dp5.dp5.dp5
end
end Go.Cub
namespace Go.Cub
open Go Go.Proofs Go.IntWalk
section
variable {R:Value→World→Prop} {w:World} {C:List HP} {u:HP→List HP} {p N B:Nat} {q:Pts} {hs:Nat×Bool} {m bn now to i:Nat} {es:List Ent} {L:List (Nat×Ent)} {ev:List AEv} {e e':Ent} {key:ByteArray}
attribute [local irreducible] PV CND GRD L1 LN S1 SN NEW NEWS MKS MKM LK MU DEL LENM APP CPY BTS Call CallV
theorem dl_never {F:HP}:DlS p N B hs (.func (.func 124) #[] #[]) F 18446744073709551615 now:=by
 intro w q es bn A c s tm ev C' H
 refine callV_fn (Tryz.calOk _ (by rfl)) ?_
 show Call Pg 124 #[] w _
 refine c_124 ?_
 exact⟨rfl,H⟩
theorem k_Set {v0:SV} {bs:List UInt8} {F C0:HP} (hto:to<18446744073709551616) (hBc:key.size+bs.length+48≤B) (hev:ev.length+L.length<524288) (hm:m<4194304) (hbn1:bn<18446744073709551614)
  (H:Own w.hp [glb,cac p N B hs m L bn now ev,imm (svV v0) bs,F,C0])
  (hbad:chkE key bs.length 1≠0→∀w',Own w'.hp [glb,cac p N B hs m L bn now ev,imm (svV v0) bs,F,C0]→R (.int .i64 (chkE key bs.length 1)) w')
  (hold:chkE key bs.length 1=0→∀X s e,X.length+(notDue L (max now to)).length=L.length→(∀x∈X,x.1=1)→(s,e)∈notDue L (max now to)→e.key=key→AftRun p N B hs s (useL (notDue L (max now to)) s {e with val:=bs,dl:=18446744073709551615}) bn (max now to) (ev++X++[(3,e,max now to)]) [imm (svV v0) bs,F,C0] (R (.int .i64 0)))
  (hnew:chkE key bs.length 1=0→∀X s,X.length+(notDue L (max now to)).length=L.length→(∀x∈X,x.1=1)→(∀x∈notDue L (max now to),x.2.key≠key)→(∀x∈notDue L (max now to),x.1≠s)→AftRun p N B hs s (notDue L (max now to)++[(s,⟨key,bs,18446744073709551615,bn+1⟩)]) (bn+1) (max now to) (ev++X) [imm (svV v0) bs,F,C0] (R (.int .i64 0))):
  Call Pg 64 #[ptrV p,.int .u64 to,.string key,svV v0] w R:=by
 refine c_64 ?_
 simp only[F_64]
 exact k_set (bs:=bs) hto dl_never rfl ⟨by decide,fun h=>absurd rfl h⟩ hBc hev hm hbn1 H hbad hold hnew
theorem dl_ttl {t5 t9 ttl:Nat} (hnow:now<18446744073709551616):DlS p N B hs (.func (.func 125) #[] #[ptrV t5,ptrV t9]) (.all [pt t5 [ptrV p],pt t9 [.int .u64 ttl]]) (addT now ttl) now:=by
 intro w q es bn A c s tm ev C' H
 refine callV_fn (Tryz.calOk _ (by rfl)) ?_
 show Call Pg 125 #[ptrV t5,ptrV t9] w _
 refine c_125 ?_
 simp only[F_125]
 have H0:=H
 have H:=all2.1 H.mv7
 (repeat first |refine L1o H rfl ?_ |refine Oc ?_)
 refine k_due_Now (p:=q.e) (w:=w.drew) H ?_
 refine⟨L1o H rfl rfl,?_⟩
 refine c_tick_Add hnow ?_
 exact⟨rfl,H0⟩
theorem addT_ok {t d:Nat} (ht:t<18446744073709551616) (hd:0<d):addT t d<18446744073709551616∧(addT t d≠18446744073709551615→t<addT t d):=by
 unfold addT
 split
 ·exact⟨by decide,fun h=>absurd rfl h⟩
 ·exact⟨by omega,fun _=>by omega⟩
theorem k_SetTTL {ttl:Nat} {v0:SV} {bs:List UInt8} {C0:HP} (hto:to<18446744073709551616) (hnow:now<18446744073709551616) (hBc:key.size+bs.length+48≤B) (hev:ev.length+L.length<524288) (hm:m<4194304) (hbn1:bn<18446744073709551614)
  (H:Own w.hp [glb,cac p N B hs m L bn now ev,imm (svV v0) bs,C0])
  (hz:ttl=0→∀w',Own w'.hp [glb,cac p N B hs m L bn now ev,imm (svV v0) bs,C0]→R (.int .i64 2) w')
  (hbad:0<ttl→chkE key bs.length 1≠0→∀w',Own w'.hp [glb,cac p N B hs m L bn now ev,imm (svV v0) bs,C0]→R (.int .i64 (chkE key bs.length 1)) w')
  (hold:0<ttl→chkE key bs.length 1=0→∀X s e F,X.length+(notDue L (max now to)).length=L.length→(∀x∈X,x.1=1)→(s,e)∈notDue L (max now to)→e.key=key→AftRun p N B hs s (useL (notDue L (max now to)) s {e with val:=bs,dl:=addT (max now to) ttl}) bn (max now to) (ev++X++[(3,e,max now to)]) [imm (svV v0) bs,F,C0] (R (.int .i64 0)))
  (hnew:0<ttl→chkE key bs.length 1=0→∀X s F,X.length+(notDue L (max now to)).length=L.length→(∀x∈X,x.1=1)→(∀x∈notDue L (max now to),x.2.key≠key)→(∀x∈notDue L (max now to),x.1≠s)→AftRun p N B hs s (notDue L (max now to)++[(s,⟨key,bs,addT (max now to) ttl,bn+1⟩)]) (bn+1) (max now to) (ev++X) [imm (svV v0) bs,F,C0] (R (.int .i64 0))):
  Call Pg 65 #[ptrV p,.int .u64 to,.string key,svV v0,.int .u64 ttl] w R:=by
 refine c_65 ?_
 simp only[F_65]
 refine NEWo H fun t5 w H=>?_
 refine NEWo H fun t9 w H=>?_
 have H:Own w.hp [pt t9 [.int .u64 ttl],pt t5 [ptrV p],glb,cac p N B hs m L bn now ev,imm (svV v0) bs,C0]:=H
 (repeat first |refine L1o H rfl ?_ |refine Oc ?_)
 refine k_none (p:=p) H ?_
 (repeat first |refine L1o H rfl ?_ |refine Oc ?_)
 by_cases ht:ttl=0
 ·refine Ob ?_
  exact hz ht w H.mv5.mv5.mv5.mv5.dp4.dp4
 ·have htp:0<ttl:=by omega
  (repeat first |refine L1o H rfl ?_ |refine Oc ?_)
  have hok:=addT_ok (t:=max now to) (d:=ttl) (by omega) htp
  have H:=(all2.2 H.mv5.mv5.mv5.mv5.mv4.mv5)
  refine k_set (bs:=bs) (F:=.all [pt t5 [ptrV p],pt t9 [.int .u64 ttl]]) hto (dl_ttl (by omega)) rfl hok hBc hev hm hbn1 H.mv4.mv1.mv4.mv4.mv4 ?_ ?_ ?_
  ·intro hc w' H
   exact hbad htp hc w' H.mv4.mv3.mv3.mv3.dp4
  ·intro hc X s e h1 h2 h3 h4
   exact hold htp hc X s e _ h1 h2 h3 h4
  ·intro hc X s h1 h2 h3 h4
   exact hnew htp hc X s _ h1 h2 h3 h4
end
end Go.Cub
namespace Go.Cub
open Go Go.Proofs Go.IntWalk
section
variable {R:Value→World→Prop} {w:World} {C:List HP} {u:HP→List HP} {p N B:Nat} {q:Pts} {hs:Nat×Bool} {m bn now to i:Nat} {es:List Ent} {L:List (Nat×Ent)} {ev:List AEv} {e e':Ent} {key:ByteArray}
attribute [local irreducible] PV CND GRD L1 LN S1 SN NEW NEWS MKS MKM LK MU DEL LENM APP CPY BTS Call CallV
def ttlErr (ttl:Nat):Int:=if 0<ttl then 0 else 2
theorem c_touch1 {t4 t7 ttl s:Nat} {K:Value→World→Prop} (hse:(s,e)∈L) (ht:0<ttl) (H:Own w.hp (cac p N B hs m L bn now ev::pt t4 [ptrV p]::pt t7 [.int .u64 ttl]::C))
  (h:∀w',Own w'.hp (cac p N B hs m (useL L s {e with dl:=addT now ttl}) bn now ev::pt t4 [ptrV p]::pt t7 [.int .u64 ttl]::C)→K (.tuple #[]) w'):
  CallV Pg (.func (.func 133) #[] #[ptrV t4,ptrV t7]) #[.int .u32 s] w K:=by
 refine callV_fn (Tryz.calOk _ (by rfl)) ?_
 show Call Pg 133 #[.int .u32 s,ptrV t4,ptrV t7] w _
 refine c_133 ?_
 simp only[F_133]
 obtain⟨q,es,⟨hL,hA,hnow,hbn⟩,H⟩:=cac_iff.1 H
 obtain⟨f1,f2,f3,f4⟩:=cl_facts H
 obtain⟨hi,hb⟩:=(hL.mem s e).1 hse
 have hoke:EntOk e:=f1.2 s e hi hb
 have hoke':EntOk {e with dl:=addT now ttl}:=hoke
 have hilt:=lt_of_get hi
 obtain⟨g1,g2,g3,g4⟩:=useL_len (e':= {e with dl:=addT now ttl}) hL.nd hse
 have hce:costE {e with dl:=addT now ttl}=costE e:=rfl
 have hok:=addT_ok (t:=now) (d:=ttl) hnow ht
 (repeat first |refine L1o H rfl ?_ |refine Oc ?_)
 refine k_dict_Get (p:=q.d) H hi hb fun v w H=>?_
 refine Ob ?_
 refine NEWo H fun t9 w H=>?_
 refine SNo H rfl (by simp) (by simp[entV,svV,Value.oneCell']) fun w H=>?_
 have H:Own w.hp (pt t9 [.string e.key,svV v,.int .u64 e.dl,.int .u64 e.birth]::_):=H
 (repeat first |refine L1o H rfl ?_ |refine Oc ?_)
 refine k_due_Now (p:=q.e) (w:=w.drew) H ?_
 refine⟨L1o H rfl rfl,?_⟩
 refine c_tick_Add hnow ?_
 (repeat first |refine L1o H rfl ?_ |refine Oc ?_)
 refine k_dict_Set (p:=q.d) (v0:=v) (bs:=e.val) (w:=w.drew.drew) H hi hb hoke.2.1 fun w H=>?_
 (repeat first |refine L1o H rfl ?_ |refine Oc ?_)
 have hti:tmOf es s=some (e.dl,e.birth):=hL.tm.2 ⟨e,hse,rfl,rfl⟩
 have hbb:=hL.bn _ hse
 have hbb:e.birth≤bn:=hbb
 refine k_due_Set (p:=q.e) (w:=w.drew) H (by omega) hok (by omega) (.inr ⟨e.dl,hti⟩) fun w H=>?_
 have e5:tmOf (es.set s {e with dl:=addT now ttl})=upd (tmOf es) s (some (addT now ttl,e.birth)):=tmOf_put hi hb
 rw[←e5] at H
 (repeat first |refine L1o H rfl ?_ |refine Oc ?_)
 refine k_seg_Of (p:=q.o) H (cst_aOf hL.nd hse) ?_
 (repeat first |refine L1o H rfl ?_ |refine Oc ?_)
 rw[←hce]
 have hdn:dueT (addT now ttl) now=false:=by
  simp only[dueT,decide_eq_false_iff_not]
  rintro⟨h1,h2⟩
  have :=hok.2 h1
  omega
 refine use_go (q:=q) (es:=es) (e:=e) hL hse hoke hoke' rfl (by omega) (alive_use hA ⟨hok.1,hdn⟩) hnow hbn H.mv1.mv1.mv8.mv8.mv8.mv8.mv8.mv8.mv8 fun w H=>?_
 exact h w H.mv4.mv4.mv2.dp3.dp3
theorem k_Touch {ttl:Nat} {C0:HP} (hto:to<18446744073709551616) (hev:ev.length+L.length≤1048576) (H:Own w.hp [glb,cac p N B hs m L bn now ev,C0]) (hk:key.size≤1000000)
  (hbad:firstE [keyErr key,ttlErr ttl]≠0→∀w',Own w'.hp [glb,cac p N B hs m L bn now ev,C0]→R (.tuple #[.bool false,.int .i64 (firstE [keyErr key,ttlErr ttl])]) w')
  (h0:firstE [keyErr key,ttlErr ttl]=0→∀X,X.length+(notDue L (max now to)).length=L.length→(∀x∈X,x.1=1)→(∀x∈notDue L (max now to),x.2.key≠key)→AftRun p N B hs nobody (notDue L (max now to)) bn (max now to) (ev++X) [C0] (R (.tuple #[.bool false,.int .i64 0])))
  (h1:firstE [keyErr key,ttlErr ttl]=0→∀X s e,X.length+(notDue L (max now to)).length=L.length→(∀x∈X,x.1=1)→(s,e)∈notDue L (max now to)→e.key=key→AftRun p N B hs nobody (useL (notDue L (max now to)) s {e with dl:=addT (max now to) ttl}) bn (max now to) (ev++X) [C0] (R (.tuple #[.bool true,.int .i64 0]))):
  Call Pg 68 #[ptrV p,.int .u64 to,.string key,.int .u64 ttl] w R:=by
 refine c_68 ?_
 simp only[F_68]
 refine NEWo H fun t4 w H=>?_
 refine NEWo H fun t7 w H=>?_
 have H:Own w.hp [pt t7 [.int .u64 ttl],pt t4 [ptrV p],glb,cac p N B hs m L bn now ev,C0]:=H
 have hun:∀ {w:World} {R:Value→World→Prop},R (.int .i64 (ttlErr ttl)) w→Call Pg 132 #[.bool (decide ((ttl:Int)>0)),.int .i64 2] w R:=fun {w R} h=>by
  refine c_132 ?_
  simp only[F_132]
  unfold ttlErr at h
  by_cases ht:0<ttl
  ·rw[if_pos ht] at h
   refine Ob ?_
   exact h
  ·rw[if_neg ht] at h
   refine Ob ?_
   exact h
 refine L1o (w:=w.drew) H rfl ?_
 refine L1o (w:=w.drew) H rfl ?_
 refine PV_of (v:=.bool (decide ((ttl:Int)>0))) rfl ?_
 refine c_keyed ?_
 refine⟨L1o (w:=w.drew) H rfl rfl,L1o (w:=w.drew) H rfl rfl,?_⟩
 refine hun ?_
 refine⟨L1o (w:=w.drew) H rfl rfl,?_⟩
 refine NEWSo (w:=w.drew) i64E [keyErr key,ttlErr ttl] H (cs:=#[.int .i64 (keyErr key),.int .i64 (ttlErr ttl)]) rfl rfl rfl fun tt w H=>?_
 refine⟨L1o H rfl rfl,?_⟩
 refine k_check (p:=p) H (by simp) hev fun w H=>?_
 have e0:firstE ([keyErr key,ttlErr ttl]++[0])=firstE [keyErr key,ttlErr ttl]:=by
  simp only[firstE,List.find?_append]
  cases List.find? (fun x=>decide (x≠0)) [keyErr key,ttlErr ttl]<;>simp
 rw[e0]
 by_cases hz:firstE [keyErr key,ttlErr ttl]=0
 ·have htp:0<ttl:=by
   apply Nat.lt_of_not_le
   intro hle
   have h0:ttlErr ttl=2:=by unfold ttlErr;rw[if_neg (by omega)]
   by_cases hk0:keyErr key=0
   ·rw[hk0,h0] at hz
    exact absurd hz (by decide)
   ·simp[firstE,hk0] at hz
  rw[hz]
  (repeat first |refine L1o H rfl ?_ |refine Oc ?_)
  refine k_find (C:=[pt t4 [ptrV p],pt t7 [.int .u64 ttl],C0]) hto hk hev rfl H.mv4.mv1.mv2.mv4.mv4 (fun X hX hX1 hn=>?_) (fun w X s e Z hX hX1 hse hke H=>?_)
  ·intro w'' L3 Y hY2 hY hL3 H
   refine Ob ?_
   exact h0 hz X hX hX1 hn w'' L3 Y hY2 hY hL3 H.mv4.mv2.mv2.dp3.dp3
  ·have hle:=List.length_filter_le (fun x:Nat×Ent=> !dueT x.2.dl (max now to)) L
   have hle:(notDue L (max now to)).length≤L.length:=hle
   have hnd:((notDue L (max now to)).map (·.1)).Nodup:=by
    obtain⟨q,es,⟨hL,_⟩,_⟩:=cac_iff.1 H.mv1
    exact hL.nd
   refine c_touch1 hse htp H.mv5.mv3.mv2.mv5.mv5.mv5 fun w H=>?_
   have hul:=(useL_len (e':= {e with dl:=addT (max now to) ttl}) hnd hse).1
   refine⟨m,_,bn,_,[pt t4 [ptrV p],pt t7 [.int .u64 ttl],C0],?_,H.mv5.mv3.mv3.mv5.mv4.mv5,?_⟩
   ·rw[hul];simp;omega
   ·intro w'' L3 Y hY2 hY hL3 H
    refine Ob ?_
    exact h1 hz X s e hX hX1 hse hke w'' L3 Y hY2 hY hL3 H.mv4.mv2.mv2.dp3.dp3
 ·refine Ob ?_
  exact hbad hz w H.mv4.mv4.mv4.dp3.dp3
end
end Go.Cub
namespace Go.Cub
open Go Go.Proofs Go.IntWalk
def u64E':Enc Nat:=⟨1,fun n=>[.int .u64 n],fun _=>rfl,fun n v h=>by simp at h;subst h;rfl⟩
section
variable {R:Value→World→Prop} {w:World} {C:List HP} {u:HP→List HP} {p N B:Nat} {q:Pts} {hs:Nat×Bool} {m bn now to i:Nat} {es:List Ent} {L:List (Nat×Ent)} {ev:List AEv} {e e':Ent} {key:ByteArray}
attribute [local irreducible] PV CND GRD L1 LN S1 SN NEW NEWS MKS MKM LK MU DEL LENM APP CPY BTS Call CallV
theorem k_New (hN:1≤N∧N≤1048576) (hB:1≤B∧B≤1099511627776) (hh:hs.1<18446744073709551616) (H:Own w.hp C) (h:∀p w',Own w'.hp (cac p N B hs 0 [] 0 0 []::C)→R (.tuple #[ptrV p,.int .i64 0]) w'):Call Pg 13 #[cfgV N B 0 hs.1 hs.2] w R:=by
 refine c_13 ?_
 simp only[F_13]
 have ec:∀(cs:List Value),cs=[.int .i64 N,.int .i64 B,.int .i64 0,.int .u64 hs.1,.bool hs.2]→(Value.agg (List.take 5 (List.drop 0 cs)).toArray)=cfgV N B 0 hs.1 hs.2:=fun cs h=>by subst h;rfl
 refine NEWo H fun t1 w H=>?_
 have H:Own w.hp (pt t1 [.int .i64 N,.int .i64 B,.int .i64 0,.int .u64 hs.1,.bool hs.2]::C):=H
 refine LNo H (by simp) ?_
 rw[ec _ rfl]
 refine c_config_Check (by omega) (by omega) (by omega) fun w' he=>?_
 have H:=H.ex he
 refine Ob ?_
 refine LNo H (by simp) ?_
 rw[ec _ rfl]
 refine c_34 ?_
 simp only[F_34]
 refine NEWo H fun t3 w H=>?_
 have H:Own w.hp (pt t3 [.int .i64 N,.int .i64 B,.int .i64 0,.int .u64 hs.1,.bool hs.2]::_::C):=H
 refine LNo H (by simp) ?_
 rw[ec _ rfl]
 refine c_config_Part (by omega) (by omega) fun w' he=>?_
 have H:=H.ex he
 refine Ob ?_
 refine k_seg_New H fun po w H=>?_
 (repeat first |refine L1o H rfl ?_ |refine Oc ?_)
 refine k_bud_New H hN hB fun pu w H=>?_
 (repeat first |refine L1o H rfl ?_ |refine Oc ?_)
 refine LNo (w:=w) H (by simp) ?_
 rw[ec _ rfl]
 refine c_hash_New (w:=w.drew) H fun w H=>?_
 refine⟨LNo H (by simp) (ec _ rfl),?_⟩
 refine k_dict_New hh H fun pd w H=>?_
 refine⟨LNo H (by simp) (ec _ rfl),?_⟩
 refine k_bcn_New (last:=0) H fun pb w H=>?_
 refine⟨LNo H (by simp) (ec _ rfl),?_⟩
 refine k_due_New (now:=0) H (by decide) fun pe w H=>?_
 refine⟨LNo H (by simp) (ec _ rfl),?_⟩
 refine k_evq_New H fun pv w H=>?_
 refine⟨LNo H (by simp) (ec _ rfl),?_⟩
 refine PV_of (v:=.agg #[ptrV pd,ptrV pb,ptrV po,ptrV pu,ptrV pe,ptrV pv]) (by simp[buildV,Instr.fill]) ?_
 refine PV_of (v:=.agg #[ptrV pd,ptrV pb,ptrV po,ptrV pu,ptrV pe,ptrV pv,.int .i64 N,.int .i64 B,.int .i64 0,.int .u64 hs.1,.bool hs.2]) (by simp[buildV,Instr.fill,cfgV]) ?_
 refine NEWo H fun p w H=>?_
 refine Ob ?_
 refine h p w (cac_iff.2 ⟨⟨pd,pb,po,pu,pe,pv⟩,[],⟨⟨by simp,by simp,by simp,by simp[liveE,liveI],by simp⟩,by simp[Alive],by decide,by decide⟩,?_⟩)
 have e1:tmOf []=fun _=>none:=by funext t;simp[tmOf]
 rw[e1]
 exact H.mv1.mv2.mv5.mv6.mv5.mv6.mv6.dp7.dp7
theorem k_Order [f:Foc C (.b p) (cac p N B hs m L bn now ev) u] (H:Own w.hp C) (h:∀v w',Own w'.hp (sle v u64E' (L.map fun x=>x.2.birth)::u (cac p N B hs m L bn now ev))→R v w'):Call Pg 71 #[ptrV p,.int .i64 0] w R:=by
 refine c_71 ?_
 simp only[F_71]
 refine k_none (p:=p) H ?_
 have h:∀v w',Own w'.hp (sle v u64E' (L.map fun x=>x.2.birth)::cac p N B hs m L bn now ev::f.rest)→R v w':=fun v w' H=>h v w' (f.put1 H)
 obtain⟨q,es,⟨hL,hA,hnow,hbn⟩,H⟩:=cac_iff.1 (f.get H)
 generalize f.rest=C1 at H h
 obtain⟨f1,f2,f3,f4⟩:=cl_facts H
 have H:=tl7.1 H
 (repeat first |refine L1o H rfl ?_ |refine Oc ?_)
 refine k_seg_List (p:=q.o) (g:=0) (B:=aOf L) H (.inl ⟨rfl,rfl⟩) fun v0 w H=>?_
 rw[leno (v:=v0) H,show(aOf L).length=L.length by simp[aOf]]
 refine Ob ?_
 have loop:∀(n j:Nat) (w:World) (so:Value),j+n=L.length→Own w.hp [sle so u64E' ((L.take j).map fun x=>x.2.birth),sle v0 wgE (aOf L),pt p (chC q N B hs),dct q.d hs es,bcn q.b bn,seg q.o (aOf L),bud q.u N B L.length (sumC (aOf L)),dues q.e now (tmOf es),evq q.v ev,.all C1]→
   B_71_5 R (ptrV p) so v0 (.int .i64 L.length) (.int .i64 j) w:=by
  intro n
  induction n with
  |zero=>
   intro j w so hj H
   have hj:j=L.length:=hj
   subst hj
   rw[List.take_length] at H
   refine B_71_5.intro ?_
   simp only[P_71_5]
   refine Ob ?_
   exact h so w (tl2.2 (cac_iff.2 ⟨q,es,⟨hL,hA,hnow,hbn⟩,H.mv9.mv1.mv9.mv9.mv9.mv9.mv9.mv9.mv9.dp9⟩).mv1)
  |succ n ih=>
   intro j w so hj H
   have hjl:j<L.length:=by omega
   have hg:L[j]?=some L[j]:=List.getElem?_eq_getElem hjl
   generalize L[j]=x at hg
   have hx:=List.mem_of_getElem? hg
   have hga:(aOf L)[j]?=some (x.1,costE x.2):=by simp[aOf,hg]
   refine B_71_5.intro ?_
   simp only[P_71_5]
   refine Ob ?_
   refine idxo (v:=v0) (E:=wgE) H (lt_of_get hga) ?_
   refine LNe (v:=v0) (E:=wgE) H hga ?_
   refine NEWo H fun t7 w H=>?_
   refine SNo H rfl (by simp) (fun y hy=>wgE.one (x.1,costE x.2) y (by simpa using hy)) fun w H=>?_
   have H:Own w.hp (pt t7 [.int .u32 x.1,.int .i64 (costE x.2)]::_):=H
   (repeat first |refine L1o H rfl ?_ |refine Oc ?_)
   refine k_due_Get (p:=q.e) (w:=w.drew) H (hL.tm.2 ⟨x.2,hx,rfl,rfl⟩) fun w H=>?_
   refine Ob ?_
   refine NEWSo u64E' [x.2.birth] H (cs:=#[.int .u64 x.2.birth]) rfl rfl rfl fun tt w H=>?_
   refine APPo (E:=u64E') (ys:=[x.2.birth]) (v:=so) H rfl (by decide) (by simp;omega) fun so' w H=>?_
   refine Ob ?_
   rw[show((j:Int)+1)=((j+1:Nat):Int) by simp]
   refine ih (j+1) w so' (by omega) ?_
   have e1:(L.take (j+1)).map (fun x=>x.2.birth)=(L.take j).map (fun x=>x.2.birth)++[x.2.birth]:=by
    rw[List.take_add_one,hg];simp
   rw[e1]
   exact H.drop.drop
 exact loop L.length 0 w (.slice none 0 0) (by omega) (sl_nil u64E' H)
end
end Go.Cub
namespace Go.Cub
open Go Go.Proofs Go.IntWalk
section
variable {R:Value→World→Prop} {w:World} {C:List HP} {u:HP→List HP} {p N B:Nat} {q:Pts} {hs:Nat×Bool} {m bn now to i:Nat} {es:List Ent} {L:List (Nat×Ent)} {ev:List AEv} {e e':Ent} {key:ByteArray}
attribute [local irreducible] PV CND GRD L1 LN S1 SN NEW NEWS MKS MKM LK MU DEL LENM APP CPY BTS Call CallV
theorem LOk.perm (h:LOk m es L bn):(liveE es).Perm (L.map (·.2)):=by
 have hp:((liveI es).map fun y=>(y.2,y.1)).Perm L:=by
  refine(List.perm_ext_iff_of_nodup ?_ (nd_of_map h.nd)).2 fun x=>?_
  ·refine nd_of_map (f:=(·.1)) ?_
   rw[List.map_map]
   exact liveI_nodup es
  ·rw[List.mem_map,h.mem]
   constructor
   ·rintro⟨y,hy,rfl⟩
    exact mem_liveI.1 hy
   ·intro hh
    exact⟨(x.2,x.1),mem_liveI.2 hh,rfl⟩
 have :=hp.map (·.2)
 rw[List.map_map] at this
 exact this
theorem k_Entries [f:Foc C (.b p) (cac p N B hs m L bn now ev) u] (H:Own w.hp C) (h:∀v M w',(M.map (·.1)).Perm (L.map (·.2))→Own w'.hp (sle v entE M::imL (logB M)::u (cac p N B hs m L bn now ev))→R v w'):Call Pg 70 #[ptrV p] w R:=by
 refine c_70 ?_
 simp only[F_70]
 refine k_none (p:=p) H ?_
 have h:∀v M w',(M.map (·.1)).Perm (L.map (·.2))→Own w'.hp (sle v entE M::imL (logB M)::cac p N B hs m L bn now ev::f.rest)→R v w':=fun v M w' e H=>h v M w' e (f.put2 H)
 obtain⟨q,es,⟨hL,hA,hnow,hbn⟩,H⟩:=cac_iff.1 (f.get H)
 generalize f.rest=C1 at H h
 obtain⟨f1,f2,f3,f4⟩:=cl_facts H
 have H:=tl7.1 H
 refine Ob ?_
 refine NEWo H fun t3 w H=>?_
 (repeat first |refine L1o H rfl ?_ |refine Oc ?_)
 refine k_dict_All (p:=q.d) H fun t s LL w hl H=>?_
 have H:Own w.hp [elA t s LL,pt t3 [.slice none 0 0],pt p (chC q N B hs),dct q.d hs es,bcn q.b bn,seg q.o (aOf L),bud q.u N B L.length (sumC (aOf L)),dues q.e now (tmOf es),evq q.v ev,.all C1]:=H
 refine RFx (fun i=>.ex fun so=>.ex fun M=>.all [.pu (M.map (·.1)=((liveI es).take i).map (·.1)),pt t3 [so],sle so entE M,imL (logB M),.all [pt p (chC q N B hs),dct q.d hs es,bcn q.b bn,seg q.o (aOf L),bud q.u N B L.length (sumC (aOf L)),dues q.e now (tmOf es),evq q.v ev,.all C1]]) (fun _=>.pu False) (iter_el (s:=s) hl) ?_ ?_ ?_ ?_
 ·have H:=all8.2 H.mv1.mv1.mv9.mv9.mv9.mv9.mv9.mv9.mv9.mv9
  have H:=sl_nil entE (imL_nil H)
  have H:=H.mv3.mv3.mv3.mv3.mv4
  exact Own.mv1 (own_ex.2 ⟨.slice none 0 0,own_ex.2 ⟨[],all5.2 (own_pu.2 ⟨rfl,H⟩)⟩⟩)
 ·intro l j y hj args r w X hrd hst H
  obtain⟨v,H⟩:=own_ex.1 H
  obtain⟨rfl,H⟩:=own_pu.1 (all2.1 H)
  have hy:=mem_liveI.1 (List.mem_of_getElem? hj)
  have hok:=f1.2 _ _ hy.1 hy.2
  have H2:=H.mv1
  refine y_70_6 (x14:=.int .u32 y.2) (x15:=entV y.1 v) H2.lp hrd.fn hrd.params hrd.aq hrd.body hrd.size hrd.live ?_
  simp only[D_70_6]
  refine NEWo H fun t5 w H=>?_
  refine SNo H rfl (by simp[entV]) (by simp[entV,svV,Value.oneCell']) fun w H=>?_
  have H:Own w.hp (pt t5 [.string y.1.key,svV v,.int .u64 y.1.dl,.int .u64 y.1.birth]::_):=H
  refine BRo H hst fun w H=>?_
  obtain⟨so,H⟩:=own_ex.1 H.mv5.mv4.mv4.mv4.mv4.mv5
  obtain⟨M,H⟩:=own_ex.1 H
  obtain⟨hM,H⟩:=own_pu.1 (all5.1 H)
  have H:=(own_pu.1 (all2.1 H.mv8.mv8.mv8.mv7.mv7.mv7.mv7.mv7.mv8)).2
  have hjl:=lt_of_get hj
  have hll:(liveI es).length≤es.length:=by
   unfold liveI
   exact Nat.le_trans (List.length_filter_le _ _) (by simp)
  have hMl:M.length≤(liveI es).length:=by
   have :=congrArg List.length hM
   simp at this;omega
  (repeat first |refine L1o H rfl ?_ |refine Oc ?_)
  refine LNo (w:=w) H (by simp) ?_
  have e4:(Value.agg (List.take 4 (List.drop 0 [.string y.1.key,svV v,.int .u64 y.1.dl,.int .u64 y.1.birth])).toArray)=entV y.1 v:=rfl
  rw[e4]
  refine k_entry_Copy (e:=y.1) (v:=v) (w:=w.drew) H (by have :=hok.2.1;omega) fun v' w H=>?_
  refine⟨L1o H rfl rfl,?_⟩
  refine NEWSo entE [(y.1,v')] H (cs:=#[.string y.1.key,svV v',.int .u64 y.1.dl,.int .u64 y.1.birth]) (by simp[buildS,buildSl,Instr.fill,entE,entV,zeros]) rfl rfl fun tt w H=>?_
  refine⟨L1o H rfl rfl,?_⟩
  refine APPo (E:=entE) (ys:=[(y.1,v')]) (v:=so) H rfl (by decide) (by simp;omega) fun so' w H=>?_
  have H:=H.drop
  obtain⟨a1,a2,a3,rfl⟩:=sle_slice H.mv3
  refine S1o H rfl rfl fun w H=>?_
  have H:=imL_join (imL_one H.mv9.mv9.mv9.mv8.mv7.mv7.mv8.mv7.dp8.dp8).mv1
  have e6:logB (M++[(y.1,v')])=logB M++[(v',y.1.val)]:=by simp[logB]
  rw[←e6] at H
  refine ERn hrd (Own.bk2 (own_ex.2 ⟨.slice a1 a2 a3,own_ex.2 ⟨M++[(y.1,v')],all5.2 (own_pu.2 ⟨?_,H.mv6.mv6.mv6.mv6.mv4.mv6.mv6⟩)⟩⟩))
  rw[List.take_add_one,hj]
  simp[hM]
 ·intro d w H
  refine JMP_none ?_
  obtain⟨so,H⟩:=own_ex.1 H.mv2
  obtain⟨M,H⟩:=own_ex.1 H
  obtain⟨hM,H⟩:=own_pu.1 (all5.1 H)
  rw[List.take_length] at hM
  (repeat first |refine L1o H rfl ?_ |refine Oc ?_)
  refine RETo H fun w H=>RET_nil ?_
  have H:=all8.1 H.mv3
  refine h so M w (by rw[hM];exact hL.perm) ?_
  have H:=cac_iff.2 ⟨q,es,⟨hL,hA,hnow,hbn⟩,H⟩
  exact tl3.2 H.mv1.mv1.mv4.mv4.dp4.dp4.dp4
 ·intro j d w H
  exact(own_pu.1 H.mv1).1.elim
end
end Go.Cub
namespace Go.Cub
theorem pick_fold {a t:Nat}:∀(l:List (Ent×Nat)) (acc:Option (Nat×Nat)),
  (l.foldl (pickB a t) acc=none→acc=none∧∀y∈l,¬(a≤y.1.birth∧y.1.birth≤t))∧
  (∀x,l.foldl (pickB a t) acc=some x→(acc=some x∨∃y∈l,x=(y.2,y.1.birth)∧a≤y.1.birth∧y.1.birth≤t)∧(∀z,acc=some z→x.2≤z.2)∧∀y∈l,a≤y.1.birth→y.1.birth≤t→x.2≤y.1.birth)
 |[],acc=>by
  refine⟨fun h=>⟨h,by simp⟩,fun x h=>⟨.inl h,fun z hz=>?_,by simp⟩⟩
  have h:acc=some x:=h
  rw[hz] at h
  rw[Option.some.inj h]
  exact Nat.le_refl _
 |y::l,acc=>by
  obtain⟨i1,i2⟩:=pick_fold (a:=a) (t:=t) l (pickB a t acc y)
  rw[List.foldl_cons]
  have hcase:(pickB a t acc y=acc∧(¬(a≤y.1.birth∧y.1.birth≤t)∨∃z,acc=some z∧z.2≤y.1.birth))∨(pickB a t acc y=some (y.2,y.1.birth)∧(a≤y.1.birth∧y.1.birth≤t)∧∀z,acc=some z→y.1.birth≤z.2):=by
   unfold pickB
   by_cases h:a≤y.1.birth∧y.1.birth≤t
   ·rw[if_pos h]
    cases acc with
    |none=>exact .inr ⟨rfl,h,by simp⟩
    |some z=>
     by_cases h2:y.1.birth<z.2
     ·refine .inr ⟨by simp[h2],h,fun z' hz'=>?_⟩
      rw[←Option.some.inj hz'];omega
     ·exact .inl ⟨by simp[h2],.inr ⟨z,rfl,by omega⟩⟩
   ·rw[if_neg h]
    exact .inl ⟨rfl,.inl h⟩
  rcases hcase with ⟨e1,h1⟩ |⟨e1,h1,h2⟩
  ·rw[e1] at i1 i2 ⊢
   refine⟨fun hn=>?_,fun x hx=>?_⟩
   ·obtain⟨j1,j2⟩:=i1 hn
    refine⟨j1,fun z hz=>?_⟩
    rcases List.mem_cons.1 hz with rfl |hz
    ·rcases h1 with h1 |⟨z',hz',_⟩
     ·exact h1
     ·rw[j1] at hz';cases hz'
    ·exact j2 z hz
   ·obtain⟨j1,j2,j3⟩:=i2 x hx
    refine⟨?_,j2,fun z hz ha ht=>?_⟩
    ·rcases j1 with j1 |⟨z,hz,j1⟩
     ·exact .inl j1
     ·exact .inr ⟨z,by simp[hz],j1⟩
    ·rcases List.mem_cons.1 hz with rfl |hz
     ·rcases h1 with h1 |⟨z',hz',hle⟩
      ·exact absurd ⟨ha,ht⟩ h1
      ·have :=j2 z' hz';omega
     ·exact j3 z hz ha ht
  ·rw[e1] at i1 i2 ⊢
   refine⟨fun hn=>?_,fun x hx=>?_⟩
   ·have :=(i1 hn).1;cases this
   ·obtain⟨j1,j2,j3⟩:=i2 x hx
    have j4:=j2 _ rfl
    refine⟨.inr ?_,fun z hz=>?_,fun z hz ha ht=>?_⟩
    ·rcases j1 with j1 |⟨z,hz,j1⟩
     ·exact⟨y,by simp,(Option.some.inj j1).symm,h1⟩
     ·exact⟨z,by simp[hz],j1⟩
    ·have :=h2 z hz
     have j4:x.2≤y.1.birth:=j4
     omega
    ·rcases List.mem_cons.1 hz with rfl |hz
     ·exact j4
     ·exact j3 z hz ha ht
section
variable {m bn a:Nat} {es:List Ent} {L:List (Nat×Ent)}
theorem first_none (h:LOk m es L bn) (hbn:bn<18446744073709551615) (hf:firstB (a+1) 18446744073709551615 es=none):∀x∈L,x.2.birth≤a:=by
 intro x hx
 have h1:=((pick_fold (liveI es) none).1 hf).2 (x.2,x.1) (mem_liveI.2 ((h.mem x.1 x.2).1 hx))
 have h2:=h.bn x hx
 simp only at h1
 omega
theorem first_some (h:LOk m es L bn) (hbn:bn<18446744073709551615) {y:Nat×Nat} (hf:firstB (a+1) 18446744073709551615 es=some y):∃e,(y.1,e)∈L∧a<e.birth∧∀x∈L,a<x.2.birth→e.birth≤x.2.birth:=by
 obtain⟨h1,_,h3⟩:=(pick_fold (liveI es) none).2 y hf
 rcases h1 with h1 |⟨z,hz,rfl,h4,h5⟩
 ·cases h1
 ·refine⟨z.1,(h.mem _ _).2 (mem_liveI.1 hz),h4,fun x hx hax=>?_⟩
  have h2:=h.bn x hx
  exact h3 (x.2,x.1) (mem_liveI.2 ((h.mem x.1 x.2).1 hx)) hax (by show x.2.birth≤_;omega)
end
end Go.Cub
