/-
  Part 28 of the proof that TopNested returns true and leaves what it was given as it was. CONDITIONS: those of the given row and card.
-/
import Derived.Test.YtpelalpajdpkgaaGreatDoorZ26
set_option linter.all false
namespace Go.Cub
open Go Go.Proofs Go.IntWalk
def outL (L:List (Nat×Ent)) (V:List Nat):List (Nat×Ent):=V.foldl delL L
section
variable {R:Value→World→Prop} {w:World} {C:List HP} {u u2:HP→List HP} {p N B:Nat} {q:Pts} {hs:Nat×Bool} {m m' bn now i k c s to:Nat} {es:List Ent} {A:List (Nat×Nat)} {tm:Tm} {L:List (Nat×Ent)} {ev:List AEv} {e:Ent} {eff:Value}
attribute [local irreducible] PV CND GRD L1 LN S1 SN NEW NEWS MKS MKM LK MU DEL LENM APP CPY BTS Call CallV
theorem cac_weak {h:Hp} (hm:m≤m') (H:Own h (cac p N B hs m L bn now ev::C)):Own h (cac p N B hs m' L bn now ev::C):=by
 obtain⟨q,es,⟨hL,hh⟩,H⟩:=cac_iff.1 H
 exact cac_iff.2 ⟨q,es,⟨{hL with len:=Nat.le_trans hL.len hm},hh⟩,H⟩
theorem run_16 (H:Own w.hp (cac p N B hs m L bn now ev::C)) (h:∀L' w',L'.map (·.2)=L.map (·.2)→Own w'.hp (cac p N B hs (2 * L.length+16) L' bn now ev::C)→R (.tuple #[]) w'):B_48_16 R (ptrV p) w:=by
 have H0:=H
 obtain⟨q,es,⟨hL,hA,hnow,hbn⟩,H⟩:=cac_iff.1 H
 have hlen:es.length≤4194304:=by
  obtain⟨S,_,H⟩:=dct_iff.1 H.mv1
  obtain⟨lg,ix,kk,hh,H⟩:=dctP_iff.1 H
  exact(elog_len H.mv1).1
 have hll:L.length≤es.length:=by
  rw[←hL.len_eq,liveE_eq]
  exact List.length_filter_le _ _
 refine B_48_16.intro ?_
 simp only[P_48_16]
 (repeat first |refine L1o H rfl ?_ |refine Oc ?_)
 refine k_dict_Sizes (p:=q.d) H fun g T=>?_
 (repeat first |refine L1o H rfl ?_ |refine Oc ?_)
 refine k_dict_Len (p:=q.d) (w:=w.drew) H ?_
 rw[live_len hL]
 refine c_compact_Due (w:=w.drew) hlen (by omega) ?_
 by_cases hd:dueB es.length L.length=true
 ·rw[hd]
  refine Ob ?_
  refine k_pack (p:=p) (w:=w.drew) (C:=cac p N B hs m L bn now ev::C) H0 fun L' w e H=>?_
  have hl':L'.length=L.length:=by
   have :=congrArg List.length e
   simpa using this
  exact h L' w e (cac_weak (by omega) H)
 ·have hd':dueB es.length L.length=false:=by simpa using hd
  rw[hd']
  refine Ob ?_
  refine h L w.drew rfl (cac_iff.2 ⟨q,es,⟨{hL with len:=?_},hA,hnow,hbn⟩,H⟩)
  simp only[dueB,decide_eq_true_eq] at hd
  omega
theorem outL_nil (L:List (Nat×Ent)):outL L []=L:=rfl
theorem run_12 {t2 t3:Nat} {v:Value} {V:List Nat} (hl:V.length≤4194304)
  (hcont:∀w Y,(∀y∈Y,y.1=2)→Y.length=V.length→Own w.hp (cac p N B hs m (outL L V) bn now (ev++Y)::C)→B_48_16 R (ptrV p) w):
  ∀(n j:Nat) (w:World) (Y:List AEv),j+n=V.length→Y.length=j→(∀y∈Y,y.1=2)→ev.length+V.length<1048577→V.Nodup→(∀s∈V,∃e,(s,e)∈L)→
   Own w.hp (sle v u32E V::pt t2 [ptrV p]::pt t3 [.int .i64 (2:Nat)]::cac p N B hs m (outL L (V.take j)) bn now (ev++Y)::C)→
   B_48_12 R (ptrV p) (.func (.func 104) #[] #[ptrV t2,ptrV t3]) v (.int .i64 V.length) (.int .i64 j) w:=by
 intro n
 induction n with
 |zero=>
  intro j w Y hj hY hY2 hev hn hV H
  have hj:j=V.length:=hj
  subst hj
  rw[List.take_length] at H
  refine B_48_12.intro ?_
  simp only[P_48_12]
  refine Ob ?_
  exact hcont w Y hY2 hY H.drop.drop.drop
 |succ n ih=>
  intro j w Y hj hY hY2 hev hn hV H
  have hjl:j<V.length:=by omega
  have hg:V[j]?=some V[j]:=List.getElem?_eq_getElem hjl
  generalize hx:V[j]=x at hg
  obtain⟨e,he⟩:=hV x (List.mem_of_getElem? hg)
  have hin:∀(W:List Nat) (L:List (Nat×Ent)),x∉W→(x,e)∈L→(x,e)∈outL L W:=by
   intro W
   induction W with
   |nil=>intro L _ h;exact h
   |cons a W ihW=>
    intro L h1 h2
    simp only[List.mem_cons,not_or] at h1
    exact ihW (delL L a) h1.2 (mem_delL.2 ⟨h2,h1.1⟩)
  have hnt:x∉V.take j:=by
   intro hm
   obtain⟨a,ha,e2⟩:=List.getElem_of_mem hm
   rw[List.getElem_take] at e2
   have hal:a<j:=by simp at ha;omega
   have :=(List.getElem_inj (i:=a) (j:=j) (h₀:=by omega) (h₁:=hjl) hn).1 (by rw[e2,hx])
   omega
  have hxe:=hin _ L hnt he
  refine B_48_12.intro ?_
  simp only[P_48_12]
  refine Ob ?_
  refine idxo (v:=v) (E:=u32E) H hjl ?_
  refine L1e (v:=v) (E:=u32E) (j:=0) H hg rfl ?_
  refine c_leave (k:=2) (by decide) hxe (by simp;omega) H.mv3.mv3.mv3 fun w H=>?_
  refine Ob ?_
  rw[show((j:Int)+1)=((j+1:Nat):Int) by simp]
  have e1:delL (outL L (V.take j)) x=outL L (V.take (j+1)):=by
   rw[List.take_add_one,hg]
   simp[outL]
  rw[e1,List.append_assoc] at H
  refine ih (j+1) w (Y++[(2,e,now)]) (by omega) (by simp;omega) ?_ hev hn hV H.mv2.mv2.mv2.mv3
  intro y hy
  rcases List.mem_append.1 hy with hy |hy
  ·exact hY2 y hy
  ·simp at hy;subst hy;rfl
end
end Go.Cub
namespace Go.Cub
open Go Go.Proofs Go.IntWalk
theorem sub_filter {α:Type} {p:α→Bool} {l' l:List α} (h:l'.Sublist l) (hn:l.Nodup) (hp:∀x∈l,x∈l'↔p x=true):l'=l.filter p:=by
 induction h with
 |slnil=>rfl
 |cons a h ih=>
  rename_i l1 l2
  simp only[List.nodup_cons] at hn
  have ha:¬p a=true:=fun hh=>hn.1 (h.subset ((hp a (by simp)).2 hh))
  rw[List.filter_cons,if_neg ha]
  exact ih hn.2 fun x hx=>hp x (by simp[hx])
 |cons_cons a h ih=>
  rename_i l1 l2
  simp only[List.nodup_cons] at hn
  have ha:p a=true:=(hp a (by simp)).1 (by simp)
  rw[List.filter_cons,if_pos ha]
  congr 1
  refine ih hn.2 fun x hx=>?_
  rw[←hp x (by simp[hx])]
  have :x≠a:=fun e=>hn.1 (e ▸ hx)
  simp[this]
theorem nd_map_inj {α β:Type} {f:α→β}:∀ {l:List α},l.Nodup→(∀x∈l,∀y∈l,f x=f y→x=y)→(l.map f).Nodup
 |[],_,_=>by simp
 |a::l,hn,hf=>by
  simp only[List.nodup_cons] at hn
  simp only[List.map_cons,List.nodup_cons]
  refine⟨fun hm=>?_,nd_map_inj hn.2 fun x hx y hy=>hf x (by simp[hx]) y (by simp[hy])⟩
  obtain⟨b,hb,e⟩:=List.mem_map.1 hm
  have :=hf b (by simp[hb]) a (by simp) e
  exact hn.1 (this ▸ hb)
theorem vict_sub {N B:Nat}:∀(l:List (Nat×Nat)) (n c:Nat),(vict N B n c l).Sublist (l.map (·.1))
 |[],n,c=>by simp[vict]
 |x::l,n,c=>by
  simp only[vict,List.map_cons]
  split
  ·exact(vict_sub l _ _).cons_cons _
  ·exact List.nil_sublist _
theorem vict_nil {N B n c:Nat} (h:¬(N<n∨B<c)) (l:List (Nat×Nat)):vict N B n c l=[]:=by
 cases l with
 |nil=>rfl
 |cons x l=>simp only[vict,if_neg h]
def vics (N B keep:Nat) (L:List (Nat×Ent)):List Nat:=vict N B L.length (sumC (aOf L)) ((aOf L).filter fun x=> !decide (x.1=keep))
theorem vics_sub (N B keep:Nat) (L:List (Nat×Ent)):(vics N B keep L).Sublist (L.map (·.1)):=by
 have h:=vict_sub (N:=N) (B:=B) ((aOf L).filter fun x=> !decide (x.1=keep)) L.length (sumC (aOf L))
 have h2:(((aOf L).filter fun x=> !decide (x.1=keep)).map (·.1)).Sublist ((aOf L).map (·.1)):=List.filter_sublist.map _
 have e:(aOf L).map (·.1)=L.map (·.1):=by unfold aOf;rw[List.map_map];rfl
 rw[e] at h2
 exact h.trans h2
section
variable {R:Value→World→Prop} {w:World} {C:List HP} {p N B:Nat} {hs:Nat×Bool} {m bn now to:Nat} {L:List (Nat×Ent)} {ev:List AEv} {eff:Value}
attribute [local irreducible] PV CND GRD L1 LN S1 SN NEW NEWS MKS MKM LK MU DEL LENM APP CPY BTS Call CallV
theorem k_run (hto:to<18446744073709551616) (hev:ev.length+L.length≤1048576) (H:Own w.hp (glb::cac p N B hs m L bn now ev::C))
  (heff:∀w X,X.length+(notDue L (max now to)).length=L.length→(∀x∈X,x.1=1)→Own w.hp (glb::cac p N B hs m (notDue L (max now to)) bn (max now to) (ev++X)::C)→
   CallV Pg eff #[] w fun v w'=>∃keep m2 L2 bn2 ev2 C2,v=.int .u32 (keep:Nat)∧ev2.length+L2.length<1048577∧Own w'.hp (glb::cac p N B hs m2 L2 bn2 (max now to) ev2::C2)∧
    ∀w'' L3 Y,(∀y∈Y,y.1=2)→Y.length=(vics N B keep L2).length→L3.map (·.2)=(outL L2 (vics N B keep L2)).map (·.2)→Own w''.hp (glb::cac p N B hs (2 * (outL L2 (vics N B keep L2)).length+16) L3 bn2 (max now to) (ev2++Y)::C2)→R (.tuple #[]) w''):
  Call Pg 48 #[ptrV p,.int .u64 to,eff] w R:=by
 obtain⟨q,es,⟨hL,hA,hnow,hbn⟩,H⟩:=cac_iff.1 H.mv1
 have H:=tl8.1 H.mv6.mv6.mv6.mv6.mv6.mv6.mv6.mv7
 refine c_48 ?_
 simp only[F_48]
 refine c_leaveF (k:=1) H fun t2 t3 w H=>?_
 (repeat first |refine L1o H rfl ?_ |refine Oc ?_)
 refine k_due_Expire (p:=q.e) (C:=[pt t2 [ptrV p],pt t3 [.int .i64 (1:Nat)],pt p (chC q N B hs),dct q.d hs es,bcn q.b bn,seg q.o (aOf L),bud q.u N B L.length (sumC (aOf L)),dues q.e now (tmOf es),evq q.v ev,.all C]) H.mv10.mv10.mv10.mv10.mv10.mv10.mv10.mv10.mv9.mv9.mv10 hto fun v w D tm' htm hDn hD hDb hDl H=>?_
 have hLn:L.Nodup:=nd_of_map hL.nd
 have hdue:∀x∈L,(∃y∈D,y.1=x.1)↔dueT x.2.dl (max now to)=true:=by
  intro x hx
  have htx:tmOf es x.1=some (x.2.dl,x.2.birth):=hL.tm.2 ⟨x.2,hx,rfl,rfl⟩
  constructor
  ·rintro⟨⟨s,d,n⟩,hy,e1⟩
   have e1:s=x.1:=e1
   have :=(hD s d n).1 hy
   rw[e1,htx] at this
   simp only[Option.some.injEq,Prod.mk.injEq] at this
   rw[this.1.1];exact this.2
  ·intro hdd
   exact⟨(x.1,x.2.dl,x.2.birth),(hD _ _ _).2 ⟨htx,hdd⟩,rfl⟩
 rw[leno (v:=v) H]
 refine Ob ?_
 refine run_expire (now:=max now to) (L:=L) (bn:=bn) (m:=m) (ev:=ev) (p:=p) (q:=q) (N:=N) (B:=B) (hs:=hs) (C:=[glb,.all C]) (D:=D) (tm':=tm') (v:=v) ?_ hDl ?_ D.length 0 w es L [] (by omega) hL (fun x=>by simp) (List.Sublist.refl L) (by simp) (by simp) (by omega) ?_ ?_ ?_
 ·rintro s ⟨⟨s',d,n⟩,hy,e1⟩
  have e1:s'=s:=e1
  have :=(hD s' d n).1 hy
  rw[htm, ←e1,this.1]
  simp only[this.2,if_true]
 ·intro w es' L' Y hL' hmem hsub hY hY1 H
  have hnd:L'=notDue L (max now to):=by
   unfold notDue
   refine sub_filter hsub hLn fun x hx=>?_
   rw[hmem,hdue x hx]
   cases dueT x.2.dl (max now to)<;>simp[hx]
  have hAl:Alive L' (max now to):=by
   intro x hx
   have h1:=hsub.subset hx
   refine⟨(hA x h1).1,?_⟩
   have h2:=(hmem x).1 hx
   rw[hdue x h1] at h2
   simpa using h2.2
  have htmE:tm'=tmOf es':=by
   have key:∀s d n,tm' s=some (d,n)↔tmOf es' s=some (d,n):=by
    intro s d n
    rw[htm,hL'.tm]
    constructor
    ·intro hh
     cases ht:tmOf es s with
     |none=>rw[ht] at hh;cases hh
     |some x=>
      obtain⟨d',n'⟩:=x
      rw[ht] at hh
      simp only at hh
      by_cases hdd:dueT d' (max now to)=true
      ·rw[if_pos hdd] at hh;cases hh
      ·rw[if_neg hdd] at hh
       simp only[Option.some.injEq,Prod.mk.injEq] at hh
       obtain⟨rfl,rfl⟩:=hh
       obtain⟨e,he,e1,e2⟩:=hL.tm.1 ht
       refine⟨e,(hmem _).2 ⟨he,?_⟩,e1,e2⟩
       rw[hdue (s,e) he,show(s,e).2.dl=d' from e1]
       exact hdd
    ·rintro⟨e,he,rfl,rfl⟩
     have h2:=(hmem _).1 he
     rw[hdue _ h2.1] at h2
     have ht:tmOf es s=some (e.dl,e.birth):=hL.tm.2 ⟨e,h2.1,rfl,rfl⟩
     rw[ht]
     simp only
     rw[if_neg h2.2]
   funext s
   cases h1:tm' s with
   |some x=>exact((key s x.1 x.2).1 h1).symm
   |none=>
    cases h2:tmOf es' s with
    |none=>rfl
    |some x=>
     have :=(key s x.1 x.2).2 h2
     rw[h1] at this;cases this
  rw[htmE] at H
  have H:=cac_iff.2 ⟨q,es',⟨hL',hAl,by omega,hbn⟩,H⟩
  rw[hnd] at H hY
  have H:=tl2.2 H.mv1
  refine B_48_2.intro ?_
  simp only[P_48_2]
  refine Ob ?_
  refine CallV.mono (heff w Y hY hY1 H) ?_
  rintro v2 w2 ⟨keep,m2,L2,bn2,ev2,C2,rfl,hle,H,hfin⟩
  obtain⟨q2,es2,⟨hL2,hA2,hnow2,hbn2⟩,H⟩:=cac_iff.1 H.mv1
  have hes2:es2.length≤4194304:=by
   obtain⟨S,_,H⟩:=dct_iff.1 H.mv1
   obtain⟨lg,ix,kk,hh,H⟩:=dctP_iff.1 H
   exact(elog_len H.mv1).1
  (repeat first |refine L1o H rfl ?_ |refine Oc ?_)
  have hA3:(aOf L2).length≤2097152:=by
   have :=(bud_iff.1 H.mv4).1
   simpa[aOf] using this.2.2.1
  have hes3:∀(i:Nat) (e:Ent),es2[i]?=some e→e.birth≠0→EntOk e:=by
   obtain⟨S,_,H⟩:=dct_iff.1 H.mv1
   obtain⟨lg,ix,kk,hh,H⟩:=dctP_iff.1 H
   exact(elog_len H.mv1).2
  have hb3:∀x∈aOf L2,x.2≤1099511627776:=by
   intro x hx
   obtain⟨y,hy,rfl⟩:=List.mem_map.1 hx
   obtain⟨g1,g2⟩:=(hL2.mem y.1 y.2).1 hy
   have ho:=hes3 _ _ g1 g2
   have :=ho.1.2
   have :=ho.2.1
   show costE y.2≤_
   unfold costE;omega
  have hn3:∀x∈aOf L2,x.1<4194304:=by
   intro x hx
   obtain⟨y,hy,rfl⟩:=List.mem_map.1 hx
   have :=lt_of_get ((hL2.mem y.1 y.2).1 hy).1
   show y.1<_
   omega
  have hd3:((aOf L2).map (·.1)).Nodup:=by
   have e:(aOf L2).map (·.1)=L2.map (·.1):=by unfold aOf;rw[List.map_map];rfl
   rw[e];exact hL2.nd
  have hfin16:∀w Y,(∀y∈Y,y.1=2)→Y.length=(vics N B keep L2).length→Own w.hp (cac p N B hs m2 (outL L2 (vics N B keep L2)) bn2 (max now to) (ev2++Y)::glb::C2)→B_48_16 R (ptrV p) w:=by
   intro w Y h1 h2 H
   refine run_16 H fun L3 w e H=>?_
   exact hfin w L3 Y h1 h2 e H.mv1
  have hvn:(vics N B keep L2).Nodup:=(vics_sub N B keep L2).nodup hL2.nd
  have hvm:∀s∈vics N B keep L2,∃e,(s,e)∈L2:=by
   intro s hs
   obtain⟨y,hy,rfl⟩:=List.mem_map.1 ((vics_sub N B keep L2).subset hs)
   exact⟨y.2,hy⟩
  have hvl:(vics N B keep L2).length≤L2.length:=by
   have :=(vics_sub N B keep L2).length_le
   simpa using this
  have hev:∀w v',Own w.hp (sle v' u32E (vict N B (aOf L2).length (sumC (aOf L2)) ((aOf L2).filter fun x=> !decide (x.1=keep)))::cl p q2 N B hs es2 bn2 (aOf L2) L2.length (sumC (aOf L2)) (max now to) (tmOf es2) ev2 (glb::C2))→
    Call Pg 51 #[ptrV p,.int .i64 2] w fun t84 w_11=>
    PV (lenS v') fun t86=>
    B_48_12 R (ptrV p) t84 v' t86 (.int .i64 0) w_11:=by
   intro w v' H
   have e:vict N B (aOf L2).length (sumC (aOf L2)) ((aOf L2).filter fun x=> !decide (x.1=keep))=vics N B keep L2:=by
    unfold vics
    rw[show(aOf L2).length=L2.length by simp[aOf]]
   rw[e] at H
   refine c_leaveF (k:=2) H fun t2 t3 w H=>?_
   rw[leno (v:=v') (E:=u32E) (xs:=vics N B keep L2) H]
   refine Ob ?_
   have H:=H.mv2.mv2.mv2.mv9.mv9.mv9.mv9.mv9.mv9.mv9
   have H:Own w.hp (cac p N B hs m2 L2 bn2 (max now to) ev2::pt t2 [ptrV p]::pt t3 [.int .i64 (2:Nat)]::sle v' u32E (vics N B keep L2)::glb::C2):=cac_iff.2 ⟨q2,es2,⟨hL2,hA2,hnow2,hbn2⟩,H⟩
   refine run_12 (L:=L2) (V:=vics N B keep L2) (m:=m2) (bn:=bn2) (now:=max now to) (ev:=ev2) (N:=N) (B:=B) (hs:=hs) (C:=glb::C2) (by omega) hfin16 (vics N B keep L2).length 0 w [] (by omega) rfl (by simp) (by omega) hvn hvm ?_
   rw[List.append_nil]
   exact H.mv2.mv2.mv3
  refine k_bud_Over (p:=q2.u) H fun w H=>?_
  by_cases h1:N<L2.length
  ·(repeat first |refine L1o H rfl ?_ |refine Oc ?_)
   refine k_seg_List (p:=q2.o) (g:=0) (B:=aOf L2) (w:=w.drew) H (.inl ⟨rfl,rfl⟩) fun v0 w H=>?_
   refine⟨L1o H rfl rfl,L1o H rfl rfl,L1o H rfl rfl,?_⟩
   refine k_seg_List (p:=q2.o) (g:=1) (B:=[]) H (.inr ⟨rfl,rfl⟩) fun v1 w H=>?_
   refine⟨L1o H rfl rfl,L1o H rfl rfl,?_⟩
   refine k_victim_Choose (keep:=keep) (N:=N) (B:=B) hA3 hb3 hn3 hd3 H.mv1 fun v' w H=>?_
   refine Ob ?_
   exact hev w v' H
  ·by_cases h2:B<sumC (aOf L2)
   ·(repeat first |refine L1o H rfl ?_ |refine Oc ?_)
    refine k_seg_List (p:=q2.o) (g:=0) (B:=aOf L2) (w:=w.drew) H (.inl ⟨rfl,rfl⟩) fun v0 w H=>?_
    refine⟨L1o H rfl rfl,L1o H rfl rfl,L1o H rfl rfl,?_⟩
    refine k_seg_List (p:=q2.o) (g:=1) (B:=[]) H (.inr ⟨rfl,rfl⟩) fun v1 w H=>?_
    refine⟨L1o H rfl rfl,L1o H rfl rfl,?_⟩
    refine k_victim_Choose (keep:=keep) (N:=N) (B:=B) hA3 hb3 hn3 hd3 H.mv1 fun v' w H=>?_
    refine Ob ?_
    exact hev w v' H
   ·have hv:vics N B keep L2=[]:=vict_nil (by omega) _
    (repeat first |refine L1o H rfl ?_ |refine Oc ?_)
    refine hfin16 w [] (by simp) (by rw[hv];rfl) ?_
    rw[hv,List.append_nil]
    exact cac_iff.2 ⟨q2,es2,⟨hL2,hA2,hnow2,hbn2⟩,H⟩
 ·refine nd_map_inj hDn fun x hx y hy e1=>?_
  obtain⟨s,d,n⟩:=x
  obtain⟨s',d',n'⟩:=y
  have e1:s=s':=e1
  have a1:=((hD _ _ _).1 hx).1
  have a2:=((hD _ _ _).1 hy).1
  rw[e1,a2] at a1
  simp only[Option.some.injEq,Prod.mk.injEq] at a1
  simp[e1,a1.1,a1.2]
 ·intro y hy
  obtain⟨s,d,n⟩:=y
  obtain⟨h1,h2⟩:=(hD _ _ _).1 hy
  obtain⟨e,he,e1,e2⟩:=hL.tm.1 h1
  exact⟨e,he,by rw[e1];exact h2⟩
 ·rw[List.append_nil]
  exact H.mv11.mv2.mv11.mv11.mv11.mv11.mv11.mv11.mv11.mv11.mv11.mv11
end
end Go.Cub
namespace Go.Cub
open Go Go.Proofs Go.IntWalk
abbrev nobody:Nat:=4294967295
section
variable {R:Value→World→Prop} {w:World} {C:List HP} {u:HP→List HP} {p N B:Nat} {hs:Nat×Bool} {m bn now to:Nat} {L:List (Nat×Ent)} {ev:List AEv} {effV:Value} {key:ByteArray}
attribute [local irreducible] PV CND GRD L1 LN S1 SN NEW NEWS MKS MKM LK MU DEL LENM APP CPY BTS Call CallV
def AftRun (p N B:Nat) (hs:Nat×Bool) (keep:Nat) (L2:List (Nat×Ent)) (bn2 now:Nat) (ev2:List AEv) (C2:List HP) (K:World→Prop):Prop:=
 ∀w'' L3 Y,(∀y∈Y,y.1=2)→Y.length=(vics N B keep L2).length→L3.map (·.2)=(outL L2 (vics N B keep L2)).map (·.2)→Own w''.hp (glb::cac p N B hs (2 * (outL L2 (vics N B keep L2)).length+16) L3 bn2 now (ev2++Y)::C2)→K w''
theorem k_run' {eff:Value} (hto:to<18446744073709551616) (hev:ev.length+L.length≤1048576) (H:Own w.hp (glb::cac p N B hs m L bn now ev::C))
  (heff:∀w X,X.length+(notDue L (max now to)).length=L.length→(∀x∈X,x.1=1)→Own w.hp (glb::cac p N B hs m (notDue L (max now to)) bn (max now to) (ev++X)::C)→
   CallV Pg eff #[] w fun v w'=>∃keep m2 L2 bn2 ev2 C2,v=.int .u32 (keep:Nat)∧ev2.length+L2.length<1048577∧Own w'.hp (glb::cac p N B hs m2 L2 bn2 (max now to) ev2::C2)∧AftRun p N B hs keep L2 bn2 (max now to) ev2 C2 (R (.tuple #[]))):
  Call Pg 48 #[ptrV p,.int .u64 to,eff] w R:=k_run hto hev H heff
theorem k_find (hto:to<18446744073709551616) (hkey:key.size≤1000000) (hev:ev.length+L.length≤1048576) (hfv:effV.cells=#[effV]) (H:Own w.hp (glb::cac p N B hs m L bn now ev::C))
  (h0:∀X,X.length+(notDue L (max now to)).length=L.length→(∀x∈X,x.1=1)→(∀x∈notDue L (max now to),x.2.key≠key)→AftRun p N B hs nobody (notDue L (max now to)) bn (max now to) (ev++X) C (R (.bool false)))
  (h1:∀w X s e Z,X.length+(notDue L (max now to)).length=L.length→(∀x∈X,x.1=1)→(s,e)∈notDue L (max now to)→e.key=key→Own w.hp (glb::cac p N B hs m (notDue L (max now to)) bn (max now to) (ev++X)::Z::C)→
   CallV Pg effV #[.int .u32 s] w fun _ w'=>∃m2 L2 bn2 ev2 C2,ev2.length+L2.length<1048577∧Own w'.hp (glb::cac p N B hs m2 L2 bn2 (max now to) ev2::Z::C2)∧AftRun p N B hs nobody L2 bn2 (max now to) ev2 C2 (R (.bool true))):
  Call Pg 127 #[ptrV p,.int .u64 to,.string key,effV] w R:=by
 refine c_127 ?_
 simp only[F_127]
 have H:=tl2.1 H
 refine NEWo H fun t4 w H=>?_
 refine NEWo H fun t6 w H=>?_
 refine NEWo H fun t7 w H=>?_
 refine NEWo H fun t8 w H=>?_
 rw[hfv] at H
 have H:Own w.hp [pt t8 [.bool false],pt t7 [effV],pt t6 [.string key],pt t4 [ptrV p],glb,cac p N B hs m L bn now ev,.all C]:=H
 (repeat first |refine L1o H rfl ?_ |refine Oc ?_)
 have fin:∀(b:Bool) (w:World) (C':List HP),Own w.hp (pt t8 [.bool b]::C')→(∀w',Own w'.hp C'→R (.bool b) w')→L1 (ptrV t8) w fun t13=>
   S1 (ptrV t8) t13 w fun w_6=>
   L1 (ptrV t8) w_6 fun r8=>
   R r8 w_6:=by
  intro b w C' H h
  (repeat first |refine L1o H rfl ?_ |refine Oc ?_)
  refine S1o H rfl rfl fun w H=>?_
  (repeat first |refine L1o H rfl ?_ |refine Oc ?_)
  exact h w H.drop
 refine k_run' hto hev (C:=[pt t8 [.bool false],pt t7 [effV],pt t6 [.string key],pt t4 [ptrV p],.all C]) H.mv6.mv4.mv4.mv4.mv4.mv6.mv6 fun w X hX hX1 H=>?_
 refine callV_fn (Tryz.calOk _ (by rfl)) ?_
 show Call Pg 205 #[ptrV t4,ptrV t6,ptrV t8,ptrV t7] w _
 refine c_205 ?_
 simp only[F_205]
 obtain⟨q,es,⟨hL,hA,hnow,hbn⟩,H⟩:=cac_iff.1 H.mv1
 have hlen:=List.length_filter_le (fun x:Nat×Ent=> !dueT x.2.dl (max now to)) L
 (repeat first |refine L1o H rfl ?_ |refine Oc ?_)
 refine k_dict_Find (p:=q.d) (w:=w.drew) hkey H (fun w hnf H=>?_) (fun w i e hi hb hke H=>?_)
 ·have H:=cac_iff.2 ⟨q,es,⟨hL,hA,hnow,hbn⟩,H⟩
  (repeat first |refine L1o H rfl ?_ |refine Oc ?_)
  refine S1o H rfl rfl fun w H=>?_
  (repeat first |refine L1o H rfl ?_ |refine Oc ?_)
  refine⟨nobody,m,notDue L (max now to),bn,ev++X,[pt t8 [.bool false],pt t7 [effV],pt t6 [.string key],pt t4 [ptrV p],.all C],rfl,by simp;omega,H.mv1,?_⟩
  intro w'' L3 Y hY2 hY hL3 H
  refine fin false w'' _ H.mv2 fun w' H=>?_
  have H:=H.mv5.mv2.mv2.dp3.dp3.dp3
  refine h0 X hX hX1 ?_ w' L3 Y hY2 hY hL3 (tl2.2 H)
  intro x hx hk
  obtain⟨g1,g2⟩:=(hL.mem x.1 x.2).1 hx
  exact hnf _ _ g1 g2 hk
 ·have H:=cac_iff.2 ⟨q,es,⟨hL,hA,hnow,hbn⟩,H⟩
  (repeat first |refine L1o H rfl ?_ |refine Oc ?_)
  refine S1o H rfl rfl fun w H=>?_
  (repeat first |refine L1o H rfl ?_ |refine Oc ?_)
  have H:=tl6.2 H.mv6.mv1.mv2.mv6.mv6.mv6.mv6
  have H:Own w.hp (.all [pt t8 [.bool true],pt t7 [effV],pt t6 [.string key],pt t4 [ptrV p]]::glb::cac p N B hs m (notDue L (max now to)) bn (max now to) (ev++X)::C):=all4.2 H
  refine CallV.mono (h1 w X i e _ hX hX1 ((hL.mem i e).2 ⟨hi,hb⟩) hke H.bk2) ?_
  rintro v w' ⟨m2,L2,bn2,ev2,C2,hle,H,hfin⟩
  refine⟨nobody,m2,L2,bn2,ev2,_,rfl,hle,H,?_⟩
  intro w'' L3 Y hY2 hY hL3 H
  have H:=all4.1 H.mv2
  refine fin true w'' _ H fun w' H=>?_
  exact hfin w' L3 Y hY2 hY hL3 H.drop.drop.drop
end
end Go.Cub
namespace Go.Cub
open Go Go.Proofs Go.IntWalk
section
variable {m bn now s i:Nat} {es:List Ent} {L:List (Nat×Ent)} {e e':Ent}
theorem births_set:∀ {es:List Ent} {i:Nat},es[i]?=some e→e'.birth=e.birth→((es.set i e').filter fun e=>decide (e.birth≠0)).map (·.birth)=(es.filter fun e=>decide (e.birth≠0)).map (·.birth)
 |[],i,h,_=>by simp at h
 |a::es,0,h,hb=>by
  simp only[List.getElem?_cons_zero,Option.some.injEq] at h
  subst h
  simp only[List.set_cons_zero,List.filter_cons,hb]
  split
  ·simp[hb]
  ·rfl
 |a::es,i+1,h,hb=>by
  have ih:=births_set (es:=es) (i:=i) (by simpa using h) hb
  simp only[List.set_cons_succ,List.filter_cons]
  split
  ·simp only[List.map_cons,ih]
  ·exact ih
def useL (L:List (Nat×Ent)) (s:Nat) (e':Ent):List (Nat×Ent):=delL L s++[(s,e')]
theorem LOk.put (h:LOk m es L bn) (hi:(i,e)∈L) (hb:e'.birth=e.birth):LOk m (es.set i e') (useL L i e') bn:=by
 obtain⟨hg,hbe⟩:=(h.mem i e).1 hi
 refine {nd:=?_,mem:=?_,len:=by simpa using h.len,srt:=?_,bn:=?_}
 ·unfold useL
  rw[List.map_append,List.nodup_append]
  refine⟨(List.filter_sublist.map _).nodup h.nd,by simp,?_⟩
  intro a ha b hb' e1
  obtain⟨x,hx,rfl⟩:=List.mem_map.1 ha
  simp only[List.map_cons,List.map_nil,List.mem_singleton] at hb'
  exact(mem_delL.1 hx).2 (e1.trans hb')
 ·intro s x
  unfold useL
  rw[List.mem_append,mem_delL,h.mem,List.mem_singleton]
  constructor
  ·rintro(⟨⟨h1,h2⟩,h3⟩ |h1)
   ·exact⟨by rw[List.getElem?_set_ne (Ne.symm h3)];exact h1,h2⟩
   ·simp only[Prod.mk.injEq] at h1
    obtain⟨rfl,rfl⟩:=h1
    exact⟨List.getElem?_set_self (lt_of_get hg),by rw[hb];exact hbe⟩
  ·rintro⟨h1,h2⟩
   rcases get_set hg h1 with ⟨rfl,rfl⟩ |⟨h3,h4⟩
   ·exact .inr rfl
   ·exact .inl ⟨⟨h4,h2⟩,h3⟩
 ·have hs:=h.srt
  rw[liveE_eq] at hs ⊢
  rw[births_set hg hb]
  exact hs
 ·intro x hx
  unfold useL at hx
  rcases List.mem_append.1 hx with hx |hx
  ·exact h.bn x (mem_delL.1 hx).1
  ·simp only[List.mem_singleton] at hx
   subst hx
   show e'.birth≤bn
   rw[hb]
   exact h.bn (i,e) hi
theorem set_same (hg:es[i]?=some e):es.set i e=es:=by
 apply List.ext_getElem?
 intro j
 by_cases h:j=i
 ·subst h
  rw[List.getElem?_set_self (lt_of_get hg),hg]
 ·rw[List.getElem?_set_ne (Ne.symm h)]
theorem tmOf_put (hg:es[i]?=some e) (hb:e'.birth≠0):tmOf (es.set i e')=upd (tmOf es) i (some (e'.dl,e'.birth)):=by
 funext t
 simp only[upd,tmOf]
 by_cases h:t=i
 ·subst h
  rw[List.getElem?_set_self (lt_of_get hg)]
  simp[hb]
 ·rw[List.getElem?_set_ne (Ne.symm h),if_neg h]
theorem useL_len (hn:(L.map (·.1)).Nodup) (hi:(i,e)∈L):(useL L i e').length=L.length∧sumC (aOf (useL L i e'))=sumC (aOf L) - costE e+costE e'∧costE e≤sumC (aOf L)∧1≤L.length:=by
 obtain⟨h1,h2⟩:=delL_len hn hi
 refine⟨by simp[useL];omega,?_,by omega,by omega⟩
 have :sumC (aOf (useL L i e'))=sumC (aOf (delL L i))+costE e':=by
  simp[useL,aOf,sumC]
 omega
theorem one_sum (hi:(i,e)∈L):L.length=1→sumC (aOf L)=costE e:=by
 intro h1
 match L,h1,hi with
 |[x],_,hi=>
  simp only[List.mem_singleton] at hi
  subst hi
  simp[aOf,sumC]
theorem aOf_use:delS (aOf L) i++[(i,costE e')]=aOf (useL L i e'):=by
 rw[delS_aOf]
 simp[useL,aOf]
end
section
variable {R:Value→World→Prop} {w:World} {C:List HP} {u:HP→List HP} {p N B:Nat} {q:Pts} {hs:Nat×Bool} {m bn now to i:Nat} {es:List Ent} {L:List (Nat×Ent)} {ev:List AEv} {e e':Ent}
attribute [local irreducible] PV CND GRD L1 LN S1 SN NEW NEWS MKS MKM LK MU DEL LENM APP CPY BTS Call CallV
theorem cl_facts {h:Hp} {A:List (Nat×Nat)} {c s:Nat} {tm:Tm} (H:Own h (cl p q N B hs es bn A c s now tm ev C)):(es.length≤4194304∧∀(i:Nat) (e:Ent),es[i]?=some e→e.birth≠0→EntOk e)∧((1≤N∧N≤1048576)∧1≤B∧B≤1099511627776)∧c≤2097152∧s≤2305843009213693952:=by
 refine⟨?_,?_⟩
 ·obtain⟨S,_,H⟩:=dct_iff.1 H.mv1
  obtain⟨lg,ix,kk,hh,H⟩:=dctP_iff.1 H
  exact elog_len H.mv1
 ·have :=(bud_iff.1 H.mv4).1
  exact⟨⟨this.1,this.2.1⟩,this.2.2.1,this.2.2.2⟩
theorem costE_le (h:EntOk e):costE e≤65834:=by
 have :=h.1.2
 have :=h.2.1
 unfold costE;omega
theorem use_go (hL:LOk m es L bn) (hi:(i,e)∈L) (hok0:EntOk e) (hok:EntOk e') (hb:e'.birth=e.birth) (hsum:sumC (aOf L) - costE e+costE e'≤2305843009213693952) (hA:Alive (useL L i e') now) (hnow:now<18446744073709551616) (hbn:bn<18446744073709551615)
  (H:Own w.hp (cl p q N B hs (es.set i e') bn (aOf L) L.length (sumC (aOf L)) now (tmOf (es.set i e')) ev C))
  (h:∀w',Own w'.hp (cac p N B hs m (useL L i e') bn now ev::C)→R (.tuple #[]) w'):Call Pg 130 #[ptrV p,.int .u32 i,.int .i64 (costE e')] w R:=by
 obtain⟨f1,f2,f3,f4⟩:=cl_facts H
 obtain⟨g1,g2,g3,g4⟩:=useL_len (e':=e') hL.nd hi
 have hc1:=costE_le hok
 have hc0:=costE_le hok0
 refine c_use (q:=q) (A:=aOf L) (cst_aOf hL.nd hi) f2 ⟨g4,f3⟩ g3 (one_sum hi) hsum (by omega) (by omega) H fun w H=>?_
 rw[aOf_use, ←g2, ←g1] at H
 exact h w (cac_iff.2 ⟨q,_,⟨hL.put hi hb,hA,hnow,hbn⟩,H⟩)
end
end Go.Cub
namespace Go.Cub
open Go Go.Proofs Go.IntWalk
def keyErr (key:ByteArray):Int:=if 0<key.size∧key.size≤250 then 0 else 2
section
variable {R:Value→World→Prop} {w:World} {C:List HP} {u:HP→List HP} {p N B:Nat} {q:Pts} {hs:Nat×Bool} {m bn now to i:Nat} {es:List Ent} {L:List (Nat×Ent)} {ev:List AEv} {e e':Ent} {key:ByteArray}
attribute [local irreducible] PV CND GRD L1 LN S1 SN NEW NEWS MKS MKM LK MU DEL LENM APP CPY BTS Call CallV
theorem c_keyed (h:R (.int .i64 (keyErr key)) w):Call Pg 126 #[.string key] w R:=by
 refine c_126 ?_
 simp only[F_126]
 refine c_entry_ValidKey ?_
 refine c_132 ?_
 simp only[F_132]
 unfold keyErr at h
 by_cases hk:0<key.size∧key.size≤250
 ·rw[if_pos hk] at h
  simp only[hk]
  refine Ob ?_
  exact h
 ·rw[if_neg hk] at h
  have :decide (0<key.size∧key.size≤250)=false:=by simpa using hk
  rw[this]
  refine Ob ?_
  exact h
theorem c_nothing {K:Value→World→Prop} (h:K (.int .u32 (nobody:Nat)) w):CallV Pg (.func (.func 58) #[] #[]) #[] w K:=by
 refine callV_fn (Tryz.calOk _ (by rfl)) ?_
 show Call Pg 58 #[] w _
 refine c_58 ?_
 exact h
theorem k_runN (hto:to<18446744073709551616) (hev:ev.length+L.length≤1048576) (H:Own w.hp (glb::cac p N B hs m L bn now ev::C))
  (h:∀X,X.length+(notDue L (max now to)).length=L.length→(∀x∈X,x.1=1)→AftRun p N B hs nobody (notDue L (max now to)) bn (max now to) (ev++X) C (R (.tuple #[]))):
  Call Pg 48 #[ptrV p,.int .u64 to,.func (.func 58) #[] #[]] w R:=by
 refine k_run' hto hev H fun w X hX hX1 H=>?_
 refine c_nothing ?_
 exact⟨nobody,m,_,bn,ev++X,C,rfl,by simp;omega,H,h X hX hX1⟩
theorem k_Advance (hto:to<18446744073709551616) (hev:ev.length+L.length≤1048576) (H:Own w.hp (glb::cac p N B hs m L bn now ev::C))
  (h:∀X,X.length+(notDue L (max now to)).length=L.length→(∀x∈X,x.1=1)→AftRun p N B hs nobody (notDue L (max now to)) bn (max now to) (ev++X) C (R (.int .i64 0))):Call Pg 28 #[ptrV p,.int .u64 to] w R:=by
 refine c_28 ?_
 simp only[F_28]
 refine k_check (p:=p) (xs:=[]) (sl_nil i64E H) (by simp) hev fun w H=>?_
 rw[show firstE ([]++[0])=0 from rfl]
 refine Ob ?_
 exact k_runN hto hev H h
theorem k_Compact (hto:to<18446744073709551616) (hev:ev.length+L.length≤1048576) (H:Own w.hp (glb::cac p N B hs m L bn now ev::C))
  (h:∀X,X.length+(notDue L (max now to)).length=L.length→(∀x∈X,x.1=1)→AftRun p N B hs nobody (notDue L (max now to)) bn (max now to) (ev++X) C (R (.int .i64 0))):Call Pg 27 #[ptrV p,.int .u64 to] w R:=by
 refine c_27 ?_
 simp only[F_27]
 refine k_check (p:=p) (xs:=[]) (sl_nil i64E H) (by simp) hev fun w H=>?_
 rw[show firstE ([]++[0])=0 from rfl]
 refine Ob ?_
 refine k_runN hto hev H fun X hX hX1 w'' L3 Y hY2 hY hL3 H=>?_
 refine k_pack (p:=p) (C:=glb::cac p N B hs _ L3 bn (max now to) _::C) H fun L4 w e H=>?_
 have hl:L3.length=(outL (notDue L (max now to)) (vics N B nobody (notDue L (max now to)))).length:=by
  have :=congrArg List.length hL3
  simpa using this
 exact h X hX hX1 w L4 Y hY2 hY (e.trans hL3) (cac_weak (by omega) H.mv1).mv1
theorem k_Len [f:Foc C (.b p) (cac p N B hs m L bn now ev) u] (H:Own w.hp C) (h:R (.int .i64 L.length) w):Call Pg 22 #[ptrV p] w R:=by
 refine c_22 ?_
 simp only[F_22]
 refine k_none (p:=p) H ?_
 obtain⟨q,es,⟨hL,hA,hnow,hbn⟩,H⟩:=cac_iff.1 (f.get H)
 (repeat first |refine L1o H rfl ?_ |refine Oc ?_)
 refine k_dict_Len (p:=q.d) H ?_
 rw[live_len hL]
 exact h
theorem k_Now [f:Foc C (.b p) (cac p N B hs m L bn now ev) u] (H:Own w.hp C) (h:R (.int .u64 now) w):Call Pg 20 #[ptrV p] w R:=by
 refine c_20 ?_
 simp only[F_20]
 refine k_none (p:=p) H ?_
 obtain⟨q,es,⟨hL,hA,hnow,hbn⟩,H⟩:=cac_iff.1 (f.get H)
 (repeat first |refine L1o H rfl ?_ |refine Oc ?_)
 exact k_due_Now (p:=q.e) H h
theorem k_Cost [f:Foc C (.b p) (cac p N B hs m L bn now ev) u] (H:Own w.hp C) (h:∀w',Own w'.hp (u (cac p N B hs m L bn now ev))→R (.int .i64 (sumC (aOf L))) w'):Call Pg 23 #[ptrV p] w R:=by
 refine c_23 ?_
 simp only[F_23]
 refine k_none (p:=p) H ?_
 obtain⟨q,es,⟨hL,hA,hnow,hbn⟩,H⟩:=cac_iff.1 (f.get H)
 (repeat first |refine L1o H rfl ?_ |refine Oc ?_)
 refine k_bud_Total (p:=q.u) H fun w H=>?_
 refine Ob ?_
 exact h w (f.put (cac_iff.2 ⟨q,es,⟨hL,hA,hnow,hbn⟩,H⟩))
theorem k_Drain [f:Foc C (.b p) (cac p N B hs m L bn now ev) u] (H:Own w.hp C) (h:∀s' xs w',xs.map evA=ev→Own w'.hp (sle s' evE xs::imL (xs.map evB)::u (cac p N B hs m L bn now []))→R s' w'):Call Pg 21 #[ptrV p] w R:=by
 refine c_21 ?_
 simp only[F_21]
 refine k_none (p:=p) H ?_
 obtain⟨q,es,⟨hL,hA,hnow,hbn⟩,H⟩:=cac_iff.1 (f.get H)
 (repeat first |refine L1o H rfl ?_ |refine Oc ?_)
 refine k_evq_Len (p:=q.v) (w:=w.drew) H ?_
 refine⟨L1o H rfl rfl,?_⟩
 refine k_evq_Take (p:=q.v) (w:=w.drew) H (Int.le_refl _) fun s' xs w hx H=>?_
 refine Ob ?_
 have H:=H.mv1.mv1.mv8.mv8.mv8.mv8.mv8.mv8.mv8
 have H:=cac_iff.2 ⟨q,es,⟨hL,hA,hnow,hbn⟩,H⟩
 exact h s' xs w hx (f.put2 H.bk2)
end
end Go.Cub
namespace Go.Cub
open Go Go.Proofs Go.IntWalk
section
variable {R:Value→World→Prop} {w:World} {C:List HP} {u:HP→List HP} {p N B:Nat} {q:Pts} {hs:Nat×Bool} {m bn now to i:Nat} {es:List Ent} {L:List (Nat×Ent)} {ev:List AEv} {e e':Ent} {key:ByteArray}
attribute [local irreducible] PV CND GRD L1 LN S1 SN NEW NEWS MKS MKM LK MU DEL LENM APP CPY BTS Call CallV
theorem alive_use (hA:Alive L now) (hd:e'.dl<18446744073709551616∧dueT e'.dl now=false):Alive (useL L i e') now:=by
 intro x hx
 unfold useL at hx
 rcases List.mem_append.1 hx with hx |hx
 ·exact hA x (mem_delL.1 hx).1
 ·simp only[List.mem_singleton] at hx
  subst hx
  exact hd
theorem use_same (hi:(i,e)∈L) (H:Own w.hp (cac p N B hs m L bn now ev::C)) (h:∀w',Own w'.hp (cac p N B hs m (useL L i e) bn now ev::C)→R (.tuple #[]) w'):Call Pg 130 #[ptrV p,.int .u32 i,.int .i64 (costE e)] w R:=by
 obtain⟨q,es,⟨hL,hA,hnow,hbn⟩,H⟩:=cac_iff.1 H
 obtain⟨f1,f2,f3,f4⟩:=cl_facts H
 obtain⟨g1,g2,g3,g4⟩:=useL_len (e':=e) hL.nd hi
 obtain⟨hg,hb⟩:=(hL.mem i e).1 hi
 have hok:=f1.2 i e hg hb
 refine use_go (q:=q) (es:=es) hL hi hok hok rfl (by omega) (alive_use hA (hA _ hi)) hnow hbn (by rw[set_same hg];exact H) h
theorem k_Get (hto:to<18446744073709551616) (hev:ev.length+L.length≤1048576) (H:Own w.hp (glb::cac p N B hs m L bn now ev::C)) (hk:key.size≤1000000)
  (hbad:keyErr key≠0→∀w',Own w'.hp (glb::cac p N B hs m L bn now ev::C)→R (.tuple #[.slice none 0 0,.bool false,.int .i64 (keyErr key)]) w')
  (h0:keyErr key=0→∀X,X.length+(notDue L (max now to)).length=L.length→(∀x∈X,x.1=1)→(∀x∈notDue L (max now to),x.2.key≠key)→AftRun p N B hs nobody (notDue L (max now to)) bn (max now to) (ev++X) C (R (.tuple #[.slice none 0 0,.bool false,.int .i64 0])))
  (h1:keyErr key=0→∀X s e v,X.length+(notDue L (max now to)).length=L.length→(∀x∈X,x.1=1)→(s,e)∈notDue L (max now to)→e.key=key→AftRun p N B hs nobody (useL (notDue L (max now to)) s e) bn (max now to) (ev++X) (imm (svV v) e.val::C) (R (.tuple #[svV v,.bool true,.int .i64 0]))):
  Call Pg 66 #[ptrV p,.int .u64 to,.string key] w R:=by
 refine c_66 ?_
 simp only[F_66]
 have H:=tl2.1 H
 refine NEWo H fun t3 w H=>?_
 have H:Own w.hp [pt t3 [ptrV p],glb,cac p N B hs m L bn now ev,.all C]:=H
 (repeat first |refine L1o H rfl ?_ |refine Oc ?_)
 refine c_keyed ?_
 refine⟨L1o (w:=w.drew) H rfl rfl,?_⟩
 refine NEWSo (w:=w.drew) i64E [keyErr key] H (cs:=#[.int .i64 (keyErr key)]) rfl rfl rfl fun tt w H=>?_
 refine⟨L1o H rfl rfl,?_⟩
 refine k_check (p:=p) H (by simp) hev fun w H=>?_
 by_cases hz:keyErr key=0
 ·have e0:firstE ([keyErr key]++[0])=0:=by rw[hz];rfl
  rw[e0]
  refine Ob ?_
  refine NEWo H fun t10 w H=>?_
  have H:Own w.hp [pt t10 [.string ⟨#[]⟩,.slice none 0 0,.int .u64 0,.int .u64 0],pt t3 [ptrV p],glb,cac p N B hs m L bn now ev,.all C]:=H
  (repeat first |refine L1o H rfl ?_ |refine Oc ?_)
  refine k_find (C:=[pt t10 [.string ⟨#[]⟩,.slice none 0 0,.int .u64 0,.int .u64 0],pt t3 [ptrV p],.all C]) hto hk hev rfl H.mv4.mv2.mv2.mv4.mv4 (fun X hX hX1 hn=>?_) (fun w X s e Z hX hX1 hs' hke H=>?_)
  ·intro w'' L3 Y hY2 hY hL3 H
   (repeat first |refine L1o H rfl ?_ |refine Oc ?_)
   exact h0 hz X hX hX1 hn w'' L3 Y hY2 hY hL3 (tl2.2 H.mv4.mv2.mv2.dp3.dp3)
  ·refine callV_fn (Tryz.calOk _ (by rfl)) ?_
   show Call Pg 128 #[.int .u32 s,ptrV t3,ptrV t10] w _
   refine c_128 ?_
   simp only[F_128]
   have hlen:=List.length_filter_le (fun x:Nat×Ent=> !dueT x.2.dl (max now to)) L
   obtain⟨q,es,⟨hL,hA,hnow,hbn⟩,H⟩:=cac_iff.1 H.mv1
   obtain⟨hg,hb⟩:=(hL.mem s e).1 hs'
   (repeat first |refine L1o H rfl ?_ |refine Oc ?_)
   refine k_dict_Get (p:=q.d) H hg hb fun v w H=>?_
   refine Ob ?_
   refine SNo H rfl (by simp) (by simp[entV,svV,Value.oneCell']) fun w H=>?_
   (repeat first |refine L1o H rfl ?_ |refine Oc ?_)
   refine k_seg_Of (p:=q.o) H (cst_aOf hL.nd hs') ?_
   (repeat first |refine L1o H rfl ?_ |refine Oc ?_)
   have H:=H.mv12.mv12.mv12.mv12.mv12.mv5.mv12.mv12.mv12.mv12.mv12.mv12.mv12
   have H:=cac_iff.2 ⟨q,es,⟨hL,hA,hnow,hbn⟩,H⟩
   refine use_same hs' H fun w H=>?_
   refine⟨m,_,bn,ev++X,_,?_,H.mv6.mv6.mv6.mv4.mv6.mv5.mv6,?_⟩
   ·have :=(useL_len (e':=e) hL.nd hs').1
    rw[this]
    simp;omega
   ·intro w'' L3 Y hY2 hY hL3 H
    have H:Own w''.hp [glb,cac p N B hs _ L3 bn (max now to) _,imm (svV v) e.val,pt t10 [.string e.key,svV v,.int .u64 e.dl,.int .u64 e.birth],pt t3 [ptrV p],.all C]:=H
    (repeat first |refine L1o H rfl ?_ |refine Oc ?_)
    exact h1 hz X s e v hX hX1 hs' hke w'' L3 Y hY2 hY hL3 (tl3.2 H.mv5.mv3.mv3.mv3.dp4.dp4)
 ·have e0:firstE ([keyErr key]++[0])=keyErr key:=by simp[firstE,hz]
  rw[e0]
  refine Ob ?_
  exact hbad hz w (tl2.2 H.mv3.mv3.mv3.dp3)
theorem k_Peek (hto:to<18446744073709551616) (hev:ev.length+L.length≤1048576) (H:Own w.hp (glb::cac p N B hs m L bn now ev::C)) (hk:key.size≤1000000)
  (hbad:keyErr key≠0→∀w',Own w'.hp (glb::cac p N B hs m L bn now ev::C)→R (.tuple #[entV ent0 sv0,.bool false,.int .i64 (keyErr key)]) w')
  (h0:keyErr key=0→∀X,X.length+(notDue L (max now to)).length=L.length→(∀x∈X,x.1=1)→(∀x∈notDue L (max now to),x.2.key≠key)→AftRun p N B hs nobody (notDue L (max now to)) bn (max now to) (ev++X) C (R (.tuple #[entV ent0 sv0,.bool false,.int .i64 0])))
  (h1:keyErr key=0→∀X s e v,X.length+(notDue L (max now to)).length=L.length→(∀x∈X,x.1=1)→(s,e)∈notDue L (max now to)→e.key=key→AftRun p N B hs nobody (notDue L (max now to)) bn (max now to) (ev++X) (imm (svV v) e.val::C) (R (.tuple #[entV e v,.bool true,.int .i64 0]))):
  Call Pg 67 #[ptrV p,.int .u64 to,.string key] w R:=by
 refine c_67 ?_
 simp only[F_67]
 have H:=tl2.1 H
 refine NEWo H fun t3 w H=>?_
 refine NEWo H fun t6 w H=>?_
 have H:Own w.hp [pt t6 [.string ⟨#[]⟩,.slice none 0 0,.int .u64 0,.int .u64 0],pt t3 [ptrV p],glb,cac p N B hs m L bn now ev,.all C]:=H
 (repeat first |refine L1o H rfl ?_ |refine Oc ?_)
 refine c_keyed ?_
 refine⟨L1o (w:=w.drew) H rfl rfl,?_⟩
 refine NEWSo (w:=w.drew) i64E [keyErr key] H (cs:=#[.int .i64 (keyErr key)]) rfl rfl rfl fun tt w H=>?_
 refine⟨L1o H rfl rfl,?_⟩
 refine k_check (p:=p) H (by simp) hev fun w H=>?_
 by_cases hz:keyErr key=0
 ·have e0:firstE ([keyErr key]++[0])=0:=by rw[hz];rfl
  rw[e0]
  refine Ob ?_
  refine NEWo H fun t10 w H=>?_
  have H:Own w.hp [pt t10 [.string ⟨#[]⟩,.slice none 0 0,.int .u64 0,.int .u64 0],pt t6 [.string ⟨#[]⟩,.slice none 0 0,.int .u64 0,.int .u64 0],pt t3 [ptrV p],glb,cac p N B hs m L bn now ev,.all C]:=H
  (repeat first |refine L1o H rfl ?_ |refine Oc ?_)
  refine k_find (C:=[pt t10 [.string ⟨#[]⟩,.slice none 0 0,.int .u64 0,.int .u64 0],pt t6 [.string ⟨#[]⟩,.slice none 0 0,.int .u64 0,.int .u64 0],pt t3 [ptrV p],.all C]) hto hk hev rfl H.mv5.mv3.mv3.mv3.mv5.mv5 (fun X hX hX1 hn=>?_) (fun w X s e Z hX hX1 hs' hke H=>?_)
  ·intro w'' L3 Y hY2 hY hL3 H
   refine LNo H (by simp) ?_
   refine SNo H rfl (by simp) (by simp[Value.oneCell']) fun w H=>?_
   refine LNo H (by simp[splice]) ?_
   exact h0 hz X hX hX1 hn w L3 Y hY2 hY hL3 (tl2.2 H.mv5.mv2.mv2.dp3.dp3.dp3)
  ·refine callV_fn (Tryz.calOk _ (by rfl)) ?_
   show Call Pg 131 #[.int .u32 s,ptrV t3,ptrV t10] w _
   refine c_131 ?_
   simp only[F_131]
   have hlen:=List.length_filter_le (fun x:Nat×Ent=> !dueT x.2.dl (max now to)) L
   obtain⟨q,es,⟨hL,hA,hnow,hbn⟩,H⟩:=cac_iff.1 H.mv1
   obtain⟨hg,hb⟩:=(hL.mem s e).1 hs'
   (repeat first |refine L1o H rfl ?_ |refine Oc ?_)
   refine k_dict_Get (p:=q.d) H hg hb fun v w H=>?_
   refine Ob ?_
   refine SNo H rfl (by simp) (by simp[entV,svV,Value.oneCell']) fun w H=>?_
   have H:=H.mv13.mv13.mv13.mv13.mv13.mv13.mv6.mv13.mv13.mv13.mv13.mv13.mv13.mv13
   have H:=cac_iff.2 ⟨q,es,⟨hL,hA,hnow,hbn⟩,H⟩
   refine⟨m,_,bn,ev++X,_,by simp;omega,H.mv7.mv7.mv7.mv7.mv5.mv7.mv6.mv7,?_⟩
   ·intro w'' L3 Y hY2 hY hL3 H
    have H:Own w''.hp [glb,cac p N B hs _ L3 bn (max now to) _,imm (svV v) e.val,pt t10 [.string e.key,svV v,.int .u64 e.dl,.int .u64 e.birth],pt t6 [.string ⟨#[]⟩,.slice none 0 0,.int .u64 0,.int .u64 0],pt t3 [ptrV p],.all C]:=H
    refine LNo H (by simp) ?_
    refine SNo H rfl (by simp) (by simp[svV,Value.oneCell']) fun w H=>?_
    refine LNo H (by simp[splice]) ?_
    exact h1 hz X s e v hX hX1 hs' hke w L3 Y hY2 hY hL3 (tl3.2 H.mv6.mv3.mv3.mv3.dp4.dp4.dp4)
 ·have e0:firstE ([keyErr key]++[0])=keyErr key:=by simp[firstE,hz]
  rw[e0]
  refine Ob ?_
  refine PV_of (v:=.agg #[.string ⟨#[]⟩,.slice none 0 0,.int .u64 0,.int .u64 0]) rfl ?_
  refine SNo H rfl (by simp) (by simp[Value.oneCell']) fun w H=>?_
  refine LNo H (by simp[splice]) ?_
  exact hbad hz w (tl2.2 H.mv4.mv4.mv4.dp3.dp3)
theorem k_Delete (hto:to<18446744073709551616) (hev:ev.length+L.length≤1048576) (hevs:ev.length<524288) (hLs:L.length<524288) (H:Own w.hp (glb::cac p N B hs m L bn now ev::C)) (hk:key.size≤1000000)
  (hbad:keyErr key≠0→∀w',Own w'.hp (glb::cac p N B hs m L bn now ev::C)→R (.tuple #[.bool false,.int .i64 (keyErr key)]) w')
  (h0:keyErr key=0→∀X,X.length+(notDue L (max now to)).length=L.length→(∀x∈X,x.1=1)→(∀x∈notDue L (max now to),x.2.key≠key)→AftRun p N B hs nobody (notDue L (max now to)) bn (max now to) (ev++X) C (R (.tuple #[.bool false,.int .i64 0])))
  (h1:keyErr key=0→∀X s e,X.length+(notDue L (max now to)).length=L.length→(∀x∈X,x.1=1)→(s,e)∈notDue L (max now to)→e.key=key→AftRun p N B hs nobody (delL (notDue L (max now to)) s) bn (max now to) (ev++X++[(4,e,max now to)]) C (R (.tuple #[.bool true,.int .i64 0]))):
  Call Pg 69 #[ptrV p,.int .u64 to,.string key] w R:=by
 refine c_69 ?_
 simp only[F_69]
 have H:=tl2.1 H
 refine c_keyed ?_
 refine NEWSo i64E [keyErr key] H (cs:=#[.int .i64 (keyErr key)]) rfl rfl rfl fun tt w H=>?_
 refine k_check (p:=p) H (by simp) hev fun w H=>?_
 by_cases hz:keyErr key=0
 ·have e0:firstE ([keyErr key]++[0])=0:=by rw[hz];rfl
  rw[e0]
  refine Ob ?_
  refine c_leaveF (k:=4) H fun t2 t3 w H=>?_
  refine k_find (C:=[pt t2 [ptrV p],pt t3 [.int .i64 (4:Nat)],.all C]) hto hk hev rfl H.mv4.mv2.mv2.mv4.mv4 (fun X hX hX1 hn=>?_) (fun w X s e Z hX hX1 hs' hke H=>?_)
  ·intro w'' L3 Y hY2 hY hL3 H
   refine Ob ?_
   exact h0 hz X hX hX1 hn w'' L3 Y hY2 hY hL3 (tl2.2 H.mv4.mv2.mv2.dp3.dp3)
  ·have hlen:=List.length_filter_le (fun x:Nat×Ent=> !dueT x.2.dl (max now to)) L
   have hnd:((notDue L (max now to)).map (·.1)).Nodup:=by
    obtain⟨q,es,⟨hL,_⟩,_⟩:=cac_iff.1 H.mv1
    exact hL.nd
   refine c_leave (k:=4) (by decide) hs' (by simp;omega) H.mv5.mv3.mv2.mv3.mv5.mv5 fun w H=>?_
   have hl1:=(delL_len hnd hs').1
   refine⟨m,_,bn,_,[pt t2 [ptrV p],pt t3 [.int .i64 (4:Nat)],.all C],?_,H.mv5.mv2.mv2.mv5.mv4.mv5,?_⟩
   ·simp;omega
   ·intro w'' L3 Y hY2 hY hL3 H
    refine Ob ?_
    exact h1 hz X s e hX hX1 hs' hke w'' L3 Y hY2 hY hL3 (tl2.2 H.mv4.mv2.mv2.dp3.dp3)
 ·have e0:firstE ([keyErr key]++[0])=keyErr key:=by simp[firstE,hz]
  rw[e0]
  refine Ob ?_
  exact hbad hz w (tl2.2 H.mv2.mv2.mv2)
end
end Go.Cub
