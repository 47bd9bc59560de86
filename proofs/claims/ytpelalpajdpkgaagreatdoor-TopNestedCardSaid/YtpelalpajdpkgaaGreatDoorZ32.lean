/-
  Part 33 of the proof that TopNested returns true and leaves what it was given as it was. CONDITIONS: those of the given row and card.
-/
import Derived.Test.YtpelalpajdpkgaaGreatDoorZ31
set_option linter.all false
namespace Go.Cub
open Go Go.Proofs Go.IntWalk
def op0:AOp:=⟨0,0,⟨#[]⟩,[],0,0,0,0,0⟩
def rsC (o:AOp) (vo:SV) (at_:Nat) (er:Int) (hit:Bool) (rv:SV) (x:Ent) (xv:SV) (cu:Nat) (ev:SV) (ln cs:Nat):List Value:=
 [.int .i64 o.kind,.int .u64 o.ticks,.string o.key,svV vo,.int .u64 o.ttl,.int .i64 o.count,.int .i64 o.bytes,.int .i64 o.cur,.int .u64 o.bir,.int .u64 at_,.int .i64 er,.bool hit,svV rv,.string x.key,svV xv,.int .u64 x.dl,.int .u64 x.birth,.int .i64 cu,svV ev,.int .i64 ln,.int .i64 cs]
theorem rsC_one {o:AOp} {vo:SV} {at_:Nat} {er:Int} {hit:Bool} {rv:SV} {x:Ent} {xv:SV} {cu:Nat} {ev:SV} {ln cs:Nat}:∀y∈rsC o vo at_ er hit rv x xv cu ev ln cs,y.oneCell'=true:=by
 intro y h
 simp[rsC] at h
 rcases h with rfl |rfl |rfl |rfl |rfl |rfl |rfl |rfl |rfl |rfl |rfl |rfl |rfl |rfl |rfl |rfl |rfl |rfl |rfl |rfl |rfl<;>rfl
abbrev rsM (er:Int) (hit:Bool) (rv:SV) (x:Ent) (xv:SV) (cu:Nat):List Value:=rsC op0 sv0 0 er hit rv x xv cu sv0 0 0
section
variable {N:Nat} {s:CSt} {o:AOp}
theorem stp1 (h:o.kind=1):stp N s o=setS N s o 18446744073709551615:=by unfold stp;rw[h];rfl
theorem stp2 (h:o.kind=2):stp N s o=if o.ttl=0 then(s,⟨2,false,[],0⟩) else setS N s o (addT (addT s.now o.ticks) o.ttl):=by unfold stp;rw[h];rfl
theorem stp3 (h:o.kind=3):stp N s o=if keyErr o.key≠0 then(s,⟨keyErr o.key,false,[],0⟩) else
  match lookU (upU s o) o.key with
  |some e=>(advS s o (delK (upU s o) o.key++[e]),⟨0,true,e.val,0⟩)
  |none=>(advS s o (upU s o),⟨0,false,[],0⟩):=by unfold stp;rw[h];rfl
theorem stp4 (h:o.kind=4):stp N s o=if keyErr o.key≠0 then(s,⟨keyErr o.key,false,[],0⟩) else(advS s o (upU s o),⟨0,(lookU (upU s o) o.key).isSome,[],0⟩):=by unfold stp;rw[h];rfl
theorem stp5 (h:o.kind=5):stp N s o=if firstE [keyErr o.key,ttlErr o.ttl]≠0 then(s,⟨firstE [keyErr o.key,ttlErr o.ttl],false,[],0⟩) else
  match lookU (upU s o) o.key with
  |some e=>(advS s o (delK (upU s o) o.key++[{e with dl:=addT (addT s.now o.ticks) o.ttl}]),⟨0,true,[],0⟩)
  |none=>(advS s o (upU s o),⟨0,false,[],0⟩):=by unfold stp;rw[h];rfl
theorem stp6 (h:o.kind=6):stp N s o=if keyErr o.key≠0 then(s,⟨keyErr o.key,false,[],0⟩) else(advS s o (delK (upU s o) o.key),⟨0,(lookU (upU s o) o.key).isSome,[],0⟩):=by unfold stp;rw[h];rfl
theorem stp7 (h:o.kind=7):stp N s o=(advS s o [],⟨0,false,[],0⟩):=by unfold stp;rw[h];rfl
theorem stp9 (h:o.kind=9):stp N s o=(advS s o (upU s o),⟨0,false,[],0⟩):=by unfold stp;rw[h];rfl
theorem stp10 (h:o.kind=10):stp N s o=(advS s o (upU s o),⟨0,false,[],0⟩):=by unfold stp;rw[h];rfl
theorem stp11 (h:o.kind=11):stp N s o=(match freeN s.o with
  |some k=>({advS s o (upU s o) with o:=s.o ||| 2^k},⟨0,false,[],0⟩)
  |none=>(advS s o (upU s o),⟨7,false,[],0⟩)):=by unfold stp;rw[h];rfl
theorem stp12 (h:o.kind=12):stp N s o=if hasC s.o o.cur then(advS s o (upU s o),⟨0,false,[],0⟩) else(s,⟨9,false,[],0⟩):=by unfold stp;rw[h];rfl
theorem stp13 (h:o.kind=13):stp N s o=(advS s o (upU s o),⟨curE s.o o.cur,false,[],0⟩):=by unfold stp;rw[h];rfl
theorem stp14 (h:o.kind=14):stp N s o=({advS s o (upU s o) with o:=if hasC s.o o.cur then s.o &&& (18446744073709551616 - (2^o.cur+1)) else s.o},⟨curE s.o o.cur,false,[],0⟩):=by unfold stp;rw[h];rfl
end
section
variable {N B K m kd bn now so:Nat} {L L3 M:List (Nat×Ent)} {o:AOp} {X:List AEv} {r:Rs} {U:List Ent}
theorem Gd.none (hr:r.nev=0) (hh:r.hit=false) (hv:r.val=[]):Gd N m kd (stOf L bn now so,r) m L bn now so [] r.err false []:=
 ⟨rfl,Nat.le_max_left _ _,rfl,rfl,rfl,hr.symm,by simp,fun _=>rfl,hh.symm,hv.symm⟩
theorem upU_of:upU (stOf L bn now so) o=(notDue L (addT now o.ticks)).map (·.2):=by rw[nd_map];rfl
theorem Gd.adv {m3:Nat} {er:Int} {bs:List UInt8} {hit:Bool} {Z:List AEv} (hU:L3.map (·.2)=U) (hm:m3≤2 * N+16) (hZ:nE Z=0) (hl:Z.length≤2 * N+2) (h1:er=r.err) (h2:hit=r.hit) (h3:bs=r.val) (h4:r.nev=0):
  Gd N m kd (advS (stOf L bn now so) o U,r) m3 L3 bn (addT now o.ticks) so Z er hit bs:=
 ⟨hU,Nat.le_trans hm (Nat.le_max_right _ _),rfl,rfl,rfl,by rw[hZ,h4],hl,fun _=>h1,h2,h3⟩
end
section
variable {R:Value→World→Prop} {w:World} {p pc t4:Nat} {N B K:Nat} {hs:Nat×Bool} {m bn now so:Nat} {pl:Nat→Nat} {L:List (Nat×Ent)} {o:AOp} {v:SV} {C0:HP}
attribute [local irreducible] PV CND GRD L1 LN S1 SN NEW NEWS MKS MKM LK MU DEL LENM APP CPY BTS Call CallV
theorem cac_slots {h:Hp} {ev:List AEv} {C:List HP} (H:Own h (cac pc N B hs m L bn now ev::C)):(L.map (·.1)).Nodup∧(now<18446744073709551616∧bn<18446744073709551615)∧((L.map (·.2)).map (·.birth)).Nodup∧(∀x∈L,EntOk x.2):=by
 obtain⟨q,es,⟨hL,hA,hnow,hbn⟩,H⟩:=cac_iff.1 H
 have hf:=(cl_facts H).1.2
 refine⟨hL.nd,⟨hnow,hbn⟩,?_,fun x hx=>?_⟩
 ·have h1:((liveE es).map (·.birth)).Nodup:=hL.srt.imp (fun h=>Nat.ne_of_lt h)
  exact(hL.perm.map (·.birth)).nodup_iff.1 h1
 ·obtain⟨hg,hb⟩:=(hL.mem x.1 x.2).1 hx
  exact hf x.1 x.2 hg hb
theorem nd_slots {t:Nat} (h:(L.map (·.1)).Nodup):((notDue L t).map (·.1)).Nodup:=(List.filter_sublist.map _).nodup h
theorem nd_keys {t:Nat} (h:((L.map (·.2)).map (·.key)).Nodup):(((notDue L t).map (·.2)).map (·.key)).Nodup:=((List.filter_sublist.map _).map _).nodup h
def Fin (p pc t4 N B:Nat) (hs:Nat×Bool) (m:Nat) (L:List (Nat×Ent)) (bn now so:Nat) (o:AOp) (C0:HP) (K:World→Prop):Prop:=
 ∀w' m' L' bn' now' o' ev' er hit rv bs x xv cu pl' F,Gd N m o.kind (stp N (stOf L bn now so) o) m' L' bn' now' o' ev' er hit bs→
  Own w'.hp [pt t4 (rsM er hit rv x xv cu),glb,cac pc N B hs m' L' bn' now' ev',crs p pc o' pl',imm (svV rv) bs,F,C0]→K w'
theorem keyed_Get (hk:o.kind=3) (hp:Pre N B K m L bn o) (H:Own w.hp [pt t4 (rsM 0 false sv0 ent0 sv0 0),glb,cac pc N B hs m L bn now [],crs p pc so pl,imm (svV v) o.val,C0])
  (h:Fin p pc t4 N B hs m L bn now so o C0 (R (.tuple #[]))):Call Pg 30 #[ptrV p,.agg (opC o v).toArray,.int .u64 (addT now o.ticks),ptrV t4] w R:=by
 obtain⟨hsl,⟨hnow,_⟩,_,hent⟩:=cac_slots H.mv2
 have hN2:=hp.N2
 have hlen:=hp.len
 have hto:=addT_lt (d:=o.ticks) hnow
 have hmax:=addT_max (d:=o.ticks) hnow
 refine c_30 ?_
 simp only[F_30]
 refine NEWo H fun t5 w H=>?_
 have H:Own w.hp (pt t5 (opC o v)::_):=H
 refine k_cur_Cache (p:=p) H ?_
 refine Ob ?_
 refine L1o (b:=t5) H rfl ?_
 refine Ob ?_
 refine L1o (b:=t5) H rfl ?_
 have hks:=hp.op.key
 have H:=H.mv6.mv6.mv6.mv4.mv6.mv6.dp6
 refine k_Get hto (by simp;omega) H (by omega) (fun hz w H=>?_) (fun hz X hX hX1 hn=>?_) (fun hz X s e v' hX hX1 hs' hke=>?_)
 ·refine Ob ?_
  refine S1o (b:=t4) H rfl rfl fun w H=>?_
  refine Ob ?_
  refine S1o (b:=t4) H rfl rfl fun w H=>?_
  refine Ob ?_
  refine S1o (b:=t4) H rfl rfl fun w H=>?_
  have H:=imm_nil H
  refine h w m L bn now so [] (keyErr o.key) false sv0 [] ent0 sv0 0 pl _ ?_ H.mv6.mv6.mv2.mv6.mv5.mv5.mv6
  rw[stp3 hk,if_pos hz]
  exact Gd.none rfl rfl rfl
 ·rw[hmax] at *
  refine aft_in (K:=K) (Nat.le_trans ndl_len hp.len) (fun x hx=>hp.cost x (nd_sub x hx)) hp.hB fun w L3 hL3 H=>?_
  refine Ob ?_
  refine S1o (b:=t4) H rfl rfl fun w H=>?_
  refine Ob ?_
  refine S1o (b:=t4) H rfl rfl fun w H=>?_
  refine Ob ?_
  refine S1o (b:=t4) H rfl rfl fun w H=>?_
  have H:=imm_nil H
  refine h w _ L3 bn _ so _ 0 false sv0 [] ent0 sv0 0 pl _ ?_ H.mv6.mv6.mv2.mv6.mv5.mv5.mv6
  rw[stp3 hk,if_neg (by simpa using hz),upU_of,look_out hn]
  have hnl:(notDue L (addT now o.ticks)).length≤L.length:=ndl_len
  exact Gd.adv hL3 (by omega) (nE_no (by decide) hX1) (by simp;omega) rfl rfl rfl rfl
 ·rw[hmax] at *
  have hnl:(notDue L (addT now o.ticks)).length≤L.length:=ndl_len
  obtain⟨u1,_,_,_⟩:=useL_len (e':=e) (nd_slots hsl) hs'
  have hc:∀x∈useL (notDue L (addT now o.ticks)) s e,costE x.2≤K:=by
   intro x hx
   rcases List.mem_append.1 hx with hx |hx
   ·exact hp.cost x (nd_sub x (mem_delL.1 hx).1)
   ·rw[List.mem_singleton.1 hx];exact hp.cost _ (nd_sub _ hs')
  refine aft_in (K:=K) (by omega) hc hp.hB fun w L3 hL3 H=>?_
  refine Ob ?_
  refine S1o (b:=t4) H rfl rfl fun w H=>?_
  refine Ob ?_
  refine S1o (b:=t4) H rfl rfl fun w H=>?_
  refine Ob ?_
  refine S1o (b:=t4) H rfl rfl fun w H=>?_
  refine h w _ L3 bn _ so _ 0 true v' e.val ent0 sv0 0 pl _ ?_ H.mv6.mv6.mv4.mv6.mv5.mv5.mv6
  rw[stp3 hk,if_neg (by simpa using hz),upU_of,look_in (nd_keys hp.nd) hs' hke]
  refine Gd.adv ?_ (by omega) (nE_no (by decide) hX1) (by simp;omega) rfl rfl rfl rfl
  rw[hL3,useL,List.map_append,del_map (nd_slots hsl) (nd_keys hp.nd) hs',hke]
  rfl
theorem cost_use {t s:Nat} {e':Ent} (hp:Pre N B K m L bn o) (he:costE e'≤K):∀x∈useL (notDue L t) s e',costE x.2≤K:=by
 intro x hx
 rcases List.mem_append.1 hx with hx |hx
 ·exact hp.cost x (nd_sub x (mem_delL.1 hx).1)
 ·rw[List.mem_singleton.1 hx];exact he
theorem keyed_Peek (hk:o.kind=4) (hp:Pre N B K m L bn o) (H:Own w.hp [pt t4 (rsM 0 false sv0 ent0 sv0 0),glb,cac pc N B hs m L bn now [],crs p pc so pl,imm (svV v) o.val,C0])
  (h:Fin p pc t4 N B hs m L bn now so o C0 (R (.tuple #[]))):Call Pg 30 #[ptrV p,.agg (opC o v).toArray,.int .u64 (addT now o.ticks),ptrV t4] w R:=by
 obtain⟨hsl,⟨hnow,_⟩,_,hent⟩:=cac_slots H.mv2
 have hN2:=hp.N2
 have hlen:=hp.len
 have hto:=addT_lt (d:=o.ticks) hnow
 have hmax:=addT_max (d:=o.ticks) hnow
 have hnl:(notDue L (addT now o.ticks)).length≤L.length:=ndl_len
 refine c_30 ?_
 simp only[F_30]
 refine NEWo H fun t5 w H=>?_
 have H:Own w.hp (pt t5 (opC o v)::_):=H
 refine k_cur_Cache (p:=p) H ?_
 refine Ob ?_
 refine L1o (b:=t5) H rfl ?_
 refine Ob ?_
 refine L1o (b:=t5) H rfl ?_
 have hks:=hp.op.key
 have H:=H.mv6.mv6.mv6.mv4.mv6.mv6.dp6
 refine k_Peek hto (by simp;omega) H (by omega) (fun hz w H=>?_) (fun hz X hX hX1 hn=>?_) (fun hz X s e v' hX hX1 hs' hke=>?_)
 ·refine Ob ?_
  refine SNo (b:=t4) H rfl (Nat.le_of_ble_eq_true rfl) (by simp[entV,svV,Value.oneCell']) fun w H=>?_
  refine Ob ?_
  refine S1o (b:=t4) H rfl rfl fun w H=>?_
  refine Ob ?_
  refine S1o (b:=t4) H rfl rfl fun w H=>?_
  have H:=imm_nil H
  refine h w m L bn now so [] (keyErr o.key) false sv0 [] ent0 sv0 0 pl _ ?_ H.mv6.mv6.mv2.mv6.mv5.mv5.mv6
  rw[stp4 hk,if_pos hz]
  exact Gd.none rfl rfl rfl
 ·rw[hmax] at *
  refine aft_in (K:=K) (Nat.le_trans ndl_len hp.len) (fun x hx=>hp.cost x (nd_sub x hx)) hp.hB fun w L3 hL3 H=>?_
  refine Ob ?_
  refine SNo (b:=t4) H rfl (Nat.le_of_ble_eq_true rfl) (by simp[entV,svV,Value.oneCell']) fun w H=>?_
  refine Ob ?_
  refine S1o (b:=t4) H rfl rfl fun w H=>?_
  refine Ob ?_
  refine S1o (b:=t4) H rfl rfl fun w H=>?_
  have H:=imm_nil H
  refine h w _ L3 bn _ so _ 0 false sv0 [] ent0 sv0 0 pl _ ?_ H.mv6.mv6.mv2.mv6.mv5.mv5.mv6
  rw[stp4 hk,if_neg (by simpa using hz),upU_of,look_out hn]
  exact Gd.adv hL3 (by omega) (nE_no (by decide) hX1) (by simp;omega) rfl rfl rfl rfl
 ·rw[hmax] at *
  refine aft_in (K:=K) (Nat.le_trans ndl_len hp.len) (fun x hx=>hp.cost x (nd_sub x hx)) hp.hB fun w L3 hL3 H=>?_
  refine Ob ?_
  refine SNo (b:=t4) H rfl (Nat.le_of_ble_eq_true rfl) (by simp[entV,svV,Value.oneCell']) fun w H=>?_
  refine Ob ?_
  refine S1o (b:=t4) H rfl rfl fun w H=>?_
  refine Ob ?_
  refine S1o (b:=t4) H rfl rfl fun w H=>?_
  have H:=imm_nil H
  refine h w _ L3 bn _ so _ 0 true sv0 [] e v' 0 pl _ ?_ H.mv7.mv7.mv2.mv7.mv5.mv5.mv7.dp7
  rw[stp4 hk,if_neg (by simpa using hz),upU_of,look_in (nd_keys hp.nd) hs' hke]
  exact Gd.adv hL3 (by omega) (nE_no (by decide) hX1) (by simp;omega) rfl rfl rfl rfl
theorem keyed_Delete (hk:o.kind=6) (hp:Pre N B K m L bn o) (H:Own w.hp [pt t4 (rsM 0 false sv0 ent0 sv0 0),glb,cac pc N B hs m L bn now [],crs p pc so pl,imm (svV v) o.val,C0])
  (h:Fin p pc t4 N B hs m L bn now so o C0 (R (.tuple #[]))):Call Pg 30 #[ptrV p,.agg (opC o v).toArray,.int .u64 (addT now o.ticks),ptrV t4] w R:=by
 obtain⟨hsl,⟨hnow,_⟩,_,hent⟩:=cac_slots H.mv2
 have hN2:=hp.N2
 have hlen:=hp.len
 have hto:=addT_lt (d:=o.ticks) hnow
 have hmax:=addT_max (d:=o.ticks) hnow
 have hnl:(notDue L (addT now o.ticks)).length≤L.length:=ndl_len
 refine c_30 ?_
 simp only[F_30]
 refine NEWo H fun t5 w H=>?_
 have H:Own w.hp (pt t5 (opC o v)::_):=H
 refine k_cur_Cache (p:=p) H ?_
 refine Ob ?_
 refine L1o (b:=t5) H rfl ?_
 refine Ob ?_
 refine L1o (b:=t5) H rfl ?_
 have hks:=hp.op.key
 have H:=H.mv6.mv6.mv6.mv4.mv6.mv6.dp6
 refine k_Delete hto (by simp;omega) (by simp) (by omega) H (by omega) (fun hz w H=>?_) (fun hz X hX hX1 hn=>?_) (fun hz X s e hX hX1 hs' hke=>?_)
 ·refine Ob ?_
  refine S1o (b:=t4) H rfl rfl fun w H=>?_
  refine Ob ?_
  refine S1o (b:=t4) H rfl rfl fun w H=>?_
  have H:=imm_nil H
  refine h w m L bn now so [] (keyErr o.key) false sv0 [] ent0 sv0 0 pl _ ?_ H.mv6.mv6.mv2.mv6.mv5.mv5.mv6
  rw[stp6 hk,if_pos hz]
  exact Gd.none rfl rfl rfl
 ·rw[hmax] at *
  refine aft_in (K:=K) (Nat.le_trans ndl_len hp.len) (fun x hx=>hp.cost x (nd_sub x hx)) hp.hB fun w L3 hL3 H=>?_
  refine Ob ?_
  refine S1o (b:=t4) H rfl rfl fun w H=>?_
  refine Ob ?_
  refine S1o (b:=t4) H rfl rfl fun w H=>?_
  have H:=imm_nil H
  refine h w _ L3 bn _ so _ 0 false sv0 [] ent0 sv0 0 pl _ ?_ H.mv6.mv6.mv2.mv6.mv5.mv5.mv6
  rw[stp6 hk,if_neg (by simpa using hz),upU_of,look_out hn]
  have e1:delK ((notDue L (addT now o.ticks)).map (·.2)) o.key=(notDue L (addT now o.ticks)).map (·.2):=delK_none (lookU_none (look_out hn))
  exact Gd.adv (hL3.trans e1.symm) (by omega) (nE_no (by decide) hX1) (by simp;omega) rfl rfl rfl rfl
 ·rw[hmax] at *
  obtain⟨u1,_⟩:=delL_len (nd_slots hsl) hs'
  refine aft_in (K:=K) (by omega) (fun x hx=>hp.cost x (nd_sub x (mem_delL.1 hx).1)) hp.hB fun w L3 hL3 H=>?_
  refine Ob ?_
  refine S1o (b:=t4) H rfl rfl fun w H=>?_
  refine Ob ?_
  refine S1o (b:=t4) H rfl rfl fun w H=>?_
  have H:=imm_nil H
  refine h w _ L3 bn _ so _ 0 true sv0 [] ent0 sv0 0 pl _ ?_ H.mv6.mv6.mv2.mv6.mv5.mv5.mv6
  rw[stp6 hk,if_neg (by simpa using hz),upU_of,look_in (nd_keys hp.nd) hs' hke]
  refine Gd.adv ?_ (by omega) ?_ (by simp;omega) rfl rfl rfl rfl
  ·rw[hL3,del_map (nd_slots hsl) (nd_keys hp.nd) hs',hke]
  ·rw[nE_app,nE_app,nE_no (l:=X) (by decide) hX1,nE_one (by decide)];rfl
theorem keyed_Touch (hk:o.kind=5) (hp:Pre N B K m L bn o) (H:Own w.hp [pt t4 (rsM 0 false sv0 ent0 sv0 0),glb,cac pc N B hs m L bn now [],crs p pc so pl,imm (svV v) o.val,C0])
  (h:Fin p pc t4 N B hs m L bn now so o C0 (R (.tuple #[]))):Call Pg 30 #[ptrV p,.agg (opC o v).toArray,.int .u64 (addT now o.ticks),ptrV t4] w R:=by
 obtain⟨hsl,⟨hnow,_⟩,_,hent⟩:=cac_slots H.mv2
 have hN2:=hp.N2
 have hlen:=hp.len
 have hto:=addT_lt (d:=o.ticks) hnow
 have hmax:=addT_max (d:=o.ticks) hnow
 have hnl:(notDue L (addT now o.ticks)).length≤L.length:=ndl_len
 refine c_30 ?_
 simp only[F_30]
 refine NEWo H fun t5 w H=>?_
 have H:Own w.hp (pt t5 (opC o v)::_):=H
 refine k_cur_Cache (p:=p) H ?_
 refine Ob ?_
 refine L1o (b:=t5) H rfl ?_
 refine Ob ?_
 refine L1o (b:=t5) H rfl ?_
 refine Ob ?_
 refine L1o (b:=t5) H rfl ?_
 have hks:=hp.op.key
 have H:=(all4.2 H.mv3.mv3.mv6.mv6.mv6.mv6.dp6).mv2.mv2
 refine k_Touch hto (by simp;omega) H (by omega) (fun hz w H=>?_) (fun hz X hX hX1 hn=>?_) (fun hz X s e hX hX1 hs' hke=>?_)
 ·have H:=all4.1 H.mv1.mv1.mv2
  refine Ob ?_
  refine S1o (b:=t4) H rfl rfl fun w H=>?_
  refine Ob ?_
  refine S1o (b:=t4) H rfl rfl fun w H=>?_
  have H:=imm_nil H
  refine h w m L bn now so [] (firstE [keyErr o.key,ttlErr o.ttl]) false sv0 [] ent0 sv0 0 pl _ ?_ H.mv4.mv4.mv2.mv4.mv6.mv6.mv6
  rw[stp5 hk,if_pos hz]
  exact Gd.none rfl rfl rfl
 ·rw[hmax] at *
  refine aft_in (K:=K) (Nat.le_trans ndl_len hp.len) (fun x hx=>hp.cost x (nd_sub x hx)) hp.hB fun w L3 hL3 H=>?_
  have H:=all4.1 H.mv1.mv1.mv2
  refine Ob ?_
  refine S1o (b:=t4) H rfl rfl fun w H=>?_
  refine Ob ?_
  refine S1o (b:=t4) H rfl rfl fun w H=>?_
  have H:=imm_nil H
  refine h w _ L3 bn _ so _ 0 false sv0 [] ent0 sv0 0 pl _ ?_ H.mv4.mv4.mv2.mv4.mv6.mv6.mv6
  rw[stp5 hk,if_neg (by simpa using hz),upU_of,look_out hn]
  exact Gd.adv hL3 (by omega) (nE_no (by decide) hX1) (by simp;omega) rfl rfl rfl rfl
 ·rw[hmax] at *
  obtain⟨u1,_,_,_⟩:=useL_len (e':= {e with dl:=addT (addT now o.ticks) o.ttl}) (nd_slots hsl) hs'
  refine aft_in (K:=K) (by omega) (cost_use hp (hp.cost _ (nd_sub _ hs'))) hp.hB fun w L3 hL3 H=>?_
  have H:=all4.1 H.mv1.mv1.mv2
  refine Ob ?_
  refine S1o (b:=t4) H rfl rfl fun w H=>?_
  refine Ob ?_
  refine S1o (b:=t4) H rfl rfl fun w H=>?_
  have H:=imm_nil H
  refine h w _ L3 bn _ so _ 0 true sv0 [] ent0 sv0 0 pl _ ?_ H.mv4.mv4.mv2.mv4.mv6.mv6.mv6
  rw[stp5 hk,if_neg (by simpa using hz),upU_of,look_in (nd_keys hp.nd) hs' hke]
  refine Gd.adv ?_ (by omega) (nE_no (by decide) hX1) (by simp;omega) rfl rfl rfl rfl
  rw[hL3,useL,List.map_append,del_map (nd_slots hsl) (nd_keys hp.nd) hs',hke]
  rfl
theorem set_old {s d kd:Nat} {e:Ent} {X:List AEv} {C2:List HP} {K0:World→Prop} (hp:Pre N B K m L bn o) (hsl:(L.map (·.1)).Nodup) (hz:chkE o.key o.val.length 1=0) (hX:X.length+(notDue L (addT now o.ticks)).length=L.length) (hX1:∀x∈X,x.1=1)
  (hs':(s,e)∈notDue L (addT now o.ticks)) (hke:e.key=o.key)
  (h:∀w m3 L3,Gd N m kd (setS N (stOf L bn now so) o d) m3 L3 bn (addT now o.ticks) so ([]++X++[(3,e,addT now o.ticks)]) 0 false []→Own w.hp (glb::cac pc N B hs m3 L3 bn (addT now o.ticks) ([]++X++[(3,e,addT now o.ticks)])::C2)→K0 w):
  AftRun pc N B hs s (useL (notDue L (addT now o.ticks)) s {e with val:=o.val,dl:=d}) bn (addT now o.ticks) ([]++X++[(3,e,addT now o.ticks)]) C2 K0:=by
 have hlen:=hp.len
 obtain⟨u1,_,_,_⟩:=useL_len (e':= {e with val:=o.val,dl:=d}) (nd_slots hsl) hs'
 have hnl:(notDue L (addT now o.ticks)).length≤L.length:=ndl_len
 refine aft_in (K:=K) (by omega) (cost_use hp ?_) hp.hB fun w L3 hL3 H=>?_
 ·show e.key.size+o.val.length+48≤K
  rw[hke];exact hp.ocost
 ·refine h w _ L3 ?_ H
  unfold setS
  rw[if_neg (by simpa using hz),upU_of,look_in (nd_keys hp.nd) hs' hke]
  refine Gd.adv ?_ (by omega) ?_ (by simp;omega) rfl rfl rfl rfl
  ·rw[hL3,useL,List.map_append,del_map (nd_slots hsl) (nd_keys hp.nd) hs',hke]
   rfl
  ·rw[nE_app,nE_app,nE_no (l:=X) (by decide) hX1,nE_one (by decide)];rfl
theorem set_new {s d kd:Nat} {X:List AEv} {C2:List HP} {K0:World→Prop} (hp:Pre N B K m L bn o) (hsl:(L.map (·.1)).Nodup) (hz:chkE o.key o.val.length 1=0) (hX:X.length+(notDue L (addT now o.ticks)).length=L.length) (hX1:∀x∈X,x.1=1)
  (hn:∀x∈notDue L (addT now o.ticks),x.2.key≠o.key) (hns:∀x∈notDue L (addT now o.ticks),x.1≠s)
  (h:∀w m3 L3 Y,Gd N m kd (setS N (stOf L bn now so) o d) m3 L3 (bn+1) (addT now o.ticks) so ([]++X++Y) 0 false []→Own w.hp (glb::cac pc N B hs m3 L3 (bn+1) (addT now o.ticks) ([]++X++Y)::C2)→K0 w):
  AftRun pc N B hs s (notDue L (addT now o.ticks)++[(s,⟨o.key,o.val,d,bn+1⟩)]) (bn+1) (addT now o.ticks) ([]++X) C2 K0:=by
 have hlen:=hp.len
 have hnl:(notDue L (addT now o.ticks)).length≤L.length:=ndl_len
 have hc:∀x∈notDue L (addT now o.ticks)++[((s,⟨o.key,o.val,d,bn+1⟩):Nat×Ent)],costE x.2≤K:=by
  intro x hx
  rcases List.mem_append.1 hx with hx |hx
  ·exact hp.cost x (nd_sub x hx)
  ·rw[List.mem_singleton.1 hx];exact hp.ocost
 have hset:setS N (stOf L bn now so) o d=if ((notDue L (addT now o.ticks)).map (·.2)).length<N then(⟨(notDue L (addT now o.ticks)).map (·.2)++[(⟨o.key,o.val,d,bn+1⟩:Ent)],bn+1,addT now o.ticks,so⟩,⟨0,false,[],0⟩)
   else(⟨((notDue L (addT now o.ticks)).map (fun x=>x.2)++[(⟨o.key,o.val,d,bn+1⟩:Ent)]).tail,bn+1,addT now o.ticks,so⟩,⟨0,false,[],1⟩):=by
  unfold setS
  rw[if_neg (by simpa using hz),upU_of,look_out hn]
  rfl
 by_cases hl:(notDue L (addT now o.ticks)).length<N
 ·refine aft_in (K:=K) (by simp;omega) hc hp.hB fun w L3 hL3 H=>?_
  refine h w _ L3 [] ?_ (by rw[List.append_nil];exact H)
  rw[hset,if_pos (by rw[List.length_map];exact hl)]
  refine⟨?_,?_,rfl,rfl,rfl,?_,by simp;omega,fun _=>rfl,rfl,rfl⟩
  ·rw[hL3,List.map_append];rfl
  ·simp;omega
  ·rw[List.append_nil,List.nil_append,nE_no (l:=X) (by decide) hX1]
 ·refine aft_full (K:=K) hp.N1 (by omega) hc hp.hB ?_ fun w L3 y hy hL3 H=>?_
  ·rw[List.map_append,List.nodup_append]
   refine⟨nd_slots hsl,by simp,?_⟩
   intro a ha b hb e1
   obtain⟨x,hx,rfl⟩:=List.mem_map.1 ha
   simp only[List.map_cons,List.map_nil,List.mem_singleton] at hb
   exact hns x hx (by rw[e1,hb])
  ·refine h w _ L3 [y] ?_ H
   rw[hset,if_neg (by rw[List.length_map];exact hl)]
   refine⟨hL3,Nat.le_max_right _ _,rfl,rfl,rfl,?_,by simp;omega,fun _=>rfl,rfl,rfl⟩
   rw[nE_app,List.nil_append,nE_no (l:=X) (by decide) hX1]
   simp[nE,hy]
theorem keyed_Set (hk:o.kind=1) (hp:Pre N B K m L bn o) (H:Own w.hp [pt t4 (rsM 0 false sv0 ent0 sv0 0),glb,cac pc N B hs m L bn now [],crs p pc so pl,imm (svV v) o.val,C0])
  (h:Fin p pc t4 N B hs m L bn now so o C0 (R (.tuple #[]))):Call Pg 30 #[ptrV p,.agg (opC o v).toArray,.int .u64 (addT now o.ticks),ptrV t4] w R:=by
 obtain⟨hsl,⟨hnow,_⟩,_,hent⟩:=cac_slots H.mv2
 have hN2:=hp.N2
 have hK:=hp.hK
 have hlen:=hp.len
 have hB:o.key.size+o.val.length+48≤B:=by
  have h1:=hp.ocost
  have h2:1 * K≤(N+1) * K:=Nat.mul_le_mul_right _ (by omega)
  have h3:=hp.hB
  omega
 have hto:=addT_lt (d:=o.ticks) hnow
 have hmax:=addT_max (d:=o.ticks) hnow
 refine c_30 ?_
 simp only[F_30]
 refine NEWo H fun t5 w H=>?_
 have H:Own w.hp (pt t5 (opC o v)::_):=H
 refine k_cur_Cache (p:=p) H ?_
 refine Ob ?_
 refine L1o (b:=t5) H rfl ?_
 refine Ob ?_
 refine L1o (b:=t5) H rfl ?_
 refine Ob ?_
 refine L1o (b:=t5) H rfl ?_
 have H:=(all2.2 H.mv6.mv6.mv5.mv5.mv6.mv6.dp6).mv4.mv1.mv4.mv4.mv4
 refine k_Set (bs:=o.val) hto hB (by simp;omega) hp.m hp.bn H (fun hz w H=>?_) (fun hz X s e hX hX1 hs' hke=>?_) (fun hz X s hX hX1 hn hns=>?_)
 ·have H:=all2.1 H.mv4.mv3.mv3.mv3.mv4
  refine Ob ?_
  refine S1o (b:=t4) H rfl rfl fun w H=>?_
  have H:=imm_nil H
  refine h w m L bn now so [] (chkE o.key o.val.length 1) false sv0 [] ent0 sv0 0 pl _ ?_ H.mv6.mv6.mv2.mv4.mv6.mv6.mv6
  rw[stp1 hk]
  unfold setS
  rw[if_pos hz]
  exact Gd.none rfl rfl rfl
 ·rw[hmax] at *
  refine set_old (so:=so) (kd:=o.kind) hp hsl hz hX hX1 hs' hke fun w m3 L3 hg H=>?_
  have H:=all2.1 H.mv4.mv3.mv3.mv3.mv4
  refine Ob ?_
  refine S1o (b:=t4) H rfl rfl fun w H=>?_
  have H:=imm_nil H
  refine h w m3 L3 bn _ so _ 0 false sv0 [] ent0 sv0 0 pl _ ?_ H.mv6.mv6.mv2.mv4.mv6.mv6.mv6
  rw[stp1 hk]
  exact hg
 ·rw[hmax] at *
  refine set_new (so:=so) (kd:=o.kind) hp hsl hz hX hX1 hn hns fun w m3 L3 Y hg H=>?_
  have H:=all2.1 H.mv4.mv3.mv3.mv3.mv4
  refine Ob ?_
  refine S1o (b:=t4) H rfl rfl fun w H=>?_
  have H:=imm_nil H
  refine h w m3 L3 _ _ so _ 0 false sv0 [] ent0 sv0 0 pl _ ?_ H.mv6.mv6.mv2.mv4.mv6.mv6.mv6
  rw[stp1 hk]
  exact hg
theorem keyed_SetTTL (hk:o.kind=2) (hp:Pre N B K m L bn o) (H:Own w.hp [pt t4 (rsM 0 false sv0 ent0 sv0 0),glb,cac pc N B hs m L bn now [],crs p pc so pl,imm (svV v) o.val,C0])
  (h:Fin p pc t4 N B hs m L bn now so o C0 (R (.tuple #[]))):Call Pg 30 #[ptrV p,.agg (opC o v).toArray,.int .u64 (addT now o.ticks),ptrV t4] w R:=by
 obtain⟨hsl,⟨hnow,_⟩,_,hent⟩:=cac_slots H.mv2
 have hN2:=hp.N2
 have hK:=hp.hK
 have hlen:=hp.len
 have hB:o.key.size+o.val.length+48≤B:=by
  have h1:=hp.ocost
  have h2:1 * K≤(N+1) * K:=Nat.mul_le_mul_right _ (by omega)
  have h3:=hp.hB
  omega
 have hto:=addT_lt (d:=o.ticks) hnow
 have hmax:=addT_max (d:=o.ticks) hnow
 refine c_30 ?_
 simp only[F_30]
 refine NEWo H fun t5 w H=>?_
 have H:Own w.hp (pt t5 (opC o v)::_):=H
 refine k_cur_Cache (p:=p) H ?_
 refine Ob ?_
 refine L1o (b:=t5) H rfl ?_
 refine Ob ?_
 refine L1o (b:=t5) H rfl ?_
 refine Ob ?_
 refine L1o (b:=t5) H rfl ?_
 refine Ob ?_
 refine L1o (b:=t5) H rfl ?_
 have H:=(all3.2 H.mv5.mv4.mv4.mv6.mv6.mv6.dp6).mv3.mv3.mv3
 refine k_SetTTL (bs:=o.val) hto hnow hB (by simp;omega) hp.m hp.bn H (fun hz w H=>?_) (fun hz0 hz w H=>?_) (fun hz0 hz X s e F hX hX1 hs' hke=>?_) (fun hz0 hz X s F hX hX1 hn hns=>?_)
 ·have H:=all3.1 H.mv2.mv2.mv2.mv3
  refine Ob ?_
  refine S1o (b:=t4) H rfl rfl fun w H=>?_
  have H:=imm_nil H
  refine h w m L bn now so [] 2 false sv0 [] ent0 sv0 0 pl _ ?_ H.mv3.mv6.mv2.mv4.mv6.mv6.mv6
  rw[stp2 hk,if_pos hz]
  exact Gd.none rfl rfl rfl
 ·have H:=all3.1 H.mv2.mv2.mv2.mv3
  refine Ob ?_
  refine S1o (b:=t4) H rfl rfl fun w H=>?_
  have H:=imm_nil H
  refine h w m L bn now so [] (chkE o.key o.val.length 1) false sv0 [] ent0 sv0 0 pl _ ?_ H.mv3.mv6.mv2.mv4.mv6.mv6.mv6
  rw[stp2 hk,if_neg (by omega)]
  unfold setS
  rw[if_pos hz]
  exact Gd.none rfl rfl rfl
 ·rw[hmax] at *
  refine set_old (so:=so) (kd:=o.kind) hp hsl hz hX hX1 hs' hke fun w m3 L3 hg H=>?_
  have H:=all3.1 H.mv3.mv3.mv3.mv3.mv4
  refine Ob ?_
  refine S1o (b:=t4) H rfl rfl fun w H=>?_
  have H:=imm_nil H
  refine h w m3 L3 bn _ so _ 0 false sv0 [] ent0 sv0 0 pl _ ?_ H.mv3.mv6.mv2.mv4.mv6.mv6.mv6.dp7
  rw[stp2 hk,if_neg (by omega)]
  exact hg
 ·rw[hmax] at *
  refine set_new (so:=so) (kd:=o.kind) hp hsl hz hX hX1 hn hns fun w m3 L3 Y hg H=>?_
  have H:=all3.1 H.mv3.mv3.mv3.mv3.mv4
  refine Ob ?_
  refine S1o (b:=t4) H rfl rfl fun w H=>?_
  have H:=imm_nil H
  refine h w m3 L3 _ _ so _ 0 false sv0 [] ent0 sv0 0 pl _ ?_ H.mv3.mv6.mv2.mv4.mv6.mv6.mv6.dp7
  rw[stp2 hk,if_neg (by omega)]
  exact hg
theorem k_keyed (hk:o.kind=1∨o.kind=2∨o.kind=3∨o.kind=4∨o.kind=5∨o.kind=6) (hp:Pre N B K m L bn o) (H:Own w.hp [pt t4 (rsM 0 false sv0 ent0 sv0 0),glb,cac pc N B hs m L bn now [],crs p pc so pl,imm (svV v) o.val,C0])
  (h:Fin p pc t4 N B hs m L bn now so o C0 (R (.tuple #[]))):Call Pg 30 #[ptrV p,.agg (opC o v).toArray,.int .u64 (addT now o.ticks),ptrV t4] w R:=by
 rcases hk with hk |hk |hk |hk |hk |hk
 ·exact keyed_Set hk hp H h
 ·exact keyed_SetTTL hk hp H h
 ·exact keyed_Get hk hp H h
 ·exact keyed_Peek hk hp H h
 ·exact keyed_Touch hk hp H h
 ·exact keyed_Delete hk hp H h
end
end Go.Cub
namespace Go.Cub
open Go Go.Proofs Go.IntWalk
theorem freeN_some {o k:Nat} (hk:k<64) (h:FreeC o k):freeN o=some k:=by
 unfold freeN
 rw[List.find?_range_eq_some]
 refine⟨?_,by simpa using hk,fun j hj=>?_⟩
 ·rw[h.2.2 hk];rfl
 ·rw[h.2.1 j hj];rfl
theorem freeN_none {o:Nat} (h:FreeC o 64):freeN o=none:=by
 unfold freeN
 rw[List.find?_range_eq_none]
 intro j hj
 rw[h.2.1 j hj];rfl
section
variable {R:Value→World→Prop} {w:World} {p pc t4:Nat} {N B K:Nat} {hs:Nat×Bool} {m bn now so:Nat} {pl:Nat→Nat} {L:List (Nat×Ent)} {o:AOp} {v:SV} {C0:HP}
attribute [local irreducible] PV CND GRD L1 LN S1 SN NEW NEWS MKS MKM LK MU DEL LENM APP CPY BTS Call CallV
theorem aimed_Next (hk:o.kind=12) (hp:Pre N B K m L bn o) (H:Own w.hp [pt t4 (rsM 0 false sv0 ent0 sv0 0),glb,cac pc N B hs m L bn now [],crs p pc so pl,imm (svV v) o.val,C0])
  (h:Fin p pc t4 N B hs m L bn now so o C0 (R (.tuple #[]))):Call Pg 29 #[ptrV p,.agg (opC o v).toArray,.int .u64 (addT now o.ticks),ptrV t4] w R:=by
 obtain⟨hsl,⟨hnow,hbn⟩,_,hent⟩:=cac_slots H.mv2
 have hN2:=hp.N2
 have hlen:=hp.len
 have hto:=addT_lt (d:=o.ticks) hnow
 have hmax:=addT_max (d:=o.ticks) hnow
 have hnl:(notDue L (addT now o.ticks)).length≤L.length:=ndl_len
 refine c_29 ?_
 simp only[F_29]
 refine NEWo H fun t5 w H=>?_
 have H:Own w.hp (pt t5 (opC o v)::_):=H
 refine Ob ?_
 refine L1o (b:=t5) H rfl ?_
 refine Ob ?_
 refine L1o (b:=t5) H rfl ?_
 have H:=(all3.2 H.mv4.mv4.mv4.mv6.mv6.mv6.dp6).mv3.mv3.mv3
 refine k_cur_Next hto hbn (by simp;omega) H (fun hc w H=>?_) (fun hc X L3 Y m3 pl' x er w' F hX hX1 hY2 hY hL3 hm3 H=>?_)
 ·have H:=all3.1 H.mv2.mv2.mv2.mv3
  refine Ob ?_
  refine SNo (b:=t4) H rfl (Nat.le_of_ble_eq_true rfl) (by simp[entV,svV,Value.oneCell']) fun w H=>?_
  refine Ob ?_
  refine S1o (b:=t4) H rfl rfl fun w H=>?_
  have H:=imm_nil H
  refine h w m L bn now so [] 9 false sv0 [] ent0 sv0 0 pl _ ?_ H.mv3.mv3.mv2.mv6.mv6.mv6.mv6
  rw[stp12 hk,if_neg (by simp[stOf,hc])]
  exact Gd.none rfl rfl rfl
 ·have H:=all3.1 H.mv4.mv4.mv4.mv4.mv4.mv5
  rw[hmax] at *
  have h1:=sum_le (L:=notDue L (addT now o.ticks)) fun x hx=>hp.cost x (nd_sub x hx)
  have h2:(notDue L (addT now o.ticks)).length * K≤(N+1) * K:=Nat.mul_le_mul_right _ (by omega)
  have hv:vics N B nobody (notDue L (addT now o.ticks))=[]:=vics_none (by omega) (Nat.le_trans h1 (Nat.le_trans h2 hp.hB))
  rw[hv] at hY hL3 hm3
  have hY0:Y=[]:=by simpa using hY
  subst hY0
  rw[outL_nil] at hL3 hm3
  refine Ob ?_
  refine SNo (b:=t4) H rfl (Nat.le_of_ble_eq_true rfl) (by simp[entV,svV,Value.oneCell']) fun w H=>?_
  refine Ob ?_
  refine S1o (b:=t4) H rfl rfl fun w H=>?_
  have H:=imm_nil H
  refine h w m3 L3 bn _ so _ er false sv0 [] x.1 x.2 0 pl' _ ?_ H.mv3.mv3.mv2.mv6.mv6.mv6.mv6.dp7.dp7
  rw[stp12 hk,if_pos (by simp[stOf,hc]),upU_of]
  exact⟨hL3,by rw[hm3];omega,rfl,rfl,rfl,by rw[List.append_nil,List.nil_append,nE_no (l:=X) (by decide) hX1],by simp;omega,fun h=>absurd hk h,rfl,rfl⟩
theorem aimed_else (hk:o.kind=11∨o.kind=13∨o.kind=14) (hp:Pre N B K m L bn o) (H:Own w.hp [pt t4 (rsM 0 false sv0 ent0 sv0 0),glb,cac pc N B hs m L bn now [],crs p pc so pl,imm (svV v) o.val,C0])
  (h:Fin p pc t4 N B hs m L bn now so o C0 (R (.tuple #[]))):Call Pg 29 #[ptrV p,.agg (opC o v).toArray,.int .u64 (addT now o.ticks),ptrV t4] w R:=by
 obtain⟨hsl,⟨hnow,hbn⟩,_,hent⟩:=cac_slots H.mv2
 have hN2:=hp.N2
 have hlen:=hp.len
 have hto:=addT_lt (d:=o.ticks) hnow
 have hmax:=addT_max (d:=o.ticks) hnow
 have hnl:(notDue L (addT now o.ticks)).length≤L.length:=ndl_len
 refine c_29 ?_
 simp only[F_29]
 refine NEWo H fun t5 w H=>?_
 have H:Own w.hp (pt t5 (opC o v)::_):=H
 refine Ob ?_
 refine L1o (b:=t5) H rfl ?_
 refine Ob ?_
 refine k_cur_Cache (p:=p) H ?_
 have H:=H.mv6.mv6.mv6.mv4.mv4.mv6.mv6
 refine k_Advance hto (by simp;omega) H fun X hX hX1=>?_
 rw[hmax] at *
 refine aft_in (K:=K) (Nat.le_trans ndl_len hp.len) (fun x hx=>hp.cost x (nd_sub x hx)) hp.hB fun w L3 hL3 H=>?_
 refine Ob ?_
 refine S1o (b:=t4) H rfl rfl fun w H=>?_
 refine Ob ?_
 refine L1o (b:=t4) H rfl ?_
 refine Ob ?_
 refine L1o (b:=t5) H rfl ?_
 rcases hk with hk |hk |hk
 ·refine Ob ?_
  refine k_cur_Open (p:=p) H (fun hf w H=>?_) (fun k w pl' hkl hf H=>?_)
  ·refine Ob ?_
   refine S1o (b:=t4) H rfl rfl fun w H=>?_
   refine Ob ?_
   refine S1o (b:=t4) H rfl rfl fun w H=>?_
   have H:=imm_nil H
   refine h w _ L3 bn _ so _ 7 false sv0 [] ent0 sv0 0 pl _ ?_ H.mv7.mv7.mv2.mv7.mv5.mv5.mv7.dp7
   rw[stp11 hk]
   simp only[stOf,freeN_none hf]
   rw[show(⟨L.map (·.2),bn,now,so⟩:CSt)=stOf L bn now so from rfl,upU_of]
   exact Gd.adv hL3 (by omega) (nE_no (by decide) hX1) (by simp;omega) rfl rfl rfl rfl
  ·refine Ob ?_
   refine S1o (b:=t4) H rfl rfl fun w H=>?_
   refine Ob ?_
   refine S1o (b:=t4) H rfl rfl fun w H=>?_
   have H:=imm_nil H
   refine h w _ L3 bn _ (so ||| 2^k) _ 0 false sv0 [] ent0 sv0 k pl' _ ?_ H.mv7.mv7.mv2.mv7.mv5.mv5.mv7.dp7
   rw[stp11 hk]
   simp only[stOf,freeN_some hkl hf]
   rw[show(⟨L.map (·.2),bn,now,so⟩:CSt)=stOf L bn now so from rfl,upU_of]
   exact⟨hL3,by omega,rfl,rfl,rfl,by rw[List.nil_append,nE_no (l:=X) (by decide) hX1],by simp;omega,fun _=>rfl,rfl,rfl⟩
 ·refine Ob ?_
  refine L1o (b:=t5) H rfl ?_
  refine Ob ?_
  refine L1o (b:=t5) H rfl ?_
  have hbir:=hp.op.bir
  refine k_cur_Seek (p:=p) (b:=o.bir) (n:=o.cur) (by omega) H fun w pl' H=>?_
  refine Ob ?_
  refine S1o (b:=t4) H rfl rfl fun w H=>?_
  have H:=imm_nil H
  refine h w _ L3 bn _ so _ (curE so o.cur) false sv0 [] ent0 sv0 0 pl' _ ?_ H.mv7.mv7.mv2.mv7.mv5.mv5.mv7.dp7
  rw[stp13 hk,upU_of]
  exact Gd.adv hL3 (by omega) (nE_no (by decide) hX1) (by simp;omega) rfl rfl rfl rfl
 ·refine Ob ?_
  refine L1o (b:=t5) H rfl ?_
  refine k_cur_Close (p:=p) (n:=o.cur) H fun w H=>?_
  refine Ob ?_
  refine S1o (b:=t4) H rfl rfl fun w H=>?_
  have H:=imm_nil H
  refine h w _ L3 bn _ _ _ (curE so o.cur) false sv0 [] ent0 sv0 0 pl _ ?_ H.mv7.mv7.mv2.mv7.mv5.mv5.mv7.dp7
  rw[stp14 hk,upU_of]
  exact⟨hL3,by omega,rfl,rfl,rfl,by rw[List.nil_append,nE_no (l:=X) (by decide) hX1],by simp;omega,fun _=>rfl,rfl,rfl⟩
theorem k_aimed (hk:o.kind=11∨o.kind=12∨o.kind=13∨o.kind=14) (hp:Pre N B K m L bn o) (H:Own w.hp [pt t4 (rsM 0 false sv0 ent0 sv0 0),glb,cac pc N B hs m L bn now [],crs p pc so pl,imm (svV v) o.val,C0])
  (h:Fin p pc t4 N B hs m L bn now so o C0 (R (.tuple #[]))):Call Pg 29 #[ptrV p,.agg (opC o v).toArray,.int .u64 (addT now o.ticks),ptrV t4] w R:=by
 rcases hk with hk |hk |hk |hk
 ·exact aimed_else (.inl hk) hp H h
 ·exact aimed_Next hk hp H h
 ·exact aimed_else (.inr (.inl hk)) hp H h
 ·exact aimed_else (.inr (.inr hk)) hp H h
end
end Go.Cub
namespace Go.Cub
open Go Go.Proofs Go.IntWalk
section
variable {R:Value→World→Prop} {w:World} {p pc t3 t4 t6:Nat} {N B K:Nat} {hs:Nat×Bool} {m bn now so:Nat} {pl:Nat→Nat} {L:List (Nat×Ent)} {o:AOp} {v:SV} {C0:HP}
attribute [local irreducible] PV CND GRD L1 LN S1 SN NEW NEWS MKS MKM LK MU DEL LENM APP CPY BTS Call CallV
theorem c_Do1 {K:World→Prop} {ev:List AEv} {er:Int} {hit:Bool} {rv xv:SV} {x:Ent} {cu:Nat} (hv:o.val.length≤100000) (H:Own w.hp [pt t3 (opC o v),pt t4 (rsM er hit rv x xv cu),pt t6 [ptrV pc],cac pc N B hs m L bn now ev,imm (svV v) o.val,C0])
  (h:∀w' vo evv xs,xs.map evA=ev→Own w'.hp [pt t4 (rsC o vo now er hit rv x xv cu evv L.length (sumC (aOf L))),cac pc N B hs m L bn now [],sle (svV evv) evE xs,C0]→K w'):CallD Pg 18 #[ptrV t3,ptrV t4,ptrV t6] w K:=by
 refine c_18 ?_
 simp only[F_18]
 refine LNw (b:=t3) (w:=w.drew) H rfl ?_
 refine Ob ?_
 refine L1o (b:=t3) (w:=w) H rfl ?_
 refine k_bytes_Clone (v:=v) (bs:=o.val) (w:=w.drew) H (by omega) fun vo w H=>?_
 refine⟨LNw (b:=t3) H rfl rfl,?_⟩
 refine Ob ?_
 refine SNo (b:=t4) H rfl (Nat.le_of_ble_eq_true rfl) (opC_one o v) fun w H=>?_
 refine Ob ?_
 refine S1o (b:=t4) H rfl rfl fun w H=>?_
 refine Ob ?_
 refine L1o (b:=t6) H rfl ?_
 refine L1o (b:=t6) H rfl ?_
 refine L1o (b:=t6) H rfl ?_
 refine L1o (b:=t6) H rfl ?_
 refine k_Now (p:=pc) (w:=w.drew) H ?_
 refine Ob ?_
 refine⟨L1o (b:=t6) (w:=w) H rfl rfl,L1o (b:=t6) (w:=w) H rfl rfl,L1o (b:=t6) (w:=w) H rfl rfl,?_⟩
 refine k_Drain (p:=pc) (w:=w.drew) H fun s' xs w hxs H=>?_
 obtain⟨a1,a2,rfl⟩:=sle_slc H
 refine⟨L1o (b:=t6) (w:=w) H rfl rfl,L1o (b:=t6) (w:=w) H rfl rfl,?_⟩
 refine k_Len (p:=pc) H ?_
 refine⟨L1o (b:=t6) (w:=w) H rfl rfl,?_⟩
 refine k_Cost (p:=pc) H fun w H=>?_
 refine Ob ?_
 refine S1o (b:=t4) H rfl rfl fun w H=>?_
 refine Ob ?_
 refine S1o (b:=t4) H rfl rfl fun w H=>?_
 refine Ob ?_
 refine S1o (b:=t4) H rfl rfl fun w H=>?_
 refine Ob ?_
 refine S1o (b:=t4) H rfl rfl fun w H=>?_
 refine h w vo (a1,xs.length,a2) xs hxs ?_
 exact H.mv8.mv1.mv7.mv6.dp4.dp4.dp4.dp4.dp4
theorem RET_Do1 {K:World→Prop} (h:CallD Pg 18 #[ptrV t3,ptrV t4,ptrV t6] w K):RET Pg ({target:=.fn (.func 18) #[ptrV t3,ptrV t4,ptrV t6],args:=#[]}::[]) w K:=⟨Tryz.calOk _ (by rfl),h⟩
def DoPost (p pc N B:Nat) (hs:Nat×Bool) (m:Nat) (L:List (Nat×Ent)) (bn now so:Nat) (o:AOp) (C0:HP) (R:Value→World→Prop):Prop:=
 ∀w' m' L' bn' now' o' ev' er hit rv bs x xv cu pl' vo evv xs,Gd N m o.kind (stp N (stOf L bn now so) o) m' L' bn' now' o' ev' er hit bs→xs.map evA=ev'→
  Own w'.hp [glb,knd,cac pc N B hs m' L' bn' now' [],crs p pc o' pl',imm (svV rv) bs,sle (svV evv) evE xs,C0]→
   R (.tuple #[.agg (rsC o vo now' er hit rv x xv cu evv L'.length (sumC (aOf L'))).toArray,.int .i64 0]) w'
theorem k_Do (h8:o.kind≠8) (hp:Pre N B K m L bn o) (H:Own w.hp [glb,knd,cac pc N B hs m L bn now [],crs p pc so pl,imm (svV v) o.val,C0])
  (h:DoPost p pc N B hs m L bn now so o C0 R):Call Pg 9 #[ptrV p,.agg (opC o v).toArray] w R:=by
 obtain⟨hsl,⟨hnow,hbn⟩,_,hent⟩:=cac_slots H.mv2
 have hN2:=hp.N2
 have hlen:=hp.len
 have hto:=addT_lt (d:=o.ticks) hnow
 have hmax:=addT_max (d:=o.ticks) hnow
 have hnl:(notDue L (addT now o.ticks)).length≤L.length:=ndl_len
 have hval:=hp.op.val
 refine c_9 ?_
 simp only[F_9]
 refine NEWo H fun t3 w H=>?_
 have H:Own w.hp (pt t3 (opC o v)::_):=H
 refine NEWo H fun t4 w H=>?_
 have H:Own w.hp (pt t4 (rsM 0 false sv0 ent0 sv0 0)::_):=H
 refine k_cur_Cache (p:=p) H ?_
 refine NEWo H fun t6 w H=>?_
 refine S1o (b:=t6) H rfl rfl fun w H=>?_
 have H:Own w.hp (pt t6 [ptrV pc]::_):=H
 refine L1o (b:=t6) H rfl ?_
 refine Ob ?_
 refine LNw (b:=t3) H rfl ?_
 refine c_known (k:=o.kind) H hp.op.kind rfl rfl fun w H=>?_
 refine Ob ?_
 refine L1o (b:=t6) H rfl ?_
 refine L1o (b:=t3) H rfl ?_
 refine k_Now (p:=pc) (w:=w.drew) H ?_
 refine Ob ?_
 refine⟨L1o (b:=t3) (w:=w) H rfl rfl,?_⟩
 refine c_tick_Add (w:=w.drew) hnow ?_
 refine Ob ?_
 refine L1o (b:=t3) (w:=w) H rfl ?_
 have H:=imdup (v:=svV v) H
 have Hp:=all5.2 H.mv8.mv8.mv8.mv7.mv6.mv9.mv9.mv7.mv8.mv9
 have htail:Fin p pc t4 N B hs m L bn now so o (.all [pt t3 (opC o v),pt t6 [ptrV pc],imm (svV v) o.val,knd,C0]) (fun w=>LN 21 (ptrV t4) w fun t71=>SN 21 (ptrV t4) t71 w fun w_13=>
   RET Pg ({target:=.fn (.func 18) #[ptrV t3,ptrV t4,ptrV t6],args:=#[]}::[]) w_13 fun w_14=>LN 21 (ptrV t4) w_14 fun r4=>R (.tuple #[r4,.int .i64 0]) w_14):=by
  intro w m' L' bn' now' o' ev' er hit rv bs x xv cu pl' F hg H
  refine LNw (b:=t4) H rfl ?_
  refine SNw (b:=t4) H rfl rfl rsC_one fun w H=>?_
  refine RET_Do1 ?_
  have H:=all5.1 H.mv4.mv4.mv4.mv4.mv4.mv6.dp6
  refine c_Do1 (C0:=.all [glb,knd,crs p pc o' pl',imm (svV rv) bs,C0]) (by omega) (all5.2 H.mv2.mv7.mv3.mv6.mv4.mv6.mv9.mv9.mv8.mv9).mv5.mv5.mv5.mv5.mv5 fun w vo evv xs hxs H=>?_
  refine LNw (b:=t4) H rfl ?_
  have H:=all5.1 H.mv2.mv2.mv2.mv3
  exact h w m' L' bn' now' o' ev' er hit rv bs x xv cu pl' vo evv xs hg hxs H.mv4.mv7.mv5.mv5.mv7.mv6.mv6.dp7
 have hkk:(1≤o.kind∧o.kind≤6)∨o.kind=7∨o.kind=9∨o.kind=10∨o.kind=11∨o.kind=12∨o.kind=13∨o.kind=14:=by
  have :=hp.op.kind
  simp only[kindsL,List.mem_cons,List.not_mem_nil,or_false] at this
  omega
 have Hq:=Hp.mv5.mv5.mv5.mv5.mv5
 rcases hkk with hk |hk |hk |hk |hk |hk |hk |hk
 ·refine Ob ?_
  refine LNw (b:=t3) (w:=w) H rfl ?_
  exact k_keyed (by omega) hp Hq htail
 ·refine Ob ?_
  refine L1o (b:=t6) (w:=w) H rfl ?_
  refine k_Clear (w:=w.drew) hto (by simp;omega) (all4.2 Hp.mv3.mv3.mv2.mv5.mv5.mv5).mv2.mv2 fun X Z F hX hX1 hZ hZl=>?_
  rw[hmax] at *
  refine aft_in (K:=K) (by simp) (by simp) hp.hB fun w L3 hL3 H=>?_
  have H:=all4.1 H.mv2.mv2.mv2.mv3
  refine Ob ?_
  refine S1o (b:=t4) H rfl rfl fun w H=>?_
  have H:=imm_nil H
  refine htail w _ L3 bn _ so _ 0 false sv0 [] ent0 sv0 0 pl _ ?_ H.mv4.mv4.mv2.mv4.mv6.mv6.mv6.dp7
  rw[stp7 hk]
  refine Gd.adv hL3 (by simp) ?_ (by simp;omega) rfl rfl rfl rfl
  rw[nE_app,nE_app,nE_no (l:=X) (by decide) hX1,nE_no (l:=Z) (by decide) hZ];rfl
 ·refine Ob ?_
  refine L1o (b:=t6) (w:=w) H rfl ?_
  refine k_Compact (w:=w.drew) hto (by simp;omega) Hp.mv5.mv5.mv3.mv5.mv5 fun X hX hX1=>?_
  rw[hmax] at *
  refine aft_in (K:=K) (Nat.le_trans ndl_len hp.len) (fun x hx=>hp.cost x (nd_sub x hx)) hp.hB fun w L3 hL3 H=>?_
  refine Ob ?_
  refine S1o (b:=t4) H rfl rfl fun w H=>?_
  have H:=imm_nil H
  refine htail w _ L3 bn _ so _ 0 false sv0 [] ent0 sv0 0 pl (.pu True) ?_ (own_pu.2 ⟨trivial,H.mv6.mv1.mv5.mv4.mv4.mv5.dp6⟩).bk5
  rw[stp9 hk,upU_of]
  exact Gd.adv hL3 (by omega) (nE_no (by decide) hX1) (by simp;omega) rfl rfl rfl rfl
 ·refine Ob ?_
  refine L1o (b:=t6) (w:=w) H rfl ?_
  refine k_Advance (w:=w.drew) hto (by simp;omega) Hp.mv5.mv5.mv3.mv5.mv5 fun X hX hX1=>?_
  rw[hmax] at *
  refine aft_in (K:=K) (Nat.le_trans ndl_len hp.len) (fun x hx=>hp.cost x (nd_sub x hx)) hp.hB fun w L3 hL3 H=>?_
  refine Ob ?_
  refine S1o (b:=t4) H rfl rfl fun w H=>?_
  have H:=imm_nil H
  refine htail w _ L3 bn _ so _ 0 false sv0 [] ent0 sv0 0 pl (.pu True) ?_ (own_pu.2 ⟨trivial,H.mv6.mv1.mv5.mv4.mv4.mv5.dp6⟩).bk5
  rw[stp10 hk,upU_of]
  exact Gd.adv hL3 (by omega) (nE_no (by decide) hX1) (by simp;omega) rfl rfl rfl rfl
 ·refine Ob ?_
  refine LNw (b:=t3) (w:=w) H rfl ?_
  exact k_aimed (.inl hk) hp Hq htail
 ·refine Ob ?_
  refine LNw (b:=t3) (w:=w) H rfl ?_
  exact k_aimed (.inr (.inl hk)) hp Hq htail
 ·refine Ob ?_
  refine LNw (b:=t3) (w:=w) H rfl ?_
  exact k_aimed (.inr (.inr (.inl hk))) hp Hq htail
 ·refine Ob ?_
  refine LNw (b:=t3) (w:=w) H rfl ?_
  exact k_aimed (.inr (.inr (.inr hk))) hp Hq htail
end
end Go.Cub
