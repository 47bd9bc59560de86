/-
  Part 32 of the proof that TopNested returns true and leaves what it was given as it was. CONDITIONS: those of the given row and card.
-/
import Derived.Test.YtpelalpajdpkgaaGreatDoorZ30
set_option linter.all false
namespace Go.Cub
open Go Go.Proofs Go.IntWalk
def foldP (ps:List Prt) (s:PS):PS:=ps.foldl (fun s p=>p.2.2 s) s
def readO (bs:List UInt8):PS:=
 let x:=numL (tk 1 bs)
 let k:=kindsL.getD (x%16) 0
 let s:PS:=if x/16=15 then(⟨k,15+numL (tk 1 (bs.drop 1)),⟨#[]⟩,[],0,0,0,0,0⟩,(bs.drop 1).drop 1) else(⟨k,x/16,⟨#[]⟩,[],0,0,0,0,0⟩,bs.drop 1)
 foldP (prtL k) s
def parseF:Nat→List UInt8→List AOp
 |0,_=>[]
 |n+1,bs=>if bs.length=0 then[] else(readO bs).1::parseF n (readO bs).2
def parseL (bs:List UInt8):List AOp:=parseF bs.length bs
structure OpOk (o:AOp):Prop where
 kind:o.kind∈kindsL
 key:o.key.size≤31
 val:o.val.length≤255
 bir:o.bir<65536
theorem kindAt (x:Nat):kindsL.getD (x%16) 0∈kindsL:=by
 have h:∀i,i<16→kindsL.getD i 0∈kindsL:=by decide
 exact h _ (Nat.mod_lt _ (by decide))
theorem part_ok {k:Nat} {s:PS} (hs:OpOk s.1):∀p∈prtL k,OpOk (p.2.2 s).1∧(p.2.2 s).2.length≤s.2.length∧(p.2.2 s).1.kind=s.1.kind:=by
 have h1:OpOk (prKey.2.2 s).1∧(prKey.2.2 s).2.length≤s.2.length∧(prKey.2.2 s).1.kind=s.1.kind:=by
  refine⟨{hs with key:=?_},by simp[prKey,pKey],rfl⟩
  show(ByteArray.mk _).size≤31
  have e:(ByteArray.mk (tk (numL (tk 1 s.2)%32) (s.2.drop 1)).toArray).size=(tk (numL (tk 1 s.2)%32) (s.2.drop 1)).length:=by simp[ByteArray.size]
  show(ByteArray.mk (tk (numL (tk 1 s.2)%32) (s.2.drop 1)).toArray).size≤31
  rw[e,tk_len]
  omega
 have h2:OpOk (prVal.2.2 s).1∧(prVal.2.2 s).2.length≤s.2.length∧(prVal.2.2 s).1.kind=s.1.kind:=by
  refine⟨{hs with val:=?_},by simp[prVal,pVal],rfl⟩
  show(tk (numL (tk 1 s.2)) (s.2.drop 1)).length≤255
  rw[tk_len]
  have :=num1 s.2
  omega
 have h3:OpOk (prTtl.2.2 s).1∧(prTtl.2.2 s).2.length≤s.2.length∧(prTtl.2.2 s).1.kind=s.1.kind:=⟨{hs with },by simp[prTtl,pTtl],rfl⟩
 have h4:OpOk (prBud.2.2 s).1∧(prBud.2.2 s).2.length≤s.2.length∧(prBud.2.2 s).1.kind=s.1.kind:=⟨{hs with },by simp[prBud,pBud],rfl⟩
 have h5:OpOk (prAim.2.2 s).1∧(prAim.2.2 s).2.length≤s.2.length∧(prAim.2.2 s).1.kind=s.1.kind:=⟨{hs with },by simp[prAim,pAim],rfl⟩
 have h6:OpOk (prBir.2.2 s).1∧(prBir.2.2 s).2.length≤s.2.length∧(prBir.2.2 s).1.kind=s.1.kind:=⟨{hs with bir:=num2 s.2},by simp[prBir,pBir],rfl⟩
 intro p hp
 unfold prtL at hp
 split at hp<;>simp only[List.mem_cons,List.not_mem_nil,or_false] at hp<;>first |exact hp.elim |skip
 all_goals first |(subst hp;assumption) |(rcases hp with rfl |rfl |rfl<;>assumption) |(rcases hp with rfl |rfl<;>assumption)
theorem fold_ok {k:Nat}:∀(ps:List Prt) (s:PS),(∀p∈ps,p∈prtL k)→OpOk s.1→OpOk (foldP ps s).1∧(foldP ps s).2.length≤s.2.length∧(foldP ps s).1.kind=s.1.kind
 |[],s,_,hs=>⟨hs,Nat.le_refl _,rfl⟩
 |p::ps,s,hp,hs=>by
  obtain⟨a1,a2,a3⟩:=part_ok hs p (hp p (by simp))
  obtain⟨b1,b2,b3⟩:=fold_ok ps (p.2.2 s) (fun q hq=>hp q (by simp[hq])) a1
  exact⟨b1,Nat.le_trans b2 a2,b3.trans a3⟩
theorem readO_ok {bs:List UInt8}:OpOk (readO bs).1∧(readO bs).2.length≤bs.length - 1:=by
 have hk:=kindAt (numL (tk 1 bs))
 unfold readO
 simp only
 split
 ·obtain⟨h1,h2,_⟩:=fold_ok (prtL (kindsL.getD (numL (tk 1 bs)%16) 0)) (⟨kindsL.getD (numL (tk 1 bs)%16) 0,15+numL (tk 1 (bs.drop 1)),⟨#[]⟩,[],0,0,0,0,0⟩,(bs.drop 1).drop 1) (fun _ h=>h) ⟨hk,(by decide:(ByteArray.mk #[]).size≤31),by simp,by simp⟩
  exact⟨h1,Nat.le_trans h2 (by simp;omega)⟩
 ·obtain⟨h1,h2,_⟩:=fold_ok (prtL (kindsL.getD (numL (tk 1 bs)%16) 0)) (⟨kindsL.getD (numL (tk 1 bs)%16) 0,numL (tk 1 bs)/16,⟨#[]⟩,[],0,0,0,0,0⟩,bs.drop 1) (fun _ h=>h) ⟨hk,(by decide:(ByteArray.mk #[]).size≤31),by simp,by simp⟩
  exact⟨h1,Nat.le_trans h2 (by simp)⟩
theorem parseF_ok:∀(n:Nat) (bs:List UInt8),(∀o∈parseF n bs,OpOk o)∧(parseF n bs).length≤n
 |0,bs=>⟨by simp[parseF],by simp[parseF]⟩
 |n+1,bs=>by
  obtain⟨h1,h2⟩:=parseF_ok n (readO bs).2
  unfold parseF
  split
  ·exact⟨by simp,by simp⟩
  ·refine⟨?_,by simp;exact h2⟩
   intro o ho
   rcases List.mem_cons.1 ho with rfl |ho
   ·exact readO_ok.1
   ·exact h1 o ho
theorem parseL_ok (bs:List UInt8):(∀o∈parseL bs,OpOk o)∧(parseL bs).length≤bs.length:=parseF_ok _ _
section
variable {R:Value→World→Prop} {w:World} {C:List HP} {u u2:HP→List HP} {rd n t2 t4:Nat} {bs:List UInt8} {o:AOp} {v:SV} {zs:List Value}
attribute [local irreducible] PV CND GRD L1 LN S1 SN NEW NEWS MKS MKM LK MU DEL LENM APP CPY BTS Call CallV
theorem read_6 {t:Value} {ps:List Prt} (hps:∀p∈ps,Part p.1 p.2.2) (hpl:ps.length≤10) (hz:zs.length=9)
  (h:∀w' v',Own w'.hp (imm (svV v') (foldP ps (o,bs)).1.val::rdr rd (foldP ps (o,bs)).2::C)→R (.agg (opC (foldP ps (o,bs)).1 v').toArray) w'):
  ∀(k j:Nat) (s:PS) (v:SV) (w:World),j+k=ps.length→foldP ps (o,bs)=foldP (ps.drop j) s→Own w.hp (sle t partE ps::rdr rd s.2::pt t4 (opC s.1 v)::imm (svV v) s.1.val::pt t2 zs::C)→
   B_16_6 R (ptrV rd) (ptrV t2) (ptrV t4) t (.int .i64 ps.length) (.int .i64 j) w:=by
 intro k
 induction k with
 |zero=>
  intro j s v w hj he H
  rw[List.drop_eq_nil_of_le (by omega)] at he
  have he:foldP ps (o,bs)=s:=he
  rw[he] at h
  refine B_16_6.intro ?_
  simp only[P_16_6]
  refine Ob ?_
  refine LNw (b:=t4) H rfl ?_
  refine SNw (b:=t2) (w:=w) (cs:=zs) H rfl hz (opC_one s.1 v) fun w H=>?_
  refine LNw (b:=t2) H rfl ?_
  exact h w v H.mv1.mv3.dp2.dp2.dp2
 |succ k ih=>
  intro j s v w hj he H
  have hlt:j<ps.length:=by omega
  rw[List.drop_eq_getElem_cons hlt] at he
  refine B_16_6.intro ?_
  simp only[P_16_6]
  refine Ob ?_
  refine idxo (v:=t) (E:=partE) H hlt ?_
  refine LNe (v:=t) (E:=partE) H (List.getElem?_eq_getElem hlt) ?_
  refine NEWo H fun t6 w H=>?_
  refine SNw (b:=t6) H rfl rfl (partE.one _) fun w H=>?_
  refine Ob ?_
  refine L1o (b:=t6) H rfl ?_
  refine hps ps[j] (List.getElem_mem hlt) w _ rd t4 s.1 s.2 v _ H.mv5.mv2.mv5.mv5.mv5.dp5 fun w' v' H=>?_
  refine Ob ?_
  rw[show((j:Int)+1)=((j+1:Nat):Int) by simp]
  exact ih (j+1) _ v' w' (by omega) he H.mv4.mv3.mv3.mv3.mv4
theorem read_5 (hk:o.kind∈kindsL) (hz:zs.length=9) (H:Own w.hp (rdr rd bs::pt t4 (opC o v)::imm (svV v) o.val::pt t2 zs::C))
  (h:∀w' v',Own w'.hp (imm (svV v') (foldP (prtL o.kind) (o,bs)).1.val::rdr rd (foldP (prtL o.kind) (o,bs)).2::C)→R (.agg (opC (foldP (prtL o.kind) (o,bs)).1 v').toArray) w'):B_16_5 R (ptrV rd) (ptrV t2) (ptrV t4) w:=by
 refine B_16_5.intro ?_
 simp only[P_16_5]
 refine Ob ?_
 refine L1o (b:=t4) H rfl ?_
 refine c_parts hk H fun t w H=>?_
 rw[leno (v:=t) H]
 refine Ob ?_
 have hl:(prtL o.kind).length≤10:=by
  refine kinds_cases (P:=fun k=>(prtL k).length≤10) ?_ ?_ ?_ ?_ ?_ ?_ ?_ ?_ ?_ ?_ ?_ ?_ ?_ ?_ hk<;>decide
 exact read_6 (prtL_ok _) hl hz h (prtL o.kind).length 0 (o,bs) v w (by omega) rfl H
theorem k_read (H:Own w.hp (rdr rd bs::knd::C)) (h:∀w' v,Own w'.hp (imm (svV v) (readO bs).1.val::rdr rd (readO bs).2::knd::C)→R (.agg (opC (readO bs).1 v).toArray) w'):Call Pg 16 #[ptrV rd] w R:=by
 have hx:=num1 bs
 have hy:=num1 (bs.drop 1)
 have hkk:=kindAt (numL (tk 1 bs))
 refine c_16 ?_
 simp only[F_16]
 refine NEWo H fun t2 w H=>?_
 refine k_number (n:=1) (rd:=rd) H (by omega) fun w H=>?_
 dsimp only[readO] at h
 generalize numL (tk 1 bs)=x at *
 rw[rem16]
 refine Ob ?_
 have H:Own w.hp (_::_::prd 0 (kindsL.map fun n=>.int .i64 (n:Nat))::C):=H
 refine L1r (b:=0) H (v:=.int .i64 (kindsL.getD (x%16) 0:Nat)) ?_ ?_
 ·have hl:x%16<kindsL.length:=Nat.mod_lt _ (by decide)
  rw[Nat.mul_one,List.getElem?_map,List.getElem?_eq_getElem hl,List.getD_eq_getElem?_getD,List.getElem?_eq_getElem hl];rfl
 rw[show((x:Nat):Int).tdiv 16=((x/16:Nat):Int) from rfl]
 refine Ob ?_
 have H:Own w.hp (pt t2 _::rdr rd (bs.drop 1)::knd::C):=H
 generalize hk:kindsL.getD (x%16) 0=k at *
 refine PV_of (v:=.agg (opC ⟨k,x/16,⟨#[]⟩,[],0,0,0,0,0⟩ sv0).toArray) rfl ?_
 refine NEWo H fun t4 w H=>?_
 refine SNw (b:=t4) H rfl rfl (opC_one _ _) fun w H=>?_
 have H:=imm_nil H
 by_cases h15:x/16=15
 ·rw[if_pos h15] at h
  have h15':((x/16:Nat):Int)=15:=by omega
  rw[h15'] at *
  refine Ob ?_
  refine L1o (b:=t4) (w:=w) H rfl ?_
  refine k_number (n:=1) (rd:=rd) (w:=w.drew) H (by omega) fun w H=>?_
  refine Ob ?_
  refine⟨L1o (b:=t4) H rfl rfl,?_⟩
  rw[show((x/16:Nat):Int)+(numL (tk 1 (bs.drop 1)):Nat)=((15+numL (tk 1 (bs.drop 1)):Nat):Int) by omega]
  refine S1o (b:=t4) H rfl rfl fun w H=>?_
  exact read_5 (o:=⟨k,15+numL (tk 1 (bs.drop 1)),⟨#[]⟩,[],0,0,0,0,0⟩) (v:=sv0) hkk rfl H.mv2.mv1.mv2.mv3 h
 ·rw[if_neg h15] at h
  have h15':¬((x/16:Nat):Int)=15:=by omega
  refine Ob ?_
  exact read_5 (o:=⟨k,x/16,⟨#[]⟩,[],0,0,0,0,0⟩) (v:=sv0) hkk rfl H.mv2.mv1.mv2.mv3 h
theorem parse_5:∀(n:Nat) (bs:List UInt8) (w:World) (s5:Value) (M:List (AOp×SV)),bs.length≤n→M.length+n≤5000→Own w.hp (sle s5 opE M::imL (opB M)::rdr rd bs::knd::C)→
  (∀t M' w',M'.map (·.1)=M.map (·.1)++parseF n bs→Own w'.hp (sle t opE M'::imL (opB M')::knd::C)→R (.tuple #[t,.int .i64 0]) w')→B_8_5 R (ptrV rd) s5 w:=by
 intro n
 induction n with
 |zero=>
  intro bs w s5 M hl hM H h
  have hb:bs=[]:=by simpa using hl
  subst hb
  refine B_8_5.intro ?_
  simp only[P_8_5]
  obtain⟨v,H1⟩:=rdr_iff.1 H.mv2.dp1.dp1.dp1
  refine L1o (b:=rd) H1 rfl ?_
  rw[imlen (v:=svV v) (bs:=[]) H1]
  refine Ob ?_
  exact h s5 M w (by simp[parseF]) H.mv3.mv2.mv2.dp3
 |succ n ih=>
  intro bs w s5 M hl hM H h
  refine B_8_5.intro ?_
  simp only[P_8_5]
  obtain⟨v,H1⟩:=rdr_iff.1 H.mv2.dp1.dp1.dp1
  refine L1o (b:=rd) H1 rfl ?_
  rw[imlen (v:=svV v) (bs:=bs) H1]
  by_cases h0:bs.length=0
  ·have h0':¬((0:Int)<(bs.length:Nat)):=by omega
   refine Ob ?_
   exact h s5 M w (by simp[parseF,h0]) H.mv3.mv2.mv2.dp3
  ·have h0':((0:Int)<(bs.length:Nat)):=by omega
   refine Ob ?_
   refine k_read (rd:=rd) H.mv1.mv1.mv3.mv3 fun w v H=>?_
   refine NEWSo opE [((readO bs).1,v)] H (cs:=(opC (readO bs).1 v).toArray) (by simp[buildS,buildSl,Instr.fill,opC,zeros]) (by simp[Enc.fl,opE]) rfl fun tt w H=>?_
   refine APPo (E:=opE) (ys:=[((readO bs).1,v)]) (v:=s5) H rfl (by decide) (by simp;omega) fun s5' w H=>?_
   have H:=imL_join (imL_one H.mv3.mv3.mv4.mv5.mv5.dp5).mv1
   have e6:opB (M++[((readO bs).1,v)])=opB M++[(v,(readO bs).1.val)]:=by simp[opB]
   rw[←e6] at H
   have hr:=(readO_ok (bs:=bs)).2
   refine ih (readO bs).2 w s5' (M++[((readO bs).1,v)]) (by omega) (by simp;omega) H.mv3.mv3.mv2.mv3 fun t M' w' hM' H=>?_
   refine h t M' w' ?_ H
   rw[hM',parseF,if_neg h0]
   simp
theorem k_Parse {v:SV} (hl:bs.length≤4096) (H:Own w.hp (imm (svV v) bs::knd::C)) (h:∀t M w',M.map (·.1)=parseL bs→Own w'.hp (sle t opE M::imL (opB M)::knd::C)→R (.tuple #[t,.int .i64 0]) w'):Call Pg 8 #[svV v] w R:=by
 refine c_8 ?_
 simp only[F_8]
 rw[imlen (v:=svV v) (bs:=bs) H]
 refine Ob ?_
 refine NEWo H fun rd w H=>?_
 refine S1o (b:=rd) H rfl rfl fun w H=>?_
 have H:Own w.hp (pt rd [svV v]::imm (svV v) bs::knd::C):=H
 have H:=sl_nil opE (imL_nil (rdr_iff.2 ⟨v,H⟩))
 exact parse_5 bs.length bs w _ [] (Nat.le_refl _) (by simp;omega) H fun t M' w' hM' H=>h t M' w' (by simpa[parseL] using hM') H
end
end Go.Cub
namespace Go.Cub
open Go Go.Proofs Go.IntWalk
theorem addT_lt {t d:Nat} (ht:t<18446744073709551616):addT t d<18446744073709551616:=by
 unfold addT
 split<;>omega
theorem addT_max {t d:Nat} (ht:t<18446744073709551616):max t (addT t d)=addT t d:=by
 unfold addT
 split<;>omega
def nE (l:List AEv):Nat:=(l.filter fun x=>decide (x.1=2)).length
theorem nE_app (a b:List AEv):nE (a++b)=nE a+nE b:=by simp[nE]
theorem nE_no {l:List AEv} {k:Nat} (hk:k≠2) (h:∀x∈l,x.1=k):nE l=0:=by
 unfold nE
 rw[List.length_eq_zero_iff,List.filter_eq_nil_iff]
 intro x hx
 simp[h x hx,hk]
theorem nE_one {e:Ent} {t k:Nat} (hk:k≠2):nE [(k,e,t)]=0:=by simp[nE,hk]
section
variable {L M:List (Nat×Ent)} {s t K N:Nat} {e:Ent} {key:ByteArray}
theorem nd_map:(notDue L t).map (·.2)=(L.map (·.2)).filter fun e=> !dueT e.dl t:=by
 unfold notDue
 rw[List.filter_map]
 rfl
theorem ndl_len:(notDue L t).length≤L.length:=List.length_filter_le _ _
theorem nd_sub:∀x∈notDue L t,x∈L:=fun _ h=>(List.mem_filter.1 h).1
theorem inj_of_nd {α β:Type} {f:α→β}:∀ {l:List α},(l.map f).Nodup→∀ {x y:α},x∈l→y∈l→f x=f y→x=y
 |a::l,hn,x,y,hx,hy,e=>by
  simp only[List.map_cons,List.nodup_cons] at hn
  rcases List.mem_cons.1 hx with h1 |h1<;>rcases List.mem_cons.1 hy with h2 |h2
  ·rw[h1,h2]
  ·exact absurd (List.mem_map.2 ⟨y,h2,by rw[←e,h1]⟩) hn.1
  ·exact absurd (List.mem_map.2 ⟨x,h1,by rw[e,h2]⟩) hn.1
  ·exact inj_of_nd hn.2 h1 h2 e
theorem del_map (hs:(M.map (·.1)).Nodup) (hk:((M.map (·.2)).map (·.key)).Nodup) (h:(s,e)∈M):(delL M s).map (·.2)=delK (M.map (·.2)) e.key:=by
 unfold delL delK
 rw[List.filter_map]
 congr 1
 apply List.filter_congr
 intro x hx
 rw[List.map_map] at hk
 have h1:x.1=s↔x.2.key=e.key:=by
  constructor
  ·intro e1
   rw[inj_of_nd hs hx h e1]
  ·intro e1
   rw[inj_of_nd (f:=(fun y:Ent=>y.key) ∘ fun y:Nat×Ent=>y.2) hk hx h e1]
 simp only[Function.comp,decide_eq_decide,ne_eq,h1]
theorem look_in (hk:((M.map (·.2)).map (·.key)).Nodup) (h:(s,e)∈M) (he:e.key=key):lookU (M.map (·.2)) key=some e:=lookU_eq hk (List.mem_map.2 ⟨(s,e),h,rfl⟩) he
theorem look_out (h:∀x∈M,x.2.key≠key):lookU (M.map (·.2)) key=none:=by
 refine lookU_none' fun e he=>?_
 obtain⟨x,hx,rfl⟩:=List.mem_map.1 he
 exact h x hx
theorem sum_le:∀ {L:List (Nat×Ent)},(∀x∈L,costE x.2≤K)→sumC (aOf L)≤L.length * K
 |[],_=>by simp[sumC,aOf]
 |x::L,h=>by
  have h1:=h x (by simp)
  have h2:=sum_le (L:=L) fun y hy=>h y (by simp[hy])
  simp only[sumC,aOf,List.map_cons,List.sum_cons,List.length_cons,Nat.add_mul,Nat.one_mul] at h2 ⊢
  omega
end
section
variable {p N B K:Nat} {hs:Nat×Bool} {keep:Nat} {L2 M:List (Nat×Ent)} {bn2 now:Nat} {ev2:List AEv} {C2:List HP} {K0:World→Prop} {s:Nat} {e:Ent}
theorem aft_in (hl:L2.length≤N) (hc:∀x∈L2,costE x.2≤K) (hB:(N+1) * K≤B)
  (h:∀w' L3,L3.map (·.2)=L2.map (·.2)→Own w'.hp (glb::cac p N B hs (2 * L2.length+16) L3 bn2 now ev2::C2)→K0 w'):AftRun p N B hs keep L2 bn2 now ev2 C2 K0:=by
 intro w'' L3 Y hY2 hY hL3 H
 have h1:=sum_le hc
 have h2:L2.length * K≤(N+1) * K:=Nat.mul_le_mul_right _ (by omega)
 have hv:=vics_none (keep:=keep) hl (Nat.le_trans h1 (Nat.le_trans h2 hB))
 rw[hv] at hY hL3 H
 have hY0:Y=[]:=by simpa using hY
 subst hY0
 rw[outL_nil] at hL3 H
 rw[List.append_nil] at H
 exact h w'' L3 hL3 H
theorem aft_full (hN:1≤N) (hl:M.length=N) (hc:∀x∈M++[(s,e)],costE x.2≤K) (hB:(N+1) * K≤B) (hn:((M++[(s,e)]).map (·.1)).Nodup)
  (h:∀w' L3 y,y.1=2→L3.map (·.2)=(M.map (·.2)++[e]).tail→Own w'.hp (glb::cac p N B hs (2 * N+16) L3 bn2 now (ev2++[y])::C2)→K0 w'):AftRun p N B hs s (M++[(s,e)]) bn2 now ev2 C2 K0:=by
 intro w'' L3 Y hY2 hY hL3 H
 have h1:=sum_le hc
 have h3:(M++[(s,e)]).length=N+1:=by simp[hl]
 rw[h3] at h1
 obtain⟨g1,g2⟩:=vics_one hN hl (Nat.le_trans h1 hB) hn
 rw[g1] at hY
 rw[g2] at hL3 H
 match Y,hY with
 |[y],_=>
  have h4:(M++[(s,e)]).tail.length=N:=by simp[hl]
  rw[h4] at H
  refine h w'' L3 y (hY2 y (by simp)) ?_ H
  rw[hL3,List.map_tail]
  simp
end
structure Gd (N m kd:Nat) (r:CSt×Rs) (m':Nat) (L':List (Nat×Ent)) (bn' now' o':Nat) (ev':List AEv) (er:Int) (hit:Bool) (bs:List UInt8):Prop where
 U:L'.map (·.2)=r.1.U
 m:m'≤max m (2 * N+16)
 bn:bn'=r.1.bn
 now:now'=r.1.now
 o:o'=r.1.o
 ev:nE ev'=r.2.nev
 len:ev'.length≤2 * N+2
 er:kd≠12→er=r.2.err
 hit:hit=r.2.hit
 val:bs=r.2.val
def stOf (L:List (Nat×Ent)) (bn now o:Nat):CSt:=⟨L.map (·.2),bn,now,o⟩
structure Pre (N B K m:Nat) (L:List (Nat×Ent)) (bn:Nat) (o:AOp):Prop where
 N1:1≤N
 N2:N≤100000
 hK:K≤100000
 hB:(N+1) * K≤B
 m:m<4194304
 bn:bn<18446744073709551614
 nd:((L.map (·.2)).map (·.key)).Nodup
 len:L.length≤N
 cost:∀x∈L,costE x.2≤K
 op:OpOk o
 ocost:o.key.size+o.val.length+48≤K
theorem StOk.sub {N K nb:Nat} {s:CSt} {U:List Ent} {bn' now' o':Nat} (h:StOk N K nb s) (hs:U.Sublist s.U) (hb:bn'≤nb+1):StOk N K (nb+1) ⟨U,bn',now',o'⟩:=
 ⟨(hs.map _).nodup h.nd,Nat.le_trans hs.length_le h.len,fun e he=>h.cost e (hs.subset he),hb⟩
theorem StOk.same {N K nb:Nat} {s:CSt} (h:StOk N K nb s):StOk N K (nb+1) s:=⟨h.nd,h.len,h.cost,Nat.le_succ_of_le h.bn⟩
theorem StOk.up {N K nb:Nat} {s:CSt} (h:StOk N K nb s) (o:AOp):StOk N K (nb+1) (advS s o (upU s o)):=h.sub List.filter_sublist (Nat.le_succ_of_le h.bn)
theorem StOk.use {N K nb:Nat} {s:CSt} {o:AOp} {e:Ent} {k:ByteArray} (h:StOk N K nb s) (he:(lookU (upU s o) k).isSome) (hk:e.key=k) (hc:costE e≤K):StOk N K (nb+1) (advS s o (delK (upU s o) k++[e])):=by
 have hu:=h.up o
 obtain⟨f,hf⟩:=Option.isSome_iff_exists.1 he
 obtain⟨h1,h2⟩:=lookU_some hf
 have hl:=delK_len hu.nd h1 h2
 have hlen:=hu.len
 refine⟨nd_use hu.nd hk,?_,fun x hx=>?_,Nat.le_succ_of_le h.bn⟩
 ·show(delK (upU s o) k++[e]).length≤N
  have hlen:(upU s o).length≤N:=hlen
  have hl:(delK (upU s o) k).length+1=(upU s o).length:=hl
  rw[List.length_append,List.length_singleton,hl];exact hlen
 ·rcases List.mem_append.1 hx with hx |hx
  ·exact hu.cost x (mem_delK.1 hx).1
  ·rw[List.mem_singleton.1 hx];exact hc
theorem StOk.add {N K nb:Nat} {s:CSt} {o:AOp} {e:Ent} {U:List Ent} (h:StOk N K nb s) (hn:lookU (upU s o) e.key=none) (hc:costE e≤K) (hU:U.Sublist (upU s o++[e])) (hl:U.length≤N) {t o':Nat}:StOk N K (nb+1) ⟨U,s.bn+1,t,o'⟩:=by
 have hu:=h.up o
 have hb:=h.bn
 refine⟨(hU.map _).nodup (nd_app hu.nd hn rfl),hl,fun x hx=>?_,by show s.bn+1≤nb+1;omega⟩
 rcases List.mem_append.1 (hU.subset hx) with hx |hx
 ·exact hu.cost x hx
 ·rw[List.mem_singleton.1 hx];exact hc
theorem StOk.set {N K nb:Nat} {s:CSt} {o:AOp} (hN:1≤N) (h:StOk N K nb s) (hc:o.key.size+o.val.length+48≤K) (d:Nat):StOk N K (nb+1) (setS N s o d).1:=by
 unfold setS
 split
 ·exact h.same
 ·cases hl:lookU (upU s o) o.key with
  |some e=>
   have hk:=(lookU_some hl).2
   refine h.use (by rw[hl];rfl) hk ?_
   show e.key.size+o.val.length+48≤K
   rw[hk];exact hc
  |none=>
   simp only
   have hu:(upU s o).length≤N:=(h.up o).len
   split
   ·rename_i hlt
    exact h.add (e:=⟨o.key,o.val,d,s.bn+1⟩) hl hc (List.Sublist.refl _) (by simp;omega)
   ·exact h.add (e:=⟨o.key,o.val,d,s.bn+1⟩) hl hc (List.tail_sublist _) (by simp;omega)
theorem StOk.stpK {N K nb:Nat} {s:CSt} {o:AOp} (hN:1≤N) (h:StOk N K nb s) (hc:o.key.size+o.val.length+48≤K):∀k:Nat,StOk N K (nb+1) (Go.Cub.stpK k N s o).1
 |1=>h.set hN hc _
 |2=>by
  simp only[Go.Cub.stpK]
  split
  ·exact h.same
  ·exact h.set hN hc _
 |3=>by
  have hup:=h.up o
  simp only[Go.Cub.stpK]
  split
  ·exact h.same
  ·cases hl:lookU (upU s o) o.key with
   |some e=>exact h.use (by rw[hl];rfl) (lookU_some hl).2 (hup.cost e (lookU_some hl).1)
   |none=>exact hup
 |4=>by
  simp only[Go.Cub.stpK]
  split
  ·exact h.same
  ·exact h.up o
 |5=>by
  have hup:=h.up o
  simp only[Go.Cub.stpK]
  split
  ·exact h.same
  ·cases hl:lookU (upU s o) o.key with
   |some e=>exact h.use (by rw[hl];rfl) (lookU_some hl).2 (hup.cost e (lookU_some hl).1)
   |none=>exact hup
 |6=>by
  simp only[Go.Cub.stpK]
  split
  ·exact h.same
  ·exact h.sub (List.Sublist.trans List.filter_sublist List.filter_sublist) (Nat.le_succ_of_le h.bn)
 |7=>h.sub (List.nil_sublist _) (Nat.le_succ_of_le h.bn)
 |11=>by
  simp only[Go.Cub.stpK]
  cases freeN s.o with
  |some k=>exact h.sub List.filter_sublist (Nat.le_succ_of_le h.bn)
  |none=>exact h.up o
 |12=>by
  simp only[Go.Cub.stpK]
  split
  ·exact h.up o
  ·exact h.same
 |13=>h.up o
 |14=>h.sub List.filter_sublist (Nat.le_succ_of_le h.bn)
 |0=>h.up o
 |8=>h.up o
 |9=>h.up o
 |10=>h.up o
 |_+15=>h.up o
theorem StOk.stp {N K nb:Nat} {s:CSt} {o:AOp} (hN:1≤N) (h:StOk N K nb s) (hc:o.key.size+o.val.length+48≤K):StOk N K (nb+1) (stp N s o).1:=h.stpK hN hc _
end Go.Cub
