/-
  Part 25 of the proof that TopNested returns true and leaves what it was given as it was. CONDITIONS: those of the given row and card.
-/
import Derived.Test.YtpelalpajdpkgaaGreatDoorZ23
set_option linter.all false
namespace Go.Cub
open Go Go.Proofs Go.IntWalk
theorem sum_ge:∀ {l:List Nat} {x:Nat},x∈l→x≤l.sum
 |a::l,x,h=>by
  rw[List.sum_cons]
  rcases List.mem_cons.1 h with rfl |h
  ·omega
  ·have :=sum_ge h;omega
theorem tz8_nil {s:Nat} (h:s=0):tz8 s=8:=by subst h;decide
theorem tz8_mem {s:Nat} (hs:s<256) (h:s≠0):tz8 s∈lanes s:=by
 obtain⟨h1,h2⟩:=lanes_step ⟨s,hs⟩ h
 simp only at h1
 rw[h1];simp[tz8]
section
variable {R:Value→World→Prop} {w:World} {C:List HP} {u:HP→List HP} {p k T sum slot:Nat} {S:List (Nat×Nat)} {gs:List Grp} {s:Value} {P:Nat→Bool} {B:HP} {f0:Fn} {a0 c0:Array Value}
attribute [local irreducible] PV CND GRD L1 LN S1 SN NEW NEWS MKS MKM LK MU DEL LENM APP CPY BTS Call CallV
def Full (gs:List Grp) (g:Nat):Prop:=∀gr,gs[g]?=some gr→freeS gr.cs=0
theorem Full.noE {g:Nat} (hx:IxOk k gs S T) (h:Full gs g):NoE gs g:=by
 intro gr hg hm
 have h1:=h gr hg
 rw[freeS,mset_zero (hx.ok gr (List.mem_of_getElem? hg)).1] at h1
 have :=h1 128 hm
 simp at this
theorem k_six_Insert (hs:sum<18446744073709551616) (hn:slot∉S.map (·.2)) (hlen:S.length<8 * 2^k) [f:Foc C (.b p) (six p k S) u] (H:Own w.hp C) (h:∀w',Own w'.hp (u (six p k ((sum,slot)::S)))→R (.int .i64 0) w'):
  Call Pg 297 #[ptrV p,.int .u64 sum,.int .u32 slot] w R:=by
 obtain⟨gs,T,s,hx,H⟩:=six_iff.1 (f.get H)
 have h:∀w',Own w'.hp (six p k ((sum,slot)::S)::f.rest)→R (.int .i64 0) w':=fun w' H=>h w' (f.put H)
 generalize f.rest=C1 at H h
 have H:=tl2.1 H
 have hk:=two_k hx
 have htm:=ix_tombs hx
 refine c_297 ?_
 simp only[F_297]
 refine NEWo H fun t3 w H=>?_
 refine NEWo H fun t4 w H=>?_
 refine NEWo H fun t5 w H=>?_
 refine NEWo H fun t6 w H=>?_
 have H:Own w.hp [pt t6 [.int .i64 0],pt t5 [.int .u32 slot],pt t4 [.int .u64 sum],pt t3 [ptrV p],pt p [s,.int .i64 S.length,.int .i64 (T:Nat)],sle s grE gs,.all C1]:=H
 (repeat first |refine L1o H rfl ?_ |refine Oc ?_)
 refine c_six_zero (s:=s) H (by rw[hx.len];omega) ?_
 have hl:=leno (v:=s) H
 rw[hx.len] at hl
 (repeat first |refine L1o H rfl ?_ |refine Oc ?_)
 rw[hl]
 refine Ob ?_
 refine c_hash_Part hs ?_
 refine⟨L1o H rfl rfl,?_⟩
 refine⟨L1o H rfl rfl,?_⟩
 refine c_probe_All (k:=k) (w:=w.drew) rfl hx.hk H fun a1 a2 a3 w H=>?_
 refine Ob ?_
 have hp:sum/128<18446744073709551616:=Nat.lt_of_le_of_lt (Nat.div_le_self _ _) hs
 refine RFo (fun i=>.all [.pu (∀j,j<i→Full gs (pat (sum/128) k j)),pt t6 [.int .i64 0],pt t5 [.int .u32 slot],pt t4 [.int .u64 sum],pt t3 [ptrV p],pt p [s,.int .i64 S.length,.int .i64 (T:Nat)],sle s grE gs,.all C1])
  (fun j=>.all [.pu (j=.ret),pt t6 [.int .i64 0],six p k ((sum,slot)::S),.all C1])
  (iter_probe (k:=k) rfl hx.hk hp) ?_ ?_ ?_ ?_
 ·exact(all8.2 (own_pu.2 ⟨by simp,H.mv7.mv7.mv7.mv7.mv7.mv7.mv7⟩)).mv1
 ·intro l i x hxi r w X hrd hst H
  rw[List.getElem?_map,Option.map_eq_some_iff] at hxi
  obtain⟨i',hi',rfl⟩:=hxi
  have hik:i<2^k:=by simpa using lt_of_get hi'
  rw[List.getElem?_range hik] at hi'
  obtain rfl:=Option.some.inj hi'
  have hgl:pat (sum/128) k i<gs.length:=by rw[hx.len];exact pat_lt _ _ _
  have hg:gs[pat (sum/128) k i]?=some gs[pat (sum/128) k i]:=List.getElem?_eq_getElem hgl
  generalize gs[pat (sum/128) k i]=gr at hg
  have hok:=hx.ok gr (List.mem_of_getElem? hg)
  have ht:sum%128<128:=Nat.mod_lt _ (by decide)
  have hms:=mset_lt (p:=fun c=>c==128||c==254) hok.1
  have hms2:=mset_lt (p:=fun c=>c==128) hok.1
  refine y_297_6 H.lp hrd.fn hrd.params hrd.aq hrd.body hrd.size hrd.live ?_
  simp only[D_297_6]
  refine BRo H hst fun w H=>?_
  have H:=all8.1 H.mv2
  obtain⟨hpu,H⟩:=own_pu.1 H
  (repeat first |refine L1o H rfl ?_ |refine Oc ?_)
  refine idxo (v:=s) (E:=grE) H hgl ?_
  refine Ob ?_
  refine L1e (v:=s) (E:=grE) (j:=0) H hg rfl ?_
  refine c_Free hok.1 hok.by_ ?_
  refine c_First hms ?_
  by_cases hf:freeS gr.cs=0
  ·rw[tz8_nil hf]
   refine Ob ?_
   refine ERn hrd (Own.bk2 (all8.2 (own_pu.2 ⟨?_,H.mv9.mv9.mv9.mv9.mv9.mv9.mv9.mv9.mv9.mv9⟩)))
   intro j hj
   by_cases e:j=i
   ·subst e
    intro gr' hg'
    rw[hg] at hg'
    obtain rfl:=Option.some.inj hg'
    exact hf
   ·exact hpu j (by omega)
  ·obtain⟨c,hc,hcc⟩:=(mem_lanes hok.1).1 (tz8_mem hms hf)
   have hcc:c=128∨c=254:=by simpa using hcc
   have hl8:tz8 (freeS gr.cs)<8:=by have :=lt_of_get hc;rw[hok.1] at this;exact this
   have hc:gr.cs[tz8 (freeS gr.cs)]?=some c:=hc
   generalize hla:tz8 (freeS gr.cs)=la at hl8 hc
   have hE:∀j,j<i→NoE gs (pat (sum/128) k j):=fun j hj=>(hpu j hj).noE hx
   have hr:=ix_insert hx hs hn hik hg hc hcc hE
   refine Ob ?_
   refine L1e (v:=s) (E:=grE) (j:=0) H hg rfl ?_
   refine c_Empties hok.1 hok.by_ ?_
   refine Ob ?_
   rw[show min la IntKind.u8.bits=la by show min la 8=la;omega,shrN]
   have hbit:bitI .and .u8 ((emptyS gr.cs/2^la:Nat):Int) 1=if c=128 then 1 else 0:=by
    rw[show(1:Int)=((1:Nat):Int) from rfl,u8_and (a:=emptyS gr.cs/2^la) (b:=1) (Nat.lt_of_le_of_lt (Nat.div_le_self _ _) hms2) (by decide),Nat.and_one_is_mod]
    have hb:(emptyS gr.cs).testBit la=decide (c=128):=by
     rw[emptyS,mset,bset_bit]
     simp[hc]
     try (by_cases e:c=128<;>simp[e])
    rw[Nat.testBit_eq_decide_div_mod_eq] at hb
    have hb:(emptyS gr.cs/2^la%2=1)↔c=128:=by simpa using hb
    rcases Nat.mod_two_eq_zero_or_one (emptyS gr.cs/2^la) with h0 |h0
    ·rw[if_neg (fun e=>by have :=hb.2 e;omega),h0];try rfl
    ·rw[if_pos (hb.1 h0),h0];try rfl
   simp only[hbit]
   have hTpos:c=254→1≤T:=by
    intro e
    have h1:=sum_set tombN (y:=gr) hg
    have h2:1≤tombN gr:=by
     have :c∈gr.cs.filter (fun c=>decide (c=254)):=List.mem_filter.2 ⟨List.mem_of_getElem? hc,by simpa using e⟩
     exact List.length_pos_of_mem this
    have h3:tombN gr≤(gs.map tombN).sum:=sum_ge (List.mem_map.2 ⟨gr,List.mem_of_getElem? hg,rfl⟩)
    rw[hx.tomb] at h3
    omega
   rcases hcc with rfl |rfl
   ·have hr2:IxOk k (gs.set (pat (sum/128) k i) (putG gr la (sum%128) slot)) ((sum,slot)::S) T:=hr
    simp only[if_true]
    refine Ob ?_
    refine L1e (v:=s) (E:=grE) (j:=0) H hg rfl ?_
    (repeat first |refine L1o H rfl ?_ |refine Oc ?_)
    refine c_hash_Tag hs ?_
    refine⟨L1e (v:=s) (E:=grE) (w:=w.drew) (j:=0) H hg rfl rfl,?_⟩
    refine c_ctl_Set hok (.inl ht) hl8 ?_
    refine Ob ?_
    refine S1e (E:=grE) (v:=s) (w:=w.drew.drew) (j:=0) (⟨gr.cs.set la (sum%128),gr.sl⟩:Grp) H hg (by decide) grE_set0 rfl fun w H=>?_
    have hg1:(gs.set (pat (sum/128) k i) (⟨gr.cs.set la (sum%128),gr.sl⟩:Grp))[pat (sum/128) k i]?=some ⟨gr.cs.set la (sum%128),gr.sl⟩:=List.getElem?_set_self hgl
    (repeat first |refine L1o H rfl ?_ |refine Oc ?_)
    refine S1e (E:=grE) (v:=s) (w:=w.drew) (j:=1+la * 1) (putG gr la (sum%128) slot) H hg1 (by show 1+la * 1<9;omega) (grE_setl hl8) rfl fun w H=>?_
    rw[List.set_set] at H
    (repeat first |refine L1o H rfl ?_ |refine Oc ?_)
    refine S1o H rfl rfl fun w H=>?_
    (repeat first |refine L1o H rfl ?_ |refine Oc ?_)
    refine S1o H rfl rfl fun w H=>?_
    simp only[List.set_cons_zero,List.set_cons_succ] at H
    have H:Own w.hp (pt p [s,.int .i64 ((sum,slot)::S).length,.int .i64 (_:Nat)]::sle s grE _::_):=H.mv9.mv8.mv8.mv3.mv8.mv8.dp6.dp6.dp6.dp6
    exact ERj hrd (Own.mv1 (all4.2 (own_pu.2 ⟨rfl,(six_iff.2 ⟨_,_,s,hr2,H⟩).mv1⟩)))
   ·have hr2:IxOk k (gs.set (pat (sum/128) k i) (putG gr la (sum%128) slot)) ((sum,slot)::S) (T - 1):=hr
    have h1T:=hTpos rfl
    (repeat first |refine L1o H rfl ?_ |refine Oc ?_)
    refine S1o H rfl rfl fun w H=>?_
    rw[show((T:Int) - 1)=((T - 1:Nat):Int) by omega] at H
    refine L1e (v:=s) (E:=grE) (j:=0) H hg rfl ?_
    (repeat first |refine L1o H rfl ?_ |refine Oc ?_)
    refine c_hash_Tag hs ?_
    refine⟨L1e (v:=s) (E:=grE) (w:=w.drew) (j:=0) H hg rfl rfl,?_⟩
    refine c_ctl_Set hok (.inl ht) hl8 ?_
    refine Ob ?_
    refine S1e (E:=grE) (v:=s) (w:=w.drew.drew) (j:=0) (⟨gr.cs.set la (sum%128),gr.sl⟩:Grp) H hg (by decide) grE_set0 rfl fun w H=>?_
    have hg1:(gs.set (pat (sum/128) k i) (⟨gr.cs.set la (sum%128),gr.sl⟩:Grp))[pat (sum/128) k i]?=some ⟨gr.cs.set la (sum%128),gr.sl⟩:=List.getElem?_set_self hgl
    (repeat first |refine L1o H rfl ?_ |refine Oc ?_)
    refine S1e (E:=grE) (v:=s) (w:=w.drew) (j:=1+la * 1) (putG gr la (sum%128) slot) H hg1 (by show 1+la * 1<9;omega) (grE_setl hl8) rfl fun w H=>?_
    rw[List.set_set] at H
    (repeat first |refine L1o H rfl ?_ |refine Oc ?_)
    refine S1o H rfl rfl fun w H=>?_
    (repeat first |refine L1o H rfl ?_ |refine Oc ?_)
    refine S1o H rfl rfl fun w H=>?_
    simp only[List.set_cons_zero,List.set_cons_succ] at H
    have H:Own w.hp (pt p [s,.int .i64 ((sum,slot)::S).length,.int .i64 (_:Nat)]::sle s grE _::_):=H.mv9.mv8.mv8.mv3.mv8.mv8.dp6.dp6.dp6.dp6
    exact ERj hrd (Own.mv1 (all4.2 (own_pu.2 ⟨rfl,(six_iff.2 ⟨_,_,s,hr2,H⟩).mv1⟩)))
 ·intro d w H
  obtain⟨hpu,H⟩:=own_pu.1 (all8.1 H.mv2)
  rw[List.length_map,List.length_range] at hpu
  obtain⟨i,gr,h1,h2,h3⟩:=ix_free hx hlen (sum/128)
  exact absurd (hpu i h1 gr h2) h3
 ·intro j d w H
  obtain⟨e,H2⟩:=own_pu.1 (all4.1 H.mv1)
  subst e
  have H:=H2
  refine JMP_ret ?_
  refine RETo H fun w H=>RET_nil ?_
  (repeat first |refine L1o H rfl ?_ |refine Oc ?_)
  exact h w (tl1.2 H.mv2.mv2.dp2.dp2)
end
end Go.Cub
namespace Go.Cub
open Go Go.Proofs Go.IntWalk
theorem nd_len:∀ {l m:List Nat},l.Nodup→(∀x∈l,x∈m)→l.length≤m.length
 |[],m,_,_=>by simp
 |a::l,m,h1,h2=>by
  simp only[List.nodup_cons] at h1
  have ha:a∈m:=h2 a (by simp)
  have :=nd_len (l:=l) (m:=m.erase a) h1.2 fun x hx=>by
   have hne:x≠a:=fun e=>h1.1 (e ▸ hx)
   exact(List.mem_erase_of_ne hne).2 (h2 x (by simp[hx]))
  rw[List.length_erase_of_mem ha] at this
  have hp:=List.length_pos_of_mem ha
  simp only[List.length_cons];omega
theorem nd_of_map {α β:Type} {f:α→β}:∀ {l:List α},(l.map f).Nodup→l.Nodup
 |[],_=>by simp
 |a::l,h=>by
  simp only[List.map_cons,List.nodup_cons] at h ⊢
  exact⟨fun ha=>h.1 (List.mem_map.2 ⟨a,ha,rfl⟩),nd_of_map h.2⟩
theorem lanes_nodup (s:Nat):(lanes s).Nodup:=List.filter_sublist.nodup List.nodup_range
def dfs (ds:List Nat):List Deferred:=ds.map fun d=> {target:=.collected d,args:=#[]}
def dfo (ds:List Nat):HP:=.all (ds.map fun d=>dfr d (some []))
def Sums (B:HP) (fv:Value) (S:List (Nat×Nat)):Prop:=
 ∀x∈S,∀w X,Own w.hp (B::X)→CallV Pg fv #[.int .u32 x.2] w fun v w'=>v=.int .u64 x.1∧Own w'.hp (B::X)
section
variable {R:Value→World→Prop} {w:World} {C:List HP} {u:HP→List HP} {p k k' T sum slot:Nat} {S:List (Nat×Nat)} {gs:List Grp} {s:Value} {P:Nat→Bool} {B:HP} {f0:Fn} {a0 c0:Array Value}
attribute [local irreducible] PV CND GRD L1 LN S1 SN NEW NEWS MKS MKM LK MU DEL LENM APP CPY BTS Call CallV
theorem RET_ds {K:World→Prop} {L:List HP}:∀(ds:List Nat) (w:World),Own w.hp (dfo ds::L)→(∀w',Own w'.hp L→K w')→RET Pg (dfs ds) w K
 |[],w,H,h=>RET_nil (h w (all0.1 H))
 |d::ds,w,H,h=>by
  have H:Own w.hp (dfr d (some [])::dfo ds::L):=by
   have H:Own w.hp (.all ([dfr d (some [])]++ds.map fun d=>dfr d (some []))::L):=H
   exact all1.1 (all_app.1 H)
  show RET Pg ({target:=.collected d,args:=#[]}::dfs ds) w K
  refine RETo H fun w H=>?_
  exact RET_ds ds w H.drop h
def Seen (gs:List Grp) (S I:List (Nat×Nat)) (g:Nat) (ls:List Nat):Prop:=
 (I.map (·.2)).Nodup∧∀y,y∈I↔y∈S∧∃g' l t,(g'<g∨(g'=g∧l∈ls))∧Cell gs g' l t y.2
theorem snd_inj (hnd:(S.map (·.2)).Nodup) {x y:Nat×Nat} (hx:x∈S) (hy:y∈S) (e:x.2=y.2):x=y:=by
 obtain⟨i,hi,rfl⟩:=List.getElem_of_mem hx
 obtain⟨j,hj,rfl⟩:=List.getElem_of_mem hy
 have :=(List.getElem_inj (i:=i) (j:=j) (h₀:=by simpa using hi) (h₁:=by simpa using hj) hnd).1 (by simpa using e)
 subst this;rfl
theorem seen_step {I:List (Nat×Nat)} {g la t:Nat} {ls:List Nat} {x:Nat×Nat} (hx:IxOk k gs S T) (h:Seen gs S I g ls) (hxS:x∈S) (hc:Cell gs g la t x.2) (hla:la∉ls):x.2∉I.map (·.2)∧Seen gs S (x::I) g (ls++[la]):=by
 have hn:x.2∉I.map (·.2):=by
  intro hm
  obtain⟨y,hy,e⟩:=List.mem_map.1 hm
  obtain⟨hyS,g',l,t',h1,h2⟩:=(h.2 y).1 hy
  rw[e] at h2
  obtain⟨rfl,rfl⟩:=hx.uniq _ _ _ _ _ _ _ h2 hc
  rcases h1 with h1 |⟨_,h1⟩
  ·omega
  ·exact hla h1
 refine⟨hn,by simp only[List.map_cons,List.nodup_cons];exact⟨hn,h.1⟩,fun y=>?_⟩
 constructor
 ·intro hy
  rcases List.mem_cons.1 hy with rfl |hy
  ·exact⟨hxS,g,la,t,.inr ⟨rfl,by simp⟩,hc⟩
  ·obtain⟨hyS,g',l,t',h1,h2⟩:=(h.2 y).1 hy
   exact⟨hyS,g',l,t',h1.imp id fun h=>⟨h.1,by simp[h.2]⟩,h2⟩
 ·rintro⟨hyS,g',l,t',h1,h2⟩
  by_cases e:y=x
  ·simp[e]
  ·refine List.mem_cons_of_mem _ ((h.2 y).2 ⟨hyS,g',l,t',?_,h2⟩)
   rcases h1 with h1 |⟨rfl,h1⟩
   ·exact .inl h1
   ·rcases List.mem_append.1 h1 with h1 |h1
    ·exact .inr ⟨rfl,h1⟩
    ·simp only[List.mem_singleton] at h1
     subst h1
     exfalso
     obtain⟨gr1,a1,a2,a3,a4⟩:=hc
     obtain⟨gr2,b1,b2,b3,b4⟩:=h2
     rw[a1] at b1
     obtain rfl:=Option.some.inj b1
     exact e (snd_inj hx.nd hyS hxS (b4.symm.trans a4))
theorem seen_len {I:List (Nat×Nat)} {g:Nat} {ls:List Nat} {x:Nat×Nat} (h:Seen gs S I g ls) (hxS:x∈S) (hn:x.2∉I.map (·.2)):I.length<S.length:=by
 have :=nd_len (l:=x.2::I.map (·.2)) (m:=S.map (·.2)) (by simp only[List.nodup_cons];exact⟨hn,h.1⟩) (by
  intro y hy
  rcases List.mem_cons.1 hy with rfl |hy
  ·exact List.mem_map.2 ⟨x,hxS,rfl⟩
  ·obtain⟨z,hz,rfl⟩:=List.mem_map.1 hy
   exact List.mem_map.2 ⟨z,((h.2 z).1 hz).1,rfl⟩)
 simp only[List.length_cons,List.length_map] at this
 omega
theorem seen_next {I:List (Nat×Nat)} {g:Nat} {gr:Grp} (hx:IxOk k gs S T) (hg:gs[g]?=some gr) (h:Seen gs S I g (lanes (fullS gr.cs))):Seen gs S I (g+1) []:=by
 refine⟨h.1,fun y=>(h.2 y).trans (and_congr_right fun hy=>?_)⟩
 constructor
 ·rintro⟨g',l,t,h1,h2⟩
  refine⟨g',l,t,.inl ?_,h2⟩
  rcases h1 with h1 |⟨h1,_⟩<;>omega
 ·rintro⟨g',l,t,h1 |⟨_,h1⟩,h2⟩
  ·refine⟨g',l,t,?_,h2⟩
   by_cases e:g'=g
   ·subst e
    obtain⟨gr2,b1,b2,b3,b4⟩:=h2
    rw[hg] at b1
    obtain rfl:=Option.some.inj b1
    exact .inr ⟨rfl,(mem_lanes (hx.ok gr (List.mem_of_getElem? hg)).1).2 ⟨t,b2,by simp;omega⟩⟩
   ·exact .inl (by omega)
  ·simp at h1
theorem seen_all {I:List (Nat×Nat)} (hx:IxOk k gs S T) (h:Seen gs S I (2^k) []):I.Perm S:=by
 refine(List.perm_ext_iff_of_nodup (nd_of_map h.1) (nd_of_map hx.nd)).2 fun y=>?_
 rw[h.2 y]
 refine⟨fun h=>h.1,fun hy=>⟨hy,?_⟩⟩
 obtain⟨i,h1,⟨l,h2⟩,_⟩:=hx.has y hy
 exact⟨_,l,_,.inl (pat_lt _ _ _),h2⟩
theorem six_rehash_in {g t5 t8 q t11 tw:Nat} {gr:Grp} {I:List (Nat×Nat)} {ds:List Nat} {K:Option Code→List Deferred→World→Prop} {X:HP} (hx:IxOk k gs S T) (hsum:Sums B (.func f0 a0 c0) S) (hgr:gs[g]?=some gr) (hI:Seen gs S I g []) (hlen:S.length≤8 * 2^k')
  (H:Own w.hp [pt tw [.int .u8 (fullS gr.cs)],pt t11 (grE.c gr),pt t5 [.func f0 a0 c0],pt t8 [ptrV q],six q k' I,B,X])
  (h:∀d w I',Seen gs S I' (g+1) []→Own w.hp [dfr d (some []),pt t5 [.func f0 a0 c0],pt t8 [ptrV q],six q k' I',B,X]→K none ({target:=.collected d,args:=#[]}::dfs ds) w):
  RF Pg 240 none 63 [(5,ptrV t5),(8,ptrV t8),(11,ptrV t11)] (.func (.func 330) #[] #[ptrV tw]) par_240_15 as_240_15 bd_240_15 (dfs ds) w K:=by
 have hok:=hx.ok gr (List.mem_of_getElem? hgr)
 have hms:fullS gr.cs<256:=mset_lt hok.1
 refine RFo (fun i=>.ex fun I'=>.all [.pu (Seen gs S I' g ((lanes (fullS gr.cs)).take i)),pt t11 (grE.c gr),pt t5 [.func f0 a0 c0],pt t8 [ptrV q],six q k' I',B,X]) (fun _=>.pu False) (iter_word hms) ?_ ?_ ?_ ?_
 ·exact(own_ex.2 ⟨I,all7.2 (own_pu.2 ⟨by simpa using hI,H.mv6.mv6.mv6.mv6.mv6.mv6⟩)⟩).mv1
 ·intro l i x hxi r w X2 hrd hst H
  rw[List.getElem?_map,Option.map_eq_some_iff] at hxi
  obtain⟨la,hla,rfl⟩:=hxi
  obtain⟨c,hc,hcb⟩:=(mem_lanes hok.1).1 (List.mem_of_getElem? hla)
  have hcb:c<128:=by simpa using hcb
  have hla8:la<8:=by have :=lt_of_get hc;rw[hok.1] at this;exact this
  have hcell:Cell gs g la c (gr.sl la):=⟨gr,hgr,hc,hcb,rfl⟩
  obtain⟨x,hxS,hx2,_⟩:=hx.cell _ _ _ _ hcell
  refine y_240_15 H.lp hrd.fn hrd.params hrd.aq hrd.body hrd.size hrd.live ?_
  simp only[D_240_15]
  refine BRo H hst fun w H=>?_
  obtain⟨I',H⟩:=own_ex.1 H.mv2
  obtain⟨hS,H⟩:=own_pu.1 (all7.1 H)
  have hnl:la∉(lanes (fullS gr.cs)).take i:=by
   intro hm
   have hnd:=lanes_nodup (fullS gr.cs)
   obtain⟨j,hj,e⟩:=List.getElem_of_mem hm
   rw[List.getElem_take] at e
   have hil:=lt_of_get hla
   rw[List.getElem?_eq_getElem hil] at hla
   have hla:=Option.some.inj hla
   have :=(List.getElem_inj (h₀:=by simp at hj;omega) (h₁:=hil) hnd).1 (e.trans hla.symm)
   simp at hj;omega
  have hcx:Cell gs g la c x.2:=by rw[hx2];exact hcell
  obtain⟨hn,hS'⟩:=seen_step hx hS hxS hcx hnl
  have hlt:=seen_len hS hxS hn
  (repeat first |refine L1o H rfl ?_ |refine Oc ?_)
  refine L1o (b:=t11) H (grE_sl hla8) ?_
  refine L1o (b:=t11) H (grE_sl hla8) ?_
  rw[←hx2]
  refine CallV.mono (hsum x hxS w.drew _ H.mv8.mv8.mv8.mv8.mv7.mv7.mv7.mv7.mv8) ?_
  rintro v w' ⟨rfl,H⟩
  refine⟨L1o (b:=t11) H (grE_sl hla8) (by rw[hx2]),?_⟩
  refine⟨L1o H rfl rfl,?_⟩
  refine k_six_Insert (hx.sum x hxS) hn (by omega) H fun w H=>?_
  refine ERn hrd (Own.bk2 (own_ex.2 ⟨x::I',all7.2 (own_pu.2 ⟨?_,H.mv8.mv8.mv8.mv8.mv4.mv8.mv8.mv8.mv8⟩)⟩))
  rw[List.take_add_one,hla]
  exact hS'
 ·intro d w H
  obtain⟨I',H⟩:=own_ex.1 H.mv2
  obtain⟨hS,H⟩:=own_pu.1 (all7.1 H)
  rw[List.length_map,List.take_length] at hS
  exact h d w I' (seen_next hx hgr hS) H.mv5.mv5.mv5.mv5.mv5.mv6.dp6.dp6
 ·intro j d w H
  exact(own_pu.1 H.mv1).1.elim
theorem six_perm {h:Hp} {S':List (Nat×Nat)} (hp:S.Perm S') (H:Own h (six p k S::C)):Own h (six p k S'::C):=by
 obtain⟨gs,T,s,hx,H⟩:=six_iff.1 H
 rw[hp.length_eq] at H
 exact six_iff.2 ⟨gs,T,s,ix_perm hx hp,H⟩
theorem k_six_Rehash (hk':k'≤20) (hsum:Sums B (.func f0 a0 c0) S) (hlen:S.length≤8 * 2^k') (H:Own w.hp (six p k S::B::C)) (h:∀q w',Own w'.hp (six q k' S::six p k S::B::C)→R (.tuple #[ptrV q,.int .i64 0]) w'):
  Call Pg 240 #[ptrV p,.int .i64 (2^k':Nat),.func f0 a0 c0] w R:=by
 obtain⟨gs,T,s,hx,H⟩:=six_iff.1 H
 have hk:=two_k hx
 have hk2:=pow20 hk'
 have H:=tl3.1 H
 refine c_240 ?_
 simp only[F_240]
 refine NEWo H fun t5 w H=>?_
 have H:Own w.hp (pt t5 [.func f0 a0 c0]::_):=H
 refine c_six_zero (s:=s) H (by rw[hx.len];omega) ?_
 refine Ob ?_
 refine k_six_New hk' H fun q w H=>?_
 refine Ob ?_
 refine NEWo H fun t8 w H=>?_
 refine S1o H rfl rfl fun w H=>?_
 have H:Own w.hp (pt t8 [ptrV q]::_):=H
 (repeat first |refine L1o H rfl ?_ |refine Oc ?_)
 have hl:=leno (v:=s) H
 rw[hx.len] at hl
 rw[hl]
 refine Ob ?_
 have loop:∀(m g:Nat) (ds:List Nat) (I:List (Nat×Nat)) (w:World),g+m=2^k→Seen gs S I g []→Own w.hp [dfo ds,pt t8 [ptrV q],six q k' I,pt t5 [.func f0 a0 c0],pt p [s,.int .i64 S.length,.int .i64 (T:Nat)],sle s grE gs,B,.all C]→
   B_240_11 R (ptrV t5) (.pointer none) (.int .i64 0) (ptrV t8) s (.int .i64 (2^k:Nat)) (.int .i64 g) (dfs ds) w:=by
  intro m
  induction m with
  |zero=>
   intro g ds I w hg hI H
   have :g=2^k:=hg
   subst this
   refine B_240_11.intro ?_
   simp only[P_240_11]
   (repeat first |refine L1o H rfl ?_ |refine Oc ?_)
   refine RET_ds ds w H fun w H=>?_
   have H:=six_perm (seen_all hx hI) H.mv1
   refine h q w ?_
   have H:=tl3.2 (six_iff.2 ⟨gs,T,s,hx,H.mv6.mv6.mv2.mv6.mv6.dp5.dp5⟩).mv3.mv3.mv2.mv3
   exact H
  |succ m ih=>
   intro g ds I w hg hI H
   have hgl:g<gs.length:=by rw[hx.len];omega
   have hgr:gs[g]?=some gs[g]:=List.getElem?_eq_getElem hgl
   generalize gs[g]=gr at hgr
   have hok:=hx.ok gr (List.mem_of_getElem? hgr)
   refine B_240_11.intro ?_
   simp only[P_240_11]
   refine Ob ?_
   refine idxo (v:=s) (E:=grE) H hgl ?_
   refine LNe (v:=s) (E:=grE) H hgr ?_
   refine NEWo H fun t11 w H=>?_
   refine SNo H (by simp[grE]) (by simp) (fun x hx=>grE.one gr x (by simpa using hx)) fun w H=>?_
   have H:Own w.hp [pt t11 (grE.c gr),dfo ds,pt t8 [ptrV q],six q k' I,pt t5 [.func f0 a0 c0],pt p [s,.int .i64 S.length,.int .i64 (T:Nat)],sle s grE gs,B,.all C]:=by
    have e:splice #[Value.int .u64 0,.int .u32 0,.int .u32 0,.int .u32 0,.int .u32 0,.int .u32 0,.int .u32 0,.int .u32 0,.int .u32 0].toList 0 (Value.agg (grE.c gr).toArray).cells.toList=grE.c gr:=by
     simp[splice,Value.cells,grE]
    rw[e] at H
    exact H
   (repeat first |refine L1o H rfl ?_ |refine Oc ?_)
   refine c_Full hok.1 hok.by_ ?_
   refine c_word_All (mset_lt hok.1) H fun tw w H=>?_
   have H:Own w.hp [pt tw [.int .u8 (fullS gr.cs)],pt t11 (grE.c gr),pt t5 [.func f0 a0 c0],pt t8 [ptrV q],six q k' I,B,.all [dfo ds,pt p [s,.int .i64 S.length,.int .i64 (T:Nat)],sle s grE gs,.all C]]:=tl6.1 H.mv9.mv8.mv8.mv5.mv9.mv8.mv8.mv9.mv9.mv9
   refine six_rehash_in hx hsum hgr hI hlen H fun d w I' hI' H=>?_
   refine JMP_none ?_
   have H:=tl5.2 H
   have H:Own w.hp [dfo (d::ds),pt t8 [ptrV q],six q k' I',pt t5 [.func f0 a0 c0],pt p [s,.int .i64 S.length,.int .i64 (T:Nat)],sle s grE gs,B,.all C]:=all_app.2 (all1.2 H.mv8.mv5.mv8.mv8.mv5.mv7.mv7.mv8.mv8)
   refine Ob ?_
   rw[show((g:Int)+1)=((g+1:Nat):Int) by simp]
   exact ih (g+1) (d::ds) I' w (by omega) hI' H
 refine loop (2^k) 0 [] [] w (by omega) ⟨by simp,fun y=>by simp⟩ ?_
 exact all0.2 H.mv6.mv6.mv6.mv6.mv6.mv6.mv6
end
end Go.Cub
namespace Go.Cub
open Go Go.Proofs Go.IntWalk
def planV (k:Nat) (b:Bool):Value:=.agg #[.int .i64 (2^k:Nat),.bool b]
section
variable {R:Value→World→Prop} {w:World} {C:List HP} {u:HP→List HP} {k n T:Nat}
attribute [local irreducible] PV CND GRD L1 LN S1 SN NEW NEWS MKS MKM LK MU DEL LENM APP CPY BTS Call CallV
theorem c_within {v:Value} {xs:List Int} {most:Int} [f:Foc C (.v v) (sle v i64E xs) u] (H:Own w.hp C) (hl:xs.length≤1000000) (hx:∀x∈xs,0≤x∧x≤most) (h:R (.int .i64 0) w):Call Pg 295 #[.int .i64 most,v] w R:=by
 refine c_295 ?_
 simp only[F_295]
 rw[leno (v:=v) H]
 refine Ob ?_
 have loop:∀(m i:Nat),i+m=xs.length→B_295_2 R (.int .i64 most) v (.int .i64 xs.length) (.int .i64 i) w:=by
  intro m
  induction m with
  |zero=>
   intro i hi
   refine B_295_2.intro ?_
   simp only[P_295_2]
   refine Ob ?_
   exact h
  |succ m ih=>
   intro i hi
   have hlt:i<xs.length:=by omega
   obtain⟨h1,h2⟩:=hx xs[i] (List.getElem_mem hlt)
   refine B_295_2.intro ?_
   simp only[P_295_2]
   refine Ob ?_
   refine idxo (v:=v) (E:=i64E) H hlt ?_
   refine L1e (v:=v) (E:=i64E) (j:=0) H (List.getElem?_eq_getElem hlt) rfl ?_
   refine Ob ?_
   rw[show((i:Int)+1)=((i+1:Nat):Int) by simp]
   exact ih (i+1) (by omega)
 exact loop xs.length 0 (by omega)
theorem c_growth_check (hk:k≤20) (hn:n+T≤8 * 2^k) (H:Own w.hp C) (h:∀w',Own w'.hp C→R (.int .i64 0) w'):Call Pg 238 #[.int .i64 (2^k:Nat),.int .i64 n,.int .i64 T] w R:=by
 obtain⟨h1,h2⟩:=pow20 hk
 generalize hm:2^k=m at hn h1 h2
 refine c_238 ?_
 simp only[F_238]
 refine c_probe_Valid hm.symm hk ?_
 refine Ob ?_
 refine NEWSo i64E [(n:Int),(T:Int)] H (cs:=#[.int .i64 n,.int .i64 T]) rfl rfl rfl fun v w H=>?_
 refine c_within (v:=v) H (by simp) (by intro x hx;simp at hx;omega) ?_
 refine Ob ?_
 refine NEWSo i64E [(n:Int)+(T:Int)] H (cs:=#[.int .i64 ((n:Int)+(T:Int))]) rfl rfl rfl fun v w H=>?_
 refine c_within (v:=v) H (by simp) (by intro x hx;simp at hx;omega) ?_
 exact h w H.drop.drop
theorem c_growth_Insert (hk:k≤20) (hn:n+T≤8 * 2^k) (hn2:n<7340032) (H:Own w.hp C)
  (h:∀k' b w',k'≤20→n<8 * 2^k'→(b=false→n<8 * 2^k)→Own w'.hp C→R (.tuple #[planV k' b,.int .i64 0]) w'):Call Pg 308 #[.int .i64 (2^k:Nat),.int .i64 n,.int .i64 T] w R:=by
 obtain⟨h1,h2⟩:=pow20 hk
 refine c_308 ?_
 simp only[F_308]
 refine NEWo H fun t6 w H=>?_
 refine c_growth_check hk hn H fun w H=>?_
 refine Ob ?_
 refine c_342 ?_
 simp only[F_342]
 have hcast:((2^k:Nat):Int)=((2^k:Nat):Int):=rfl
 have hd:2 * 2^k=2^(k+1):=by rw[Nat.pow_succ];omega
 generalize hm:2^k=m at *
 refine Ob ?_
 by_cases h7:7 * m≤n+T
 ·refine PV_of (v:=.agg #[.int .i64 m,.bool true]) (by simp[buildV,Instr.fill];omega) ?_
  refine NEWo H fun t10 w H=>?_
  refine SNo H rfl (by simp) (by simp[Value.oneCell']) fun w H=>?_
  (repeat first |refine L1o H rfl ?_ |refine Oc ?_)
  by_cases h8:2 * n≤7 * m
  ·refine Ob ?_
   refine LNo H (by simp[splice]) ?_
   refine SNo H rfl (by simp) (by simp[splice,Value.oneCell']) fun w H=>?_
   refine LNo H (by simp[splice]) ?_
   have :=h k true w hk (by rw[hm];omega) (by simp) H.drop.drop
   simpa[planV,hm,splice] using this
  ·refine Ob ?_
   by_cases h9:m<1048576
   ·have hk1:k+1≤20:=by
     apply Nat.le_of_not_lt
     intro hh
     have :k=20:=by omega
     subst this
     omega
    refine Ob ?_
    refine S1o H rfl rfl fun w H=>?_
    refine LNo H (by simp[splice]) ?_
    refine SNo H rfl (by simp) (by simp[splice,Value.oneCell']) fun w H=>?_
    refine LNo H (by simp[splice]) ?_
    have :=h (k+1) true w hk1 (by rw[←hd];omega) (by simp) H.drop.drop
    have e:((2^(k+1):Nat):Int)=2 * (m:Int):=by rw[←hd];simp
    rw[planV,e] at this
    simpa[splice] using this
   ·refine Ob ?_
    refine LNo H (by simp[splice]) ?_
    refine SNo H rfl (by simp) (by simp[splice,Value.oneCell']) fun w H=>?_
    refine LNo H (by simp[splice]) ?_
    have :=h k true w hk (by rw[hm];omega) (by simp) H.drop.drop
    simpa[planV,hm,splice] using this
 ·refine PV_of (v:=.agg #[.int .i64 m,.bool false]) (by simp[buildV,Instr.fill];omega) ?_
  refine NEWo H fun t10 w H=>?_
  refine SNo H rfl (by simp) (by simp[Value.oneCell']) fun w H=>?_
  (repeat first |refine L1o H rfl ?_ |refine Oc ?_)
  refine LNo H (by simp[splice]) ?_
  refine SNo H rfl (by simp) (by simp[splice,Value.oneCell']) fun w H=>?_
  refine LNo H (by simp[splice]) ?_
  have :=h k false w hk (by rw[hm];omega) (fun _=>by omega) H.drop.drop
  simpa[planV,hm,splice] using this
theorem c_bound (hn:n≤7340032) (h:R (.int .i64 (2^blen (4 * n+15):Nat)) w):Call Pg 239 #[.int .i64 n] w R:=by
 refine c_239 ?_
 simp only[F_239]
 refine Ob ?_
 refine c_296 ?_
 simp only[F_296]
 refine Ob ?_
 rw[show((4:Int) * (n:Int)+16 - 1)=((4 * n+15:Nat):Int) by omega]
 refine c_Len (by omega) ?_
 have hb:blen (4 * n+15)≤25:=by
  unfold blen
  rw[if_neg (by omega)]
  have :=(Nat.log2_lt (n:=4 * n+15) (k:=25) (by omega)).2 (by omega)
  omega
 refine Ob ?_
 have h2:(2:Nat)^blen (4 * n+15)≤33554432:=Nat.pow_le_pow_right (n:=2) (j:=25) (by decide) hb
 have e:(1:Int) * 2^min (blen (4 * n+15)) IntKind.i64.bits=((2^blen (4 * n+15):Nat):Int):=by
  rw[show min (blen (4 * n+15)) IntKind.i64.bits=blen (4 * n+15) by show min _ 64=_;omega]
  simp
 rw[e]
 clear e
 generalize 2^blen (4 * n+15)=q at h h2
 rw[i64_in _ (by omega)]
 exact h
theorem c_growth_Remove (hk:k≤20) (hn:n+T≤8 * 2^k) (hle:n≤7340032) (H:Own w.hp C)
  (h:∀k' b w',k'≤20→(b=true→n≤8 * 2^k')→Own w'.hp C→R (.tuple #[planV k' b,.int .i64 0]) w'):Call Pg 177 #[.int .i64 (2^k:Nat),.int .i64 n,.int .i64 T] w R:=by
 obtain⟨h1,h2⟩:=pow20 hk
 refine c_177 ?_
 simp only[F_177]
 refine NEWo H fun t6 w H=>?_
 refine c_growth_check hk hn H fun w H=>?_
 have hb4:4≤blen (4 * n+15):=by
  unfold blen
  rw[if_neg (by omega)]
  have :3≤(4 * n+15).log2:=(Nat.le_log2 (by omega)).2 (by omega)
  omega
 have hlt:=blen_lt (4 * n+15)
 have hle2:blen (4 * n+15)≤25:=by
  unfold blen
  rw[if_neg (by omega)]
  have :=(Nat.log2_lt (n:=4 * n+15) (k:=25) (by omega)).2 (by omega)
  omega
 have hq:(2:Nat)^blen (4 * n+15)≤33554432:=Nat.pow_le_pow_right (n:=2) (j:=25) (by decide) hle2
 have hbk:2^blen (4 * n+15)<2^k * 8→blen (4 * n+15)<k+3:=fun hgt=>(Nat.pow_lt_pow_iff_right (a:=2) (by decide)).1 (by rw[Nat.pow_add];exact hgt)
 have e8:2^blen (4 * n+15)=8 * 2^(blen (4 * n+15) - 3):=by
  rw[show(8:Nat)=2^3 from rfl, ←Nat.pow_add]
  congr 1
  omega
 have hb:∀ {w R},R (.int .i64 (2^blen (4 * n+15):Nat)) w→Call Pg 239 #[.int .i64 n] w R:=fun h=>c_bound (by omega) h
 have hk':2^blen (4 * n+15)<2^k * 8→blen (4 * n+15) - 3≤20:=fun hh=>by have :=hbk hh;omega
 have hfin:=fun b w'=>h (blen (4 * n+15) - 3) b w'
 have hno:=h k false
 clear hbk hb4 hle2
 simp only[planV] at hfin hno
 generalize hm:2^k=m at *
 generalize 2^(blen (4 * n+15) - 3)=q3 at *
 generalize 2^blen (4 * n+15)=q at *
 refine Ob ?_
 refine hb ?_
 by_cases hgt:q<m * 8
 ·refine Ob ?_
  refine hb ?_
  rw[e8,show((8 * q3:Nat):Int)=(8 * q3:Nat) from rfl,show(8:Int)=((8:Nat):Int) from rfl]
  refine Ob ?_
  rw[tdivN,Nat.mul_div_cancel_left _ (by decide),i64_in _ (by omega)]
  refine PV_of (v:=.agg #[.int .i64 q3,.bool true]) rfl ?_
  refine SNo H rfl (by simp) (by simp[Value.oneCell']) fun w H=>?_
  refine LNo H (by simp[splice]) ?_
  have :=hfin true w (hk' hgt) (fun _=>by omega) H.drop
  simpa[splice] using this
 ·refine Ob ?_
  refine PV_of (v:=.agg #[.int .i64 m,.bool false]) rfl ?_
  refine SNo H rfl (by simp) (by simp[Value.oneCell']) fun w H=>?_
  refine LNo H (by simp[splice]) ?_
  have :=hno w hk (by simp) H.drop
  simpa[splice] using this
end
end Go.Cub
namespace Go.Cub
open Go Go.Proofs Go.IntWalk
def Idx (seed:Nat×Bool) (es:List Ent) (S:List (Nat×Nat)):Prop:=∀x∈S,∃e,es[x.2]?=some e∧e.birth≠0∧x.1=sumH seed e.key
def IdxAll (seed:Nat×Bool) (es:List Ent) (S:List (Nat×Nat)):Prop:=∀(i:Nat) (e:Ent),es[i]?=some e→e.birth≠0→(sumH seed e.key,i)∈S
def KeysOk (es:List Ent):Prop:=∀(i j:Nat) (e e':Ent),es[i]?=some e→es[j]?=some e'→e.birth≠0→e'.birth≠0→e.key=e'.key→i=j
def dcells (lg ix:Nat) (seed:Nat×Bool):List Value:=[ptrV lg,.int .u64 seed.1,.bool seed.2,ptrV ix]
def dctP (p:Nat) (seed:Nat×Bool) (es:List Ent) (S:List (Nat×Nat)):HP:=.ex fun lg=>.ex fun ix=>.ex fun k=>.all [.pu (seed.1<18446744073709551616∧Idx seed es S),pt p (dcells lg ix seed),elog lg es,six ix k S]
def dct (p:Nat) (seed:Nat×Bool) (es:List Ent):HP:=.ex fun S=>.all [.pu (IdxAll seed es S∧KeysOk es),dctP p seed es S]
instance {p:Nat} {seed:Nat×Bool} {es:List Ent} {S:List (Nat×Nat)}:Keyed (dctP p seed es S) (.b p):=⟨⟩
instance {p:Nat} {seed:Nat×Bool} {es:List Ent}:Keyed (dct p seed es) (.b p):=⟨⟩
section
variable {R:Value→World→Prop} {w:World} {C:List HP} {u u2:HP→List HP} {p lg ix k:Nat} {seed:Nat×Bool} {es:List Ent} {S:List (Nat×Nat)} {e:Ent} {i:Nat} {key:ByteArray}
attribute [local irreducible] PV CND GRD L1 LN S1 SN NEW NEWS MKS MKM LK MU DEL LENM APP CPY BTS Call CallV
theorem dctP_iff {h:Hp}:Own h (dctP p seed es S::C)↔∃lg ix k,(seed.1<18446744073709551616∧Idx seed es S)∧Own h (pt p (dcells lg ix seed)::elog lg es::six ix k S::C):=by
 simp only[dctP,own_ex,all4,own_pu]
theorem dct_iff {h:Hp}:Own h (dct p seed es::C)↔∃S,(IdxAll seed es S∧KeysOk es)∧Own h (dctP p seed es S::C):=by
 simp only[dct,own_ex,all2,own_pu]
theorem elog_len {h:Hp} (H:Own h (elog lg es::C)):es.length≤4194304∧∀(i:Nat) (e:Ent),es[i]?=some e→e.birth≠0→EntOk e:=by
 obtain⟨L,s,hl,H⟩:=elog_iff.1 H
 exact⟨hl.2.1,fun i e hi hb=>hl.ent hi hb⟩
theorem six_facts {h:Hp} (H:Own h (six ix k S::C)):k≤20∧(S.map (·.2)).Nodup:=by
 obtain⟨gs,T,s,hx,H⟩:=six_iff.1 H
 exact⟨hx.hk,hx.nd⟩
theorem idx_len (hn:(S.map (·.2)).Nodup) (h:Idx seed es S):S.length≤es.length:=by
 have :=nd_len (l:=S.map (·.2)) (m:=List.range es.length) hn (by
  intro y hy
  obtain⟨x,hx,rfl⟩:=List.mem_map.1 hy
  obtain⟨e,he,_⟩:=h x hx
  exact List.mem_range.2 (lt_of_get he))
 simpa using this
theorem c_store_key [f:Foc C (.b lg) (elog lg es) u] (H:Own w.hp C) (hi:es[i]?=some e) (hb:e.birth≠0) (h:∀w',Own w'.hp C→R (.string e.key) w'):Call Pg 237 #[.agg #[ptrV lg],.int .u32 i] w R:=by
 refine c_237 ?_
 simp only[F_237]
 refine NEWo H fun t w H=>?_
 have H:Own w.hp (pt t [ptrV lg]::C):=H
 (repeat first |refine L1o H rfl ?_ |refine Oc ?_)
 refine k_el_Key H hi hb ?_
 refine Ob ?_
 exact h w H.drop
theorem c_dict_sum [f:Foc C (.b p) (pt p (dcells lg ix seed)) u] [g:Foc C (.b lg) (elog lg es) u2] (H:Own w.hp C) (hs:seed.1<18446744073709551616) (hi:es[i]?=some e) (hb:e.birth≠0) (h:∀w',Own w'.hp C→R (.int .u64 (sumH seed e.key)) w'):Call Pg 175 #[ptrV p,.int .u32 i] w R:=by
 have hk:=((elog_len (g.get H)).2 i e hi hb).1.2
 refine c_175 ?_
 simp only[F_175]
 refine Ob ?_
 refine LNo (w:=w) H (by simp[dcells]) ?_
 refine LNo (w:=w) H (by simp[dcells]) ?_
 refine c_store_key (w:=w.drew) H hi hb fun w H=>?_
 refine⟨LNo H (by simp[dcells]) rfl,?_⟩
 refine c_hash_Sum hs (by omega) H fun w H=>?_
 exact h w H
theorem sums_dict (hs:seed.1<18446744073709551616) (hI:Idx seed es S):Sums (.all [pt p (dcells lg ix seed),elog lg es]) (.func (.func 175) #[ptrV p] #[]) S:=by
 intro x hx w X H
 obtain⟨e,h1,h2,h3⟩:=hI x hx
 refine callV_fn (Tryz.calOk _ (by rfl)) ?_
 show Call Pg 175 #[ptrV p,.int .u32 x.2] w _
 refine c_dict_sum (p:=p) (lg:=lg) (ix:=ix) (all2.1 H) hs h1 h2 fun w H=>?_
 exact⟨by rw[h3],all2.2 H⟩
theorem k_dict_do {k':Nat} {b:Bool} (hs:seed.1<18446744073709551616) (hI:Idx seed es S) (hk':k'≤20) (hb:b=true→S.length≤8 * 2^k') (H:Own w.hp (pt p (dcells lg ix seed)::elog lg es::six ix k S::C))
  (h:∀ix' w',Own w'.hp (pt p (dcells lg ix' seed)::elog lg es::six ix' (if b then k' else k) S::C)→R (.tuple #[]) w'):Call Pg 179 #[ptrV p,planV k' b] w R:=by
 have H:=tl3.1 H
 refine c_179 ?_
 simp only[F_179,planV]
 refine NEWo H fun t3 w H=>?_
 (repeat first |refine L1o H rfl ?_ |refine Oc ?_)
 cases b with
 |false=>
  refine Ob ?_
  exact h ix w (tl3.2 H.drop)
 |true=>
  (repeat first |refine L1o H rfl ?_ |refine Oc ?_)
  refine k_six_Rehash (S:=S) (k:=k) (k':=k') (B:=.all [pt p (dcells lg ix seed),elog lg es]) (w:=w.drew) (C:=[pt t3 [.int .i64 (2^k':Nat),.bool true],.all C]) hk' (sums_dict hs hI) (hb rfl) ?_ fun q w H=>?_
  ·exact(all2.2 H.mv4.mv1.mv4.mv4.mv4).mv1
  ·have H:=all2.1 H.mv2
   (repeat first |refine L1o H rfl ?_ |refine Oc ?_)
   refine S1o H rfl rfl fun w H=>?_
   refine h q w (tl3.2 ?_)
   exact H.mv5.mv3.mv3.mv3.dp4.dp4
theorem k_dict_plan (hI:Idx seed es S) (H:Own w.hp (pt p (dcells lg ix seed)::elog lg es::six ix k S::C))
  (h:∀k' b w',k'≤20→S.length<8 * 2^k'→(b=false→S.length<8 * 2^k)→Own w'.hp (pt p (dcells lg ix seed)::elog lg es::six ix k S::C)→R (.tuple #[planV k' b,.int .i64 0]) w'):Call Pg 262 #[ptrV p] w R:=by
 have hn:=(six_facts H.mv2).2
 have hl:=idx_len hn hI
 have hl2:=(elog_len H.mv1).1
 refine c_262 ?_
 simp only[F_262]
 refine NEWo H fun t2 w H=>?_
 (repeat first |refine L1o H rfl ?_ |refine Oc ?_)
 refine k_six_Groups (p:=ix) (w:=w.drew) H fun hk=>?_
 refine⟨L1o H rfl rfl,?_⟩
 refine⟨L1o H rfl rfl,?_⟩
 refine k_six_Len (p:=ix) (w:=w.drew) H ?_
 refine⟨L1o H rfl rfl,?_⟩
 refine k_six_Tombs (p:=ix) (w:=w.drew) H fun T hT=>?_
 refine c_growth_Insert (w:=w.drew) hk hT (by omega) H fun k' b w h1 h2 h3 H=>?_
 refine Ob ?_
 refine SNo H rfl (by simp) (by simp[planV,Value.oneCell']) fun w H=>?_
 refine LNo H (by simp[splice,planV]) ?_
 have :=h k' b w h1 h2 h3 H.drop
 simpa[splice,planV] using this
theorem k_dict_put (hin:i∉S.map (·.2)) (hi:es[i]?=some e) (hb:e.birth≠0) (H:Own w.hp (dctP p seed es S::C)) (h:∀w',Own w'.hp (dctP p seed es ((sumH seed e.key,i)::S)::C)→R (.int .i64 0) w'):Call Pg 250 #[ptrV p,.int .u32 i] w R:=by
 obtain⟨lg,ix,k,⟨hs,hI⟩,H⟩:=dctP_iff.1 H
 refine c_250 ?_
 simp only[F_250]
 refine k_dict_plan hI H fun k' b w h1 h2 h3 H=>?_
 refine Ob ?_
 refine NEWo H fun t5 w H=>?_
 refine SNo H rfl (by simp) (by simp[planV,Value.oneCell']) fun w H=>?_
 refine Ob ?_
 refine LNo H (by simp[splice,planV]) ?_
 have e5:(Value.agg (List.take 2 (List.drop 0 (splice #[Value.int .i64 0,.bool false].toList 0 (planV k' b).cells.toList))).toArray)=planV k' b:=by simp[splice,planV]
 rw[e5]
 refine k_dict_do hs hI h1 (fun _=>by omega) H.drop fun ix' w H=>?_
 (repeat first |refine L1o H rfl ?_ |refine Oc ?_)
 refine c_dict_sum (p:=p) (lg:=lg) (ix:=ix') (w:=w.drew) H hs hi hb fun w H=>?_
 refine⟨L1o H rfl rfl,?_⟩
 refine k_six_Insert (sumH_lt _ _) hin ?_ H fun w H=>?_
 ·cases b with
  |true=>exact h2
  |false=>exact h3 rfl
 refine h w (dctP_iff.2 ⟨lg,ix',_,⟨hs,?_⟩,H⟩)
 intro x hx
 rcases List.mem_cons.1 hx with rfl |hx
 ·exact⟨e,hi,hb,rfl⟩
 ·exact hI x hx
def keyP (es:List Ent) (key:ByteArray) (s:Nat):Bool:=match es[s]? with
 |some e=>decide (e.key=key)
 |none=>false
theorem k_dict_FindP (hk:key.size≤1000000) (H:Own w.hp (dctP p seed es S::C)) (h1:∀w',(∀x∈S,∀e,es[x.2]?=some e→e.key≠key)→Own w'.hp (dctP p seed es S::C)→R (.tuple #[.int .u32 0,.int .i64 9]) w')
  (h2:∀w' x e,x∈S→es[x.2]?=some e→e.key=key→Own w'.hp (dctP p seed es S::C)→R (.tuple #[.int .u32 x.2,.int .i64 0]) w'):Call Pg 198 #[ptrV p,.string key] w R:=by
 obtain⟨lg,ix,k,⟨hs,hI⟩,H⟩:=dctP_iff.1 H
 have H:=tl3.1 H
 refine c_198 ?_
 simp only[F_198]
 refine NEWo H fun t2 w H=>?_
 refine NEWo H fun t3 w H=>?_
 have H:Own w.hp [pt t3 [.string key],pt t2 [ptrV p],pt p (dcells lg ix seed),elog lg es,six ix k S,.all C]:=H
 have zero:∀ {w R},Own w.hp [pt t3 [.string key],pt t2 [ptrV p],pt p (dcells lg ix seed),elog lg es,six ix k S,.all C]→R (.bool false) w→Call Pg 92 #[ptrV p] w R:=fun {w R} H h=>by
  refine c_92 ?_
  simp only[F_92]
  (repeat first |refine L1o H rfl ?_ |refine Oc ?_)
  exact h
 (repeat first |refine L1o H rfl ?_ |refine Oc ?_)
 refine zero H ?_
 (repeat first |refine L1o H rfl ?_ |refine Oc ?_)
 refine LNo (w:=w) H (by simp[dcells]) ?_
 (repeat first |refine L1o H rfl ?_ |refine Oc ?_)
 refine c_hash_Sum (w:=w.drew) hs hk H fun w H=>?_
 refine⟨L1o H rfl rfl,?_⟩
 refine⟨L1o H rfl rfl,?_⟩
 have hsame:Same (.all [pt t3 [.string key],pt t2 [ptrV p],pt p (dcells lg ix seed),elog lg es]) (.func (.func 260) #[] #[ptrV t2,ptrV t3]) S (keyP es key):=by
  intro x hx w X H
  obtain⟨e,h1,h2,h3⟩:=hI x hx
  refine callV_fn (Tryz.calOk _ (by rfl)) ?_
  show Call Pg 260 #[.int .u32 x.2,ptrV t2,ptrV t3] w _
  refine c_260 ?_
  simp only[F_260]
  have H:=all4.1 H
  (repeat first |refine L1o H rfl ?_ |refine Oc ?_)
  refine LNo (w:=w) H (by simp[dcells]) ?_
  (repeat first |refine L1o H rfl ?_ |refine Oc ?_)
  refine c_store_key (lg:=lg) (w:=w.drew) H h1 h2 fun w H=>?_
  refine⟨L1o H rfl rfl,?_⟩
  refine Ob ?_
  refine⟨?_,all4.2 H⟩
  simp only[keyP,h1]
 refine k_six_Find hsame (sumH_lt _ _) ?_ (Own.mv1 (all4.2 H.mv5.mv5.mv5.mv5.mv5.mv5)) (fun w hn H=>?_) fun w x hx hp H=>?_
 ·intro x hx hp
  obtain⟨e,a1,a2,a3⟩:=hI x hx
  simp only[keyP,a1,decide_eq_true_eq] at hp
  rw[a3,hp]
 ·refine Ob ?_
  refine h1 w ?_ (dctP_iff.2 ⟨lg,ix,k,⟨hs,hI⟩,?_⟩)
  ·intro x hx e he hk
   have :=hn x hx
   simp[keyP,he,hk] at this
  ·have H:=all4.1 H.mv1
   exact tl3.2 H.mv5.mv5.mv5.mv5.dp4.dp4
 ·refine Ob ?_
  obtain⟨e,a1,a2,a3⟩:=hI x hx
  simp only[keyP,a1,decide_eq_true_eq] at hp
  refine h2 w x e hx a1 hp (dctP_iff.2 ⟨lg,ix,k,⟨hs,hI⟩,?_⟩)
  have H:=all4.1 H.mv1
  exact tl3.2 H.mv5.mv5.mv5.mv5.dp4.dp4
end
end Go.Cub
