/-
  Part 26 of the proof that TopNested returns true and leaves what it was given as it was. CONDITIONS: those of the given row and card.
-/
import Derived.Test.YtpelalpajdpkgaaGreatDoorZ24
import Derived.KernelRfl
set_option linter.all false
namespace Go.Cub
open Go Go.Proofs Go.IntWalk
section
variable {R:Value→World→Prop} {w:World} {C:List HP} {u u2:HP→List HP} {p lg ix k:Nat} {seed:Nat×Bool} {es:List Ent} {S:List (Nat×Nat)} {e:Ent} {i:Nat} {key:ByteArray}
attribute [local irreducible] PV CND GRD L1 LN S1 SN NEW NEWS MKS MKM LK MU DEL LENM APP CPY BTS Call CallV
theorem c_dict_zero [f:Foc C (.b p) (pt p (dcells lg ix seed)) u] (H:Own w.hp C) (h:R (.bool false) w):Call Pg 92 #[ptrV p] w R:=by
 refine c_92 ?_
 simp only[F_92]
 (repeat first |refine L1o H rfl ?_ |refine Oc ?_)
 exact h
theorem k_dict_NewP (hs:seed.1<18446744073709551616) (H:Own w.hp C) (h:∀p lg ix w',Own w'.hp (pt p (dcells lg ix seed)::elog lg []::six ix 0 []::C)→R (ptrV p) w'):Call Pg 75 #[.agg #[.int .u64 seed.1,.bool seed.2]] w R:=by
 refine c_75 ?_
 simp only[F_75]
 refine NEWo H fun t1 w H=>?_
 refine k_six_New (k:=0) (by decide) H fun ix w H=>?_
 refine Ob ?_
 refine LNo (w:=w) H (by simp) ?_
 refine k_el_New (w:=w.drew) H fun lg w H=>?_
 refine⟨LNo H (by simp) rfl,?_⟩
 refine PV_of (v:=.agg #[ptrV lg]) rfl ?_
 refine PV_of (v:=.agg #[ptrV lg,.int .u64 seed.1,.bool seed.2,ptrV ix]) (by simp[buildV,Instr.fill]) ?_
 refine NEWo H fun p w H=>?_
 exact h p lg ix w H.mv2.mv2.mv2.dp3
theorem k_dict_New (hs:seed.1<18446744073709551616) (H:Own w.hp C) (h:∀p w',Own w'.hp (dct p seed []::C)→R (ptrV p) w'):Call Pg 75 #[.agg #[.int .u64 seed.1,.bool seed.2]] w R:=
 k_dict_NewP hs H fun p lg ix w H=>h p w (dct_iff.2 ⟨[],⟨fun i e h=>by simp at h,fun i j e e' h=>by simp at h⟩,dctP_iff.2 ⟨lg,ix,0,⟨hs,fun x hx=>by simp at hx⟩,H⟩⟩)
theorem k_dict_Find [f:Foc C (.b p) (dct p seed es) u] (hk:key.size≤1000000) (H:Own w.hp C) (h1:∀w',(∀(i:Nat) (e:Ent),es[i]?=some e→e.birth≠0→e.key≠key)→Own w'.hp (u (dct p seed es))→R (.tuple #[.int .u32 0,.int .i64 9]) w')
  (h2:∀w' (i:Nat) (e:Ent),es[i]?=some e→e.birth≠0→e.key=key→Own w'.hp (u (dct p seed es))→R (.tuple #[.int .u32 i,.int .i64 0]) w'):Call Pg 198 #[ptrV p,.string key] w R:=by
 obtain⟨S,hS,H⟩:=dct_iff.1 (f.get H)
 have hI:Idx seed es S:=by
  obtain⟨lg,ix,k,hh,_⟩:=dctP_iff.1 H
  exact hh.2
 refine k_dict_FindP hk H (fun w hn H=>h1 w ?_ (f.put (dct_iff.2 ⟨S,hS,H⟩))) (fun w x e hx he hke H=>?_)
 ·intro i e hi hb
  exact hn _ (hS.1 i e hi hb) e hi
 ·obtain⟨e',a1,a2,a3⟩:=hI x hx
  rw[he] at a1
  obtain rfl:=Option.some.inj a1
  exact h2 w x.2 e he a2 hke (f.put (dct_iff.2 ⟨S,hS,H⟩))
theorem k_dict_Len [f:Foc C (.b p) (dct p seed es) u] (H:Own w.hp C) (h:R (.int .i64 (live es)) w):Call Pg 45 #[ptrV p] w R:=by
 obtain⟨S,hS,H⟩:=dct_iff.1 (f.get H)
 obtain⟨lg,ix,k,hh,H⟩:=dctP_iff.1 H
 refine c_45 ?_
 simp only[F_45]
 refine c_dict_zero H ?_
 (repeat first |refine L1o H rfl ?_ |refine Oc ?_)
 exact k_el_Live (p:=lg) H h
theorem k_dict_Sizes [f:Foc C (.b p) (dct p seed es) u] (H:Own w.hp C) (h:∀g T:Nat,R (.tuple #[.int .i64 es.length,.int .i64 g,.int .i64 T]) w.drew):Call Pg 101 #[ptrV p] w R:=by
 obtain⟨S,hS,H⟩:=dct_iff.1 (f.get H)
 obtain⟨lg,ix,k,hh,H⟩:=dctP_iff.1 H
 refine c_101 ?_
 simp only[F_101]
 refine c_dict_zero H ?_
 (repeat first |refine L1o H rfl ?_ |refine Oc ?_)
 refine k_el_Len (p:=lg) (w:=w.drew) H ?_
 refine⟨L1o (w:=w.drew) H rfl rfl,?_⟩
 refine⟨L1o (w:=w.drew) H rfl rfl,?_⟩
 refine k_six_Groups (p:=ix) (w:=w.drew) H fun hk=>?_
 refine⟨L1o (w:=w.drew) H rfl rfl,?_⟩
 refine k_six_Tombs (p:=ix) (w:=w.drew) H fun T hT=>?_
 exact h _ T
theorem k_dict_Get [f:Foc C (.b p) (dct p seed es) u] (H:Own w.hp C) (hi:es[i]?=some e) (hb:e.birth≠0) (h:∀v' w',Own w'.hp (imm (svV v') e.val::u (dct p seed es))→R (.tuple #[entV e v',.int .i64 0]) w'):Call Pg 129 #[ptrV p,.int .u32 i] w R:=by
 obtain⟨S,hS,H⟩:=dct_iff.1 (f.get H)
 obtain⟨lg,ix,k,hh,H⟩:=dctP_iff.1 H
 refine c_129 ?_
 simp only[F_129]
 refine NEWo H fun t4 w H=>?_
 refine c_dict_zero H ?_
 (repeat first |refine L1o H rfl ?_ |refine Oc ?_)
 refine k_el_Get (p:=lg) H hi hb fun v' w H=>?_
 refine Ob ?_
 refine SNo H rfl (by simp) (by simp[entV,svV,Value.oneCell']) fun w H=>?_
 refine LNo H (by simp[splice,entV]) ?_
 have H:=H.mv4.mv4.mv4.dp4
 exact h v' w (f.put1 (dct_iff.2 ⟨S,hS,dctP_iff.2 ⟨lg,ix,k,hh,H⟩⟩).mv1)
theorem get_set (hi:es[i]?=some e) {e':Ent} {j:Nat} {x:Ent} (h:(es.set i e')[j]?=some x):(j=i∧x=e')∨(j≠i∧es[j]?=some x):=by
 by_cases hj:j=i
 ·subst hj
  rw[List.getElem?_set_self (lt_of_get hi)] at h
  exact .inl ⟨rfl,(Option.some.inj h).symm⟩
 ·rw[List.getElem?_set_ne (Ne.symm hj)] at h
  exact .inr ⟨hj,h⟩
theorem set_get (hi:es[i]?=some e) {e':Ent} {j:Nat} {x:Ent} (h:es[j]?=some x):(j=i∧(es.set i e')[j]?=some e')∨(j≠i∧(es.set i e')[j]?=some x):=by
 by_cases hj:j=i
 ·subst hj
  exact .inl ⟨rfl,List.getElem?_set_self (lt_of_get hi)⟩
 ·exact .inr ⟨hj,by rw[List.getElem?_set_ne (Ne.symm hj)];exact h⟩
theorem k_dict_Set {v0:SV} {bs:List UInt8} {dl:Nat} [f0:Foc C (.v (svV v0)) (imm (svV v0) bs) u2] [f:Foc C (.b p) (dct p seed es) u] (H:Own w.hp C) (hi:es[i]?=some e) (hb:e.birth≠0) (hbs:bs.length≤65536) (h:∀w',Own w'.hp (u (dct p seed (es.set i {e with val:=bs,dl:=dl})))→R (.int .i64 0) w'):
  Call Pg 134 #[ptrV p,.int .u32 i,svV v0,.int .u64 dl] w R:=by
 have H:=imdup (f:=f0) H
 have H:Own w.hp (dct p seed es::imm (svV v0) bs::f.rest):=(f.tail (B:=imm (svV v0) bs)).get H
 obtain⟨S,hS,H⟩:=dct_iff.1 H
 obtain⟨lg,ix,k,hh,H⟩:=dctP_iff.1 H
 refine c_134 ?_
 simp only[F_134]
 refine c_dict_zero H ?_
 (repeat first |refine L1o H rfl ?_ |refine Oc ?_)
 refine k_el_Set (v0:=v0) (bs:=bs) (p:=lg) H hi hb hbs fun w H=>?_
 refine h w (f.put (dct_iff.2 ⟨S,⟨?_,?_⟩,dctP_iff.2 ⟨lg,ix,k,⟨hh.1,?_⟩,H.mv2.mv2.mv2.dp3⟩⟩))
 ·intro j x hj hxb
  rcases get_set hi hj with ⟨rfl,rfl⟩ |⟨_,h⟩
  ·exact hS.1 j e hi hb
  ·exact hS.1 j x h hxb
 ·intro a b x y ha hb' hxb hyb hxy
  rcases get_set hi ha with ⟨e1,e2⟩ |⟨_,g1⟩<;>rcases get_set hi hb' with ⟨e3,e4⟩ |⟨_,g2⟩
  ·rw[e1,e3]
  ·subst e2;rw[e1];exact hS.2 _ _ _ _ hi g2 hb hyb hxy
  ·subst e4;rw[e3];exact hS.2 _ _ _ _ g1 hi hxb hb hxy
  ·exact hS.2 _ _ _ _ g1 g2 hxb hyb hxy
 ·intro x hx
  obtain⟨e',a1,a2,a3⟩:=hh.2 x hx
  rcases set_get hi (e':= {e with val:=bs,dl:=dl}) a1 with ⟨hj,h⟩ |⟨_,h⟩
  ·refine⟨_,h,hb,?_⟩
   rw[hj,hi] at a1
   rw[a3,Option.some.inj a1]
  ·exact⟨e',h,a2,a3⟩
theorem k_dict_All [f:Foc C (.b p) (dct p seed es) u] (H:Own w.hp C) (h:∀t s L w',LogOk es L→Own w'.hp (elA t s L::u (dct p seed es))→R (.func (.func 168) #[] #[ptrV t]) w'):Call Pg 50 #[ptrV p] w R:=by
 obtain⟨S,hS,H⟩:=dct_iff.1 (f.get H)
 obtain⟨lg,ix,k,hh,H⟩:=dctP_iff.1 H
 refine c_50 ?_
 simp only[F_50]
 refine c_dict_zero H ?_
 (repeat first |refine L1o H rfl ?_ |refine Oc ?_)
 refine k_el_All (p:=lg) H fun t s L w hl H=>?_
 refine Ob ?_
 have H:=H.mv3.mv3.mv3
 exact h t s L w hl (f.put1 (dct_iff.2 ⟨S,hS,dctP_iff.2 ⟨lg,ix,k,hh,H⟩⟩).mv1)
theorem k_dict_Log [f:Foc C (.b p) (dct p seed es) u] (H:Own w.hp C) (h:∀q w',Own w'.hp (elog q es::u (dct p seed es))→R (ptrV q) w'):Call Pg 188 #[ptrV p] w R:=by
 obtain⟨S,hS,H⟩:=dct_iff.1 (f.get H)
 obtain⟨lg,ix,k,hh,H⟩:=dctP_iff.1 H
 refine c_188 ?_
 simp only[F_188]
 refine c_dict_zero H ?_
 (repeat first |refine L1o H rfl ?_ |refine Oc ?_)
 refine k_el_Copy (p:=lg) H fun q w H=>?_
 have H:=H.mv3.mv3.mv3
 exact h q w (f.put1 (dct_iff.2 ⟨S,hS,dctP_iff.2 ⟨lg,ix,k,hh,H⟩⟩).mv1)
theorem k_dict_Hasher [f:Foc C (.b p) (dct p seed es) u] (H:Own w.hp C) (h:∀w',seed.1<18446744073709551616→Own w'.hp (u (dct p seed es))→R (.agg #[.int .u64 seed.1,.bool seed.2]) w'):Call Pg 190 #[ptrV p] w R:=by
 obtain⟨S,hS,H⟩:=dct_iff.1 (f.get H)
 obtain⟨lg,ix,k,hh,H⟩:=dctP_iff.1 H
 refine c_190 ?_
 simp only[F_190]
 refine NEWo H fun t2 w H=>?_
 refine c_dict_zero H ?_
 refine Ob ?_
 refine LNo H (by simp[dcells]) ?_
 refine SNo H rfl (by simp[dcells]) (by simp[dcells,Value.oneCell']) fun w H=>?_
 refine LNo H (by simp[splice,dcells]) ?_
 have H:=f.put (dct_iff.2 ⟨S,hS,dctP_iff.2 ⟨lg,ix,k,hh,H.drop⟩⟩)
 have e2:(Value.agg (List.take 2 (List.drop 0 (splice #[Value.int .u64 0,.bool false].toList 0 (Value.agg (List.take 2 (List.drop 1 (dcells lg ix seed))).toArray).cells.toList))).toArray)=.agg #[.int .u64 seed.1,.bool seed.2]:=by simp[splice,dcells]
 rw[e2]
 exact h w hh.1 H
theorem k_dict_Remove [f:Foc C (.b p) (dct p seed es) u] (H:Own w.hp C) (hi:es[i]?=some e) (hb:e.birth≠0) (h:∀v' w',Own w'.hp (imm (svV v') e.val::u (dct p seed (es.set i ent0)))→R (.tuple #[entV e v',.int .i64 0]) w'):
  Call Pg 109 #[ptrV p,.int .u32 i] w R:=by
 obtain⟨S,hS,H⟩:=dct_iff.1 (f.get H)
 obtain⟨lg,ix,k,hh,H⟩:=dctP_iff.1 H
 have h:∀v' w',Own w'.hp (imm (svV v') e.val::dct p seed (es.set i ent0)::f.rest)→R (.tuple #[entV e v',.int .i64 0]) w':=fun v' w' H=>h v' w' (f.put1 H)
 generalize f.rest=C1 at H h
 have hxS:=hS.1 i e hi hb
 have hnd:=(six_facts H.mv2).2
 have hl:=idx_len hnd hh.2
 have hl2:=(elog_len H.mv1).1
 have H:=tl3.1 H
 refine c_109 ?_
 simp only[F_109]
 refine NEWo H fun t4 w H=>?_
 refine c_dict_zero H ?_
 (repeat first |refine L1o H rfl ?_ |refine Oc ?_)
 refine k_el_Key (p:=lg) H hi hb ?_
 (repeat first |refine L1o H rfl ?_ |refine Oc ?_)
 refine c_dict_sum (p:=p) (lg:=lg) (ix:=ix) (w:=w.drew) H hh.1 hi hb fun w H=>?_
 refine⟨L1o H rfl rfl,?_⟩
 refine k_six_Remove (x:=(sumH seed e.key,i)) hxS H fun w H=>?_
 (repeat first |refine L1o H rfl ?_ |refine Oc ?_)
 refine k_el_Remove (p:=lg) H hi hb fun v' w H=>?_
 refine Ob ?_
 refine NEWo H fun t8 w H=>?_
 refine SNo H rfl (by simp) (by simp[entV,svV,Value.oneCell']) fun w H=>?_
 (repeat first |refine L1o H rfl ?_ |refine Oc ?_)
 have hI':Idx seed (es.set i ent0) (S.filter fun y=>decide (y.2≠i)):=by
  intro x hx
  obtain⟨hx1,hx2⟩:=List.mem_filter.1 hx
  have hx2:x.2≠i:=by simpa using hx2
  obtain⟨e',a1,a2,a3⟩:=hh.2 x hx1
  exact⟨e',by rw[List.getElem?_set_ne (Ne.symm hx2)];exact a1,a2,a3⟩
 have hS':IdxAll seed (es.set i ent0) (S.filter fun y=>decide (y.2≠i))∧KeysOk (es.set i ent0):=by
  constructor
  ·intro j x hj hxb
   rcases get_set hi hj with ⟨rfl,rfl⟩ |⟨hne,g⟩
   ·simp[ent0] at hxb
   ·exact List.mem_filter.2 ⟨hS.1 j x g hxb,by simpa using hne⟩
  ·intro a b x y ha hb' hxb hyb hxy
   rcases get_set hi ha with ⟨_,e2⟩ |⟨_,g1⟩
   ·subst e2;simp[ent0] at hxb
   ·rcases get_set hi hb' with ⟨_,e2⟩ |⟨_,g2⟩
    ·subst e2;simp[ent0] at hyb
    ·exact hS.2 _ _ _ _ g1 g2 hxb hyb hxy
 have hl3:(S.filter fun y=>decide (y.2≠i)).length≤S.length:=List.length_filter_le _ _
 generalize hS'':(S.filter fun y=>decide (y.2≠i))=S' at hI' hS' hl3
 have H:Own w.hp [pt t8 [.string e.key,svV v',.int .u64 e.dl,.int .u64 e.birth],imm (svV v') e.val,pt t4 [.string ⟨#[]⟩,.slice none 0 0,.int .u64 0,.int .u64 0],pt p (dcells lg ix seed),elog lg (es.set i ent0),six ix k S',.all C1]:=by
  rw[←hS''];exact H
 have fin:∀k' b w,k'≤20→(b=true→S'.length≤8 * 2^k')→Own w.hp [pt t8 [.string e.key,svV v',.int .u64 e.dl,.int .u64 e.birth],imm (svV v') e.val,pt t4 [.string ⟨#[]⟩,.slice none 0 0,.int .u64 0,.int .u64 0],pt p (dcells lg ix seed),elog lg (es.set i ent0),six ix k S',.all C1]→
   Call Pg 179 #[ptrV p,planV k' b] w fun t71 w_17=>
   LN 4 (ptrV t8) w_17 fun t72=>
   SN 4 (ptrV t4) t72 w_17 fun w_18=>
   LN 4 (ptrV t4) w_18 fun r4_2=>
   R (.tuple #[r4_2,.int .i64 0]) w_18:=by
  intro k' b w hk' hb' H
  refine k_dict_do hh.1 hI' hk' hb' H.mv6.mv3.mv3.mv3.mv6.mv6.mv6 fun ix' w H=>?_
  refine LNo H (by simp) ?_
  refine SNo H rfl (by simp) (by simp[svV,Value.oneCell']) fun w H=>?_
  refine LNo H (by simp[splice]) ?_
  have H:=H.mv6.mv5.mv4.mv4.mv4.dp5.dp5
  have H:=dct_iff.2 ⟨S',hS',dctP_iff.2 ⟨lg,ix',_,⟨hh.1,hI'⟩,H⟩⟩
  exact h v' w (tl2.2 H.mv1)
 have e5:∀k' b,(Value.agg (List.take 2 (List.drop 0 (splice #[Value.int .i64 0,.bool false].toList 0 (planV k' b).cells.toList))).toArray)=planV k' b:=fun k' b=>by simp[splice,planV]
 refine⟨?_,?_⟩
 ·refine k_six_Groups (p:=ix) (w:=w.drew) H fun hk=>?_
  refine⟨L1o H rfl rfl,L1o H rfl rfl,?_,?_⟩
  ·refine k_six_Len (p:=ix) (w:=w.drew) H ?_
   refine⟨L1o H rfl rfl,?_,?_⟩
   ·refine k_six_Tombs (p:=ix) (w:=w.drew) H fun T hT=>?_
    refine⟨?_,?_⟩
    ·refine c_growth_Remove (w:=w.drew) hk hT (by omega) H fun k' b w h1 h2 H=>?_
     refine Ob ?_
     refine NEWo H fun t10 w H=>?_
     refine SNo H rfl (by simp) (by simp[planV,Value.oneCell']) fun w H=>?_
     refine Ob ?_
     refine LNo H (by simp[splice,planV]) ?_
     rw[e5]
     exact fin k' b w h1 h2 H.drop
    ·refine NEWo (w:=w.drew) H fun t10 w H=>?_
     refine c_growth_Remove hk hT (by omega) H fun k' b w h1 h2 H=>?_
     refine Ob ?_
     refine SNo H rfl (by simp) (by simp[planV,Value.oneCell']) fun w H=>?_
     refine Ob ?_
     refine LNo H (by simp[splice,planV]) ?_
     rw[e5]
     exact fin k' b w h1 h2 H.drop
   ·refine NEWo (w:=w.drew) H fun t10 w H=>?_
    refine⟨L1o H rfl rfl,?_⟩
    refine k_six_Tombs (p:=ix) H fun T hT=>?_
    refine c_growth_Remove hk hT (by omega) H fun k' b w h1 h2 H=>?_
    refine Ob ?_
    refine SNo H rfl (by simp) (by simp[planV,Value.oneCell']) fun w H=>?_
    refine Ob ?_
    refine LNo H (by simp[splice,planV]) ?_
    rw[e5]
    exact fin k' b w h1 h2 H.drop
  ·refine NEWo (w:=w.drew) H fun t10 w H=>?_
   refine⟨L1o H rfl rfl,L1o H rfl rfl,?_⟩
   refine k_six_Len (p:=ix) H ?_
   refine⟨L1o H rfl rfl,?_⟩
   refine k_six_Tombs (p:=ix) H fun T hT=>?_
   refine c_growth_Remove hk hT (by omega) H fun k' b w h1 h2 H=>?_
   refine Ob ?_
   refine SNo H rfl (by simp) (by simp[planV,Value.oneCell']) fun w H=>?_
   refine Ob ?_
   refine LNo H (by simp[splice,planV]) ?_
   rw[e5]
   exact fin k' b w h1 h2 H.drop
 ·refine NEWo (w:=w.drew) H fun t10 w H=>?_
  refine⟨L1o H rfl rfl,L1o H rfl rfl,L1o H rfl rfl,?_⟩
  refine k_six_Groups (p:=ix) H fun hk=>?_
  refine⟨L1o H rfl rfl,L1o H rfl rfl,?_⟩
  refine k_six_Len (p:=ix) H ?_
  refine⟨L1o H rfl rfl,?_⟩
  refine k_six_Tombs (p:=ix) H fun T hT=>?_
  refine c_growth_Remove hk hT (by omega) H fun k' b w h1 h2 H=>?_
  refine Ob ?_
  refine SNo H rfl (by simp) (by simp[planV,Value.oneCell']) fun w H=>?_
  refine Ob ?_
  refine LNo H (by simp[splice,planV]) ?_
  rw[e5]
  exact fin k' b w h1 h2 H.drop
end
end Go.Cub
namespace Go.Cub
open Go Go.Proofs Go.IntWalk
theorem mem_liveI {es:List Ent} {y:Ent×Nat}:y∈liveI es↔es[y.2]?=some y.1∧y.1.birth≠0:=by
 unfold liveI
 rw[List.mem_filter,List.mem_zipIdx_iff_getElem?]
 simp
theorem liveI_nodup (es:List Ent):((liveI es).map (·.2)).Nodup:=by
 have :((es.zipIdx).map (·.2)).Nodup:=by
  rw[List.zipIdx_map_snd]
  exact List.nodup_range'
 exact(List.filter_sublist.map _).nodup this
section
variable {R:Value→World→Prop} {w:World} {C:List HP} {u u2:HP→List HP} {p lg ix k:Nat} {seed:Nat×Bool} {es:List Ent} {S:List (Nat×Nat)} {e:Ent} {i:Nat} {key:ByteArray}
attribute [local irreducible] PV CND GRD L1 LN S1 SN NEW NEWS MKS MKM LK MU DEL LENM APP CPY BTS Call CallV
theorem k_dict_Insert {v:SV} [f0:Foc C (.v (svV v)) (imm (svV v) e.val) u2] [f:Foc C (.b p) (dct p seed es) u] (H:Own w.hp C) (he:EntOk e) (hnew:∀(i:Nat) (e':Ent),es[i]?=some e'→e'.birth≠0→e'.key≠e.key) (hn:es.length<4194304)
  (h:∀w',Own w'.hp (u (dct p seed (es++[e])))→R (.tuple #[.int .u32 es.length,.int .i64 0]) w'):Call Pg 202 #[ptrV p,entV e v] w R:=by
 have H:=imdup (f:=f0) H
 have H:Own w.hp (dct p seed es::imm (svV v) e.val::f.rest):=(f.tail (B:=imm (svV v) e.val)).get H
 have h:∀w',Own w'.hp (dct p seed (es++[e])::f.rest)→R (.tuple #[.int .u32 es.length,.int .i64 0]) w':=fun w' H=>h w' (f.put H)
 generalize f.rest=C1 at H h
 have H:=tl2.1 H
 refine c_202 ?_
 simp only[F_202,entV]
 refine NEWo H fun t3 w H=>?_
 have H:Own w.hp [pt t3 [.string e.key,svV v,.int .u64 e.dl,.int .u64 e.birth],dct p seed es,imm (svV v) e.val,.all C1]:=H
 have zero:∀ {w R},Own w.hp [pt t3 [.string e.key,svV v,.int .u64 e.dl,.int .u64 e.birth],dct p seed es,imm (svV v) e.val,.all C1]→R (.bool false) w→Call Pg 92 #[ptrV p] w R:=fun {w R} H h=>by
  obtain⟨S,hS,H⟩:=dct_iff.1 H.mv1
  obtain⟨lg,ix,k,hh,H⟩:=dctP_iff.1 H
  exact c_dict_zero H h
 refine zero H ?_
 (repeat first |refine L1o H rfl ?_ |refine Oc ?_)
 refine k_entry_New (e:=e) (v:=v) H he.1 he.2.1 he.2.2 fun v' w H=>?_
 refine Ob ?_
 refine NEWo H fun t6 w H=>?_
 refine SNo H rfl (by simp) (by simp[entV,svV,Value.oneCell']) fun w H=>?_
 (repeat first |refine L1o H rfl ?_ |refine Oc ?_)
 refine k_dict_Find (p:=p) (by have :=he.1.2;omega) H (fun w hnf H=>?_) (fun w i e' a1 a2 a3 H=>absurd a3 (hnew i e' a1 a2))
 refine Ob ?_
 obtain⟨S,hS,H⟩:=dct_iff.1 H.mv3
 obtain⟨lg,ix,k,hh,H⟩:=dctP_iff.1 H
 have H:Own w.hp [pt p (dcells lg ix seed),elog lg es,six ix k S,pt t6 [.string e.key,svV v',.int .u64 e.dl,.int .u64 e.birth],imm (svV v') e.val,pt t3 [.string e.key,svV v,.int .u64 e.dl,.int .u64 e.birth],imm (svV v) e.val,.all C1]:=H
 refine k_dict_plan hh.2 H fun k' b w h1 h2 h3 H=>?_
 refine Ob ?_
 refine NEWo H fun t10 w H=>?_
 refine SNo H rfl (by simp) (by simp[planV,Value.oneCell']) fun w H=>?_
 have H:=H.drop
 refine Ob ?_
 refine LNo H (by simp[dcells]) ?_
 refine c_263 ?_
 simp only[F_263]
 refine NEWo H fun tt w H=>?_
 have H:Own w.hp (pt tt [ptrV lg]::_):=H
 (repeat first |refine L1o H rfl ?_ |refine Oc ?_)
 refine k_el_Len (p:=lg) H ?_
 (repeat first |refine L1o H rfl ?_ |refine Oc ?_)
 have H:=H.drop
 refine LNo (w:=w) H (by simp) ?_
 have e4:(Value.agg (List.take 4 (List.drop 0 [.string e.key,svV v',.int .u64 e.dl,.int .u64 e.birth])).toArray)=entV e v':=rfl
 rw[e4]
 refine k_el_Append (p:=lg) (e:=e) (v:=v') (w:=w.drew) H he hn fun w H=>?_
 refine Ob ?_
 have hI:Idx seed (es++[e]) S:=by
  intro x hx
  obtain⟨e',a1,a2,a3⟩:=hh.2 x hx
  exact⟨e',by rw[List.getElem?_append_left (lt_of_get a1)];exact a1,a2,a3⟩
 have hnm:es.length∉S.map (·.2):=by
  intro hm
  obtain⟨x,hx,e1⟩:=List.mem_map.1 hm
  obtain⟨e',a1,a2,a3⟩:=hh.2 x hx
  have :=lt_of_get a1
  omega
 have hge:(es++[e])[es.length]?=some e:=by simp
 have hsp:∀(i:Nat) (x:Ent),(es++[e])[i]?=some x→(es[i]?=some x)∨(i=es.length∧x=e):=by
  intro i x hx
  by_cases hi:i<es.length
  ·rw[List.getElem?_append_left hi] at hx;exact .inl hx
  ·have :=lt_of_get hx
   have hi2:i=es.length:=by simp at this;omega
   subst hi2
   rw[hge] at hx
   exact .inr ⟨rfl,(Option.some.inj hx).symm⟩
 refine k_dict_put (p:=p) (seed:=seed) (S:=S) (es:=es++[e]) hnm hge he.2.2 (dctP_iff.2 ⟨lg,ix,k,⟨hh.1,hI⟩,H⟩) fun w H=>?_
 refine h w (tl1.2 (dct_iff.2 ⟨_,⟨?_,?_⟩,H.mv5.mv1.dp2.dp2.dp2.dp2⟩))
 ·intro i x hx hb
  rcases hsp i x hx with hx |⟨rfl,rfl⟩
  ·exact List.mem_cons_of_mem _ (hS.1 i x hx hb)
  ·exact List.mem_cons_self
 ·intro a b x y ha hb hxb hyb hxy
  rcases hsp a x ha with g1 |⟨a1,a2⟩<;>rcases hsp b y hb with g2 |⟨b1,b2⟩
  ·exact hS.2 _ _ _ _ g1 g2 hxb hyb hxy
  ·rw[b2] at hxy;exact absurd hxy (hnew a x g1 hxb)
  ·rw[a2] at hxy;exact absurd hxy.symm (hnew b y g2 hyb)
  ·rw[a1,b1]
def slotOf (seed:Nat×Bool) (y:Ent×Nat):Nat×Nat:=(sumH seed y.1.key,y.2)
theorem k_dict_Of [f:Foc C (.b lg) (elog lg es) u] (hs:seed.1<18446744073709551616) (hK:KeysOk es) (H:Own w.hp C) (h:∀p w',Own w'.hp (dct p seed es::u (elog lg es))→R (.tuple #[ptrV p,.int .i64 0]) w'):
  Call Pg 189 #[.agg #[.int .u64 seed.1,.bool seed.2],ptrV lg] w R:=by
 have h:∀p w',Own w'.hp (dct p seed es::elog lg es::f.rest)→R (.tuple #[ptrV p,.int .i64 0]) w':=fun p w' H=>h p w' (f.put1 H)
 have H:=f.get H
 generalize f.rest=C1 at H h
 have H:=tl1.1 H
 refine c_189 ?_
 simp only[F_189]
 refine NEWo H fun t2 w H=>?_
 refine NEWo H fun t4 w H=>?_
 refine NEWo H fun t5 w H=>?_
 refine k_el_Copy (p:=lg) H fun lg2 w H=>?_
 refine Ob ?_
 refine LNo H (by simp) ?_
 refine k_dict_NewP hs H fun p lg1 ix w H=>?_
 refine NEWo H fun t7 w H=>?_
 refine S1o H rfl rfl fun w H=>?_
 (repeat first |refine L1o H rfl ?_ |refine Oc ?_)
 refine PV_of (v:=.agg #[ptrV lg2]) rfl ?_
 refine Ob ?_
 refine SNo H rfl (by simp[dcells]) (by simp[Value.oneCell']) fun w H=>?_
 have H:Own w.hp [pt t7 [ptrV p],pt p (dcells lg2 ix seed),elog lg1 [],six ix 0 [],elog lg2 es,pt t5 [.int .i64 0],pt t4 [nilP],pt t2 [.int .u64 seed.1,.bool seed.2],elog lg es,.all C1]:=H
 refine k_el_All (p:=lg2) H fun t s L w hl H=>?_
 refine RFx (fun i=>.all [pt t7 [ptrV p],pt t5 [.int .i64 0],pt t4 [nilP],elog lg es,.all C1,dctP p seed es (((liveI es).take i).map (slotOf seed)).reverse]) (fun _=>.pu False) (iter_el (s:=s) hl) ?_ ?_ ?_ ?_
 ·refine Own.mv1 (all6.2 ?_)
  have H:=dctP_iff.2 ⟨lg2,ix,0,⟨hs,fun x hx=>by simp at hx⟩,H.mv10.mv10.mv9.mv9.mv5.mv8.mv9.mv8.dp9.dp9⟩
  exact H.mv6.mv1.mv6.mv6.mv6.mv6.mv6
 ·intro l j y hj args r w X hrd hst H
  obtain⟨v,H⟩:=own_ex.1 H
  obtain⟨rfl,H⟩:=own_pu.1 (all2.1 H)
  have hy:=mem_liveI.1 (List.mem_of_getElem? hj)
  have H2:=H.mv1
  refine y_189_9 (x26:=.int .u32 y.2) (x27:=entV y.1 v) H2.lp hrd.fn hrd.params hrd.aq hrd.body hrd.size hrd.live ?_
  simp only[D_189_9]
  refine NEWo H fun t9 w H=>?_
  refine SNo H rfl (by simp[entV]) (by simp[entV,svV,Value.oneCell']) fun w H=>?_
  refine BRo H hst fun w H=>?_
  have H:=all6.1 H.mv5.mv4.mv4.mv4.mv4.mv5
  have hslot:y.2∉((((liveI es).take j).map (slotOf seed)).reverse).map (·.2):=by
   intro hm
   rw[List.map_reverse,List.mem_reverse,List.map_map] at hm
   obtain⟨z,hz,e1⟩:=List.mem_map.1 hm
   have e1:z.2=y.2:=e1
   obtain⟨m,hm1,hm2⟩:=List.getElem_of_mem hz
   rw[List.getElem_take] at hm2
   have hjl:=lt_of_get hj
   rw[List.getElem?_eq_getElem hjl] at hj
   have hj:=Option.some.inj hj
   have hml:m<j:=by simp at hm1;omega
   have :=(List.getElem_inj (i:=m) (j:=j) (h₀:=by simp;omega) (h₁:=by simpa using hjl) (liveI_nodup es)).1 (by simp only[List.getElem_map];rw[hm2,hj,e1])
   omega
  have hkey:y.1.key.size≤1000000:=by
   have :=(hl.ent hy.1 hy.2).1.2
   omega
  (repeat first |refine L1o H rfl ?_ |refine Oc ?_)
  refine k_dict_FindP (p:=p) (seed:=seed) (es:=es) hkey H.mv4.mv4.mv4.mv4.mv4.mv5 (fun w hnf H=>?_) (fun w x e' hx he' hk H=>?_)
  ·(repeat first |refine L1o H rfl ?_ |refine Oc ?_)
   refine k_dict_put (p:=p) (seed:=seed) (es:=es) (e:=y.1) hslot hy.1 hy.2 H fun w H=>?_
   refine Ob ?_
   have hsucc:(((liveI es).take (j+1)).map (slotOf seed)).reverse=(sumH seed y.1.key,y.2)::(((liveI es).take j).map (slotOf seed)).reverse:=by
    rw[List.take_add_one,hj]
    simp[slotOf]
   rw[←hsucc] at H
   exact ERn hrd (Own.bk2 (all6.2 H.mv10.mv10.mv10.mv3.mv8.mv8.mv8.mv8.mv8.dp9.dp9))
  ·exfalso
   rw[List.mem_reverse] at hx
   obtain⟨z,hz,rfl⟩:=List.mem_map.1 hx
   have hz2:=mem_liveI.1 (List.mem_of_mem_take hz)
   have he2:es[z.2]?=some e':=he'
   rw[hz2.1] at he2
   obtain rfl:=Option.some.inj he2
   have :=hK _ _ _ _ hz2.1 hy.1 hz2.2 hy.2 hk
   exact hslot (List.mem_map.2 ⟨slotOf seed z,List.mem_reverse.2 (List.mem_map.2 ⟨z,hz,rfl⟩),this⟩)
 ·intro d w H
  refine JMP_none ?_
  have H:=all6.1 H.mv2
  rw[List.take_length] at H
  (repeat first |refine L1o H rfl ?_ |refine Oc ?_)
  refine S1o H rfl rfl fun w H=>?_
  refine S1o H rfl rfl fun w H=>?_
  refine RETo H fun w H=>RET_nil ?_
  (repeat first |refine L1o H rfl ?_ |refine Oc ?_)
  refine h p w (tl2.2 (dct_iff.2 ⟨_,⟨?_,hK⟩,H.mv4.mv4.mv5.dp3.dp3.dp3.dp3.dp3⟩))
  intro i e hi hb
  exact List.mem_reverse.2 (List.mem_map.2 ⟨(e,i),mem_liveI.2 ⟨hi,hb⟩,rfl⟩)
 ·intro j d w H
  exact(own_pu.1 H.mv1).1.elim
end
end Go.Cub
namespace Go.Cub
open Go Go.Proofs Go.IntWalk
def bcn (p last:Nat):HP:=pt p [.bool true,.int .u64 last]
instance {p last:Nat}:Keyed (bcn p last) (.b p):=⟨⟩
theorem inv_all (p:Nat) (w:World):(Go.invoke (.fn (.method "All") #[]) (#[.iface 97 (ptrV p)]++#[])).run Pg w=.ok (.enter 50 #[ptrV p]) w:=by
 kernel_rfl
def pickB (from_ to:Nat) (acc:Option (Nat×Nat)) (y:Ent×Nat):Option (Nat×Nat):=
 if from_≤y.1.birth∧y.1.birth≤to then
  match acc with
  |none=>some (y.2,y.1.birth)
  |some a=>if y.1.birth<a.2 then some (y.2,y.1.birth) else acc
 else acc
def firstB (from_ to:Nat) (es:List Ent):Option (Nat×Nat):=(liveI es).foldl (pickB from_ to) none
section
variable {R:Value→World→Prop} {w:World} {C:List HP} {u u2:HP→List HP} {p last:Nat} {seed:Nat×Bool} {es:List Ent}
attribute [local irreducible] PV CND GRD L1 LN S1 SN NEW NEWS MKS MKM LK MU DEL LENM APP CPY BTS Call CallV
theorem c_bcn_zero [f:Foc C (.b p) (bcn p last) u] (H:Own w.hp C) (h:R (.bool false) w):Call Pg 258 #[ptrV p] w R:=by
 have H:Own w.hp (pt p [.bool true,.int .u64 last]::_):=f.get H
 refine c_258 ?_
 simp only[F_258]
 (repeat first |refine L1o H rfl ?_ |refine Oc ?_)
 exact h
theorem k_bcn_New (H:Own w.hp C) (h:∀p w',Own w'.hp (bcn p last::C)→R (ptrV p) w'):Call Pg 77 #[.int .u64 last] w R:=by
 refine c_77 ?_
 simp only[F_77]
 refine PV_of (v:=.agg #[.bool true,.int .u64 last]) rfl ?_
 refine NEWo H fun p w H=>?_
 exact h p w H
theorem k_bcn_Last [f:Foc C (.b p) (bcn p last) u] (H:Own w.hp C) (h:R (.int .u64 last) w):Call Pg 197 #[ptrV p] w R:=by
 have H2:Own w.hp (pt p [.bool true,.int .u64 last]::_):=f.get H
 refine c_197 ?_
 simp only[F_197]
 refine c_bcn_zero H ?_
 have H:=H2
 (repeat first |refine L1o H rfl ?_ |refine Oc ?_)
 exact h
theorem k_bcn_Next [f:Foc C (.b p) (bcn p last) u] (H:Own w.hp C) (hl:last<18446744073709551615) (h:∀w',Own w'.hp (u (bcn p (last+1)))→R (.tuple #[.int .u64 (last+1:Nat),.int .i64 0]) w'):Call Pg 201 #[ptrV p] w R:=by
 have H2:Own w.hp (pt p [.bool true,.int .u64 last]::_):=f.get H
 refine c_201 ?_
 simp only[F_201]
 refine c_bcn_zero H ?_
 have H:=H2
 (repeat first |refine L1o H rfl ?_ |refine Oc ?_)
 refine S1o H rfl rfl fun w H=>?_
 rw[show((last:Int)+1)=((last+1:Nat):Int) by simp] at H
 (repeat first |refine L1o H rfl ?_ |refine Oc ?_)
 exact h w (f.put H)
def slB (a:Option (Nat×Nat)):Nat:=match a with |some x=>x.1 |none=>0
def leB (a:Option (Nat×Nat)):Nat:=match a with |some x=>x.2 |none=>0
theorem c_birth_first {a b:Nat} [f:Foc C (.b p) (dct p seed es) u] (H:Own w.hp C) (hb:∀e∈es,e.birth<18446744073709551616) (h:∀w',Own w'.hp (u (dct p seed es))→R (.tuple #[.int .u32 (slB (firstB a b es)),.bool (firstB a b es).isSome]) w'):
  Call Pg 256 #[.iface 97 (ptrV p),.int .u64 a,.int .u64 b] w R:=by
 have h:∀w',Own w'.hp (dct p seed es::f.rest)→R (.tuple #[.int .u32 (slB (firstB a b es)),.bool (firstB a b es).isSome]) w':=fun w' H=>h w' (f.put H)
 have H:=f.get H
 generalize f.rest=C1 at H h
 have H:=tl1.1 H
 refine c_256 ?_
 simp only[F_256]
 refine NEWo H fun t4 w H=>?_
 refine NEWo H fun t5 w H=>?_
 refine NEWo H fun t8 w H=>?_
 refine NEWo H fun t9 w H=>?_
 refine NEWo H fun t10 w H=>?_
 refine S1o H rfl rfl fun w H=>?_
 refine S1o H rfl rfl fun w H=>?_
 refine S1o H rfl rfl fun w H=>?_
 have H:Own w.hp [pt t10 [.bool false],pt t9 [.int .u64 0],pt t8 [.int .u32 0],pt t5 [.int .u64 b],pt t4 [.int .u64 a],dct p seed es,.all C1]:=H
 refine⟨_,_,inv_all p,?_⟩
 refine k_dict_All (p:=p) H fun t s L w hl H=>?_
 refine RFx (fun i=>.all [pt t10 [.bool (((liveI es).take i).foldl (pickB a b) none).isSome],pt t9 [.int .u64 (leB (((liveI es).take i).foldl (pickB a b) none))],pt t8 [.int .u32 (slB (((liveI es).take i).foldl (pickB a b) none))],pt t5 [.int .u64 b],pt t4 [.int .u64 a],dct p seed es,.all C1]) (fun _=>.pu False) (iter_el (s:=s) hl) ?_ ?_ ?_ ?_
 ·exact Own.mv1 (all7.2 H.mv7.mv7.mv7.mv7.mv7.mv7.mv7)
 ·intro l j y hj args r w X hrd hst H
  obtain⟨v,H⟩:=own_ex.1 H
  obtain⟨rfl,H⟩:=own_pu.1 (all2.1 H)
  have hy:=mem_liveI.1 (List.mem_of_getElem? hj)
  have hyb:=hb _ (List.mem_of_getElem? hy.1)
  have H2:=H.mv1
  refine y_256_5 (x15:=.int .u32 y.2) (x16:=entV y.1 v) H2.lp hrd.fn hrd.params hrd.aq hrd.body hrd.size hrd.live ?_
  simp only[D_256_5]
  refine NEWo H fun t12 w H=>?_
  refine SNo H rfl (by simp[entV]) (by simp[entV,svV,Value.oneCell']) fun w H=>?_
  have H:Own w.hp (pt t12 [.string y.1.key,svV v,.int .u64 y.1.dl,.int .u64 y.1.birth]::_):=H
  refine BRo H hst fun w H=>?_
  have H:=all7.1 H.mv5.mv4.mv4.mv4.mv4.mv5
  have hstep:(((liveI es).take (j+1)).foldl (pickB a b) none)=pickB a b (((liveI es).take j).foldl (pickB a b) none) y:=by
   rw[List.take_add_one,hj]
   simp
  generalize ((liveI es).take j).foldl (pickB a b) none=acc at H hstep
  have hgo:∀w,Own w.hp [pt t10 [.bool (pickB a b acc y).isSome],pt t9 [.int .u64 (leB (pickB a b acc y))],pt t8 [.int .u32 (slB (pickB a b acc y))],pt t5 [.int .u64 b],pt t4 [.int .u64 a],dct p seed es,.all C1,lp l {r with state:=.busy},elA t s L,X]→ER l none w (Rnd 256 42 [(4,ptrV t4),(5,ptrV t5),(8,ptrV t8),(9,ptrV t9),(10,ptrV t10)] par_256_5 as_256_5 bd_256_5 l (elA t s L)
    (.all [pt t10 [.bool (((liveI es).take (j+1)).foldl (pickB a b) none).isSome],pt t9 [.int .u64 (leB (((liveI es).take (j+1)).foldl (pickB a b) none))],pt t8 [.int .u32 (slB (((liveI es).take (j+1)).foldl (pickB a b) none))],pt t5 [.int .u64 b],pt t4 [.int .u64 a],dct p seed es,.all C1]) X (fun _=>.pu False)):=by
   intro w H
   rw[hstep]
   exact ERn hrd (Own.bk2 (all7.2 H))
  by_cases c1:a≤y.1.birth
  ·by_cases c2:y.1.birth≤b
   ·cases acc with
    |none=>
     have e:pickB a b none y=some (y.2,y.1.birth):=by simp[pickB,c1,c2]
     (repeat first |refine L1o H rfl ?_ |refine Oc ?_)
     refine S1o (w:=w.drew) H rfl rfl fun w H=>?_
     refine⟨L1o H rfl rfl,?_⟩
     refine S1o H rfl rfl fun w H=>?_
     refine S1o H rfl rfl fun w H=>?_
     refine hgo w ?_
     rw[e]
     exact H.mv11.mv11.mv11.mv9.mv9.mv9.mv9.mv9.mv9.mv9.dp10.dp10
    |some x=>
     by_cases c3:y.1.birth<x.2
     ·have e:pickB a b (some x) y=some (y.2,y.1.birth):=by simp[pickB,c1,c2,c3]
      have c3':(y.1.birth:Int)<leB (some x):=by simp only[leB];omega
      (repeat first |refine L1o H rfl ?_ |refine Oc ?_)
      refine S1o (w:=w.drew) H rfl rfl fun w H=>?_
      refine⟨L1o H rfl rfl,?_⟩
      refine S1o H rfl rfl fun w H=>?_
      refine S1o H rfl rfl fun w H=>?_
      refine hgo w ?_
      rw[e]
      exact H.mv11.mv11.mv11.mv9.mv9.mv9.mv9.mv9.mv9.mv9.dp10.dp10
     ·have e:pickB a b (some x) y=some x:=by simp[pickB,c1,c2,c3]
      have c3':¬(y.1.birth:Int)<leB (some x):=by simp only[leB];omega
      (repeat first |refine L1o H rfl ?_ |refine Oc ?_)
      refine hgo w ?_
      rw[e]
      exact H.mv11.mv11.mv11.mv9.mv9.mv9.mv9.mv9.mv9.mv9.dp10.dp10
   ·have e:pickB a b acc y=acc:=by simp[pickB,c2]
    (repeat first |refine L1o H rfl ?_ |refine Oc ?_)
    refine hgo w ?_
    rw[e]
    exact H.mv11.mv11.mv11.mv9.mv9.mv9.mv9.mv9.mv9.mv9.dp10.dp10
  ·have e:pickB a b acc y=acc:=by simp[pickB,c1]
   (repeat first |refine L1o H rfl ?_ |refine Oc ?_)
   refine hgo w ?_
   rw[e]
   exact H.mv11.mv11.mv11.mv9.mv9.mv9.mv9.mv9.mv9.mv9.dp10.dp10
 ·intro d w H
  refine JMP_none ?_
  have H:=all7.1 H.mv2
  rw[List.take_length] at H
  (repeat first |refine L1o H rfl ?_ |refine Oc ?_)
  refine RETo (w:=w.drew) H fun w H=>RET_nil ?_
  exact h w (tl1.2 H.mv6.mv6.dp2.dp2.dp2.dp2.dp2.dp2.dp2)
 ·intro j d w H
  exact(own_pu.1 H.mv1).1.elim
theorem k_birth_After {a:Nat} [f:Foc C (.b p) (dct p seed es) u] (H:Own w.hp C) (ha:a<18446744073709551615) (hb:∀e∈es,e.birth<18446744073709551616) (h1:∀w',firstB (a+1) 18446744073709551615 es=none→Own w'.hp (u (dct p seed es))→R (.tuple #[.int .u32 0,.int .i64 14]) w')
  (h2:∀w' x,firstB (a+1) 18446744073709551615 es=some x→Own w'.hp (u (dct p seed es))→R (.tuple #[.int .u32 (x.1:Nat),.int .i64 0]) w'):Call Pg 195 #[ptrV p,.int .u64 a] w R:=by
 refine c_195 ?_
 simp only[F_195]
 refine c_255 ?_
 simp only[F_255]
 refine k_dict_Log (p:=p) H fun q w H=>?_
 refine Ob ?_
 have H:=H.drop
 rw[←f.eq] at H
 rw[show((a:Int)+1)=((a+1:Nat):Int) by simp]
 refine c_birth_first (p:=p) (a:=a+1) (b:=18446744073709551615) H hb fun w H=>?_
 cases hf:firstB (a+1) 18446744073709551615 es with
 |none=>
  refine Ob ?_
  exact h1 w hf H
 |some x=>
  refine Ob ?_
  exact h2 w x hf H
end
end Go.Cub
namespace Go.Cub
open Go Go.Proofs Go.IntWalk
def liveE (es:List Ent):List Ent:=(liveI es).map (·.1)
def liveS (es:List Ent):List Nat:=(liveI es).map (·.2)
def dueB (length live:Nat):Bool:=decide (16<length∧2 * live+16<length)
section
variable {R:Value→World→Prop} {w:World} {C:List HP} {u u2:HP→List HP} {p lg:Nat} {seed:Nat×Bool} {es:List Ent}
attribute [local irreducible] PV CND GRD L1 LN S1 SN NEW NEWS MKS MKM LK MU DEL LENM APP CPY BTS Call CallV
theorem c_compact_Due {l n:Nat} (hl:l≤4194304) (hn:n≤4194304) (h:R (.bool (dueB l n)) w):Call Pg 102 #[.int .i64 l,.int .i64 n] w R:=by
 refine c_102 ?_
 simp only[F_102]
 by_cases h1:16<l
 ·refine Ob ?_
  rw[show((l:Int) - 16 - 1)=((l - 17:Nat):Int) by omega,show(2:Int)=((2:Nat):Int) from rfl]
  refine Ob ?_
  rw[tdivN,i64_in _ (by omega)]
  refine Ob ?_
  have e:decide ((n:Int)≤((l - 17)/2:Nat))=dueB l n:=by
   unfold dueB
   congr 1
   apply propext
   omega
  rw[e]
  exact h
 ·have e:dueB l n=false:=by simp[dueB,h1]
  rw[e] at h
  refine Ob ?_
  exact h
theorem k_compact_Log [f:Foc C (.b lg) (elog lg es) u] (H:Own w.hp C) (h:∀q sv w',Own w'.hp (elog q (liveE es)::sle sv u32E (liveS es)::u (elog lg es))→R (.tuple #[ptrV q,.agg #[sv,.int .i64 es.length],.int .i64 0]) w'):
  Call Pg 187 #[ptrV lg] w R:=by
 have h:∀q sv w',Own w'.hp (elog q (liveE es)::sle sv u32E (liveS es)::elog lg es::f.rest)→R (.tuple #[ptrV q,.agg #[sv,.int .i64 es.length],.int .i64 0]) w':=fun q sv w' H=>h q sv w' (f.put2 H)
 have H:=f.get H
 generalize f.rest=C1 at H h
 obtain⟨hlen,hok⟩:=elog_len H
 have H:=tl1.1 H
 refine c_187 ?_
 simp only[F_187]
 refine NEWo H fun t2 w H=>?_
 refine NEWo H fun t3 w H=>?_
 refine NEWo H fun t4 w H=>?_
 refine k_el_Copy (p:=lg) H fun lg2 w H=>?_
 have H:=H.drop
 refine Ob ?_
 refine k_el_New H fun q w H=>?_
 refine k_el_Len (p:=lg) H ?_
 refine PV_of (v:=.agg #[.slice none 0 0,.int .i64 es.length]) rfl ?_
 refine NEWo H fun t5 w H=>?_
 refine NEWo H fun t6 w H=>?_
 refine S1o H rfl rfl fun w H=>?_
 refine SNo H rfl (by simp) (by simp[Value.oneCell']) fun w H=>?_
 have H:Own w.hp [pt t6 [.slice none 0 0,.int .i64 es.length],pt t5 [ptrV q],elog q [],pt t4 [.int .i64 0],pt t3 [.slice none 0 0,.int .i64 0],pt t2 [nilP],elog lg es,.all C1]:=H
 refine k_el_All (p:=lg) H fun t s L w hl H=>?_
 refine RFx (fun i=>.ex fun sv=>.all [pt t6 [sv,.int .i64 es.length],sle sv u32E (((liveI es).take i).map (·.2)),pt t5 [ptrV q],elog q (((liveI es).take i).map (·.1)),pt t4 [.int .i64 0],pt t3 [.slice none 0 0,.int .i64 0],pt t2 [nilP],elog lg es,.all C1]) (fun _=>.pu False) (iter_el (s:=s) hl) ?_ ?_ ?_ ?_
 ·have H:=sl_nil u32E H.mv8.mv8.mv8.mv8.mv8.mv8.mv8.mv8
  exact Own.mv1 (own_ex.2 ⟨_,all9.2 H.mv9.mv9.mv9.mv9.mv9.mv9.mv9.mv9.mv8.mv9⟩)
 ·intro l j y hj args r w X hrd hst H
  obtain⟨v,H⟩:=own_ex.1 H
  obtain⟨rfl,H⟩:=own_pu.1 (all2.1 H)
  have hy:=mem_liveI.1 (List.mem_of_getElem? hj)
  have hjl:=lt_of_get hj
  have hll:(liveI es).length≤es.length:=by
   unfold liveI
   exact Nat.le_trans (List.length_filter_le _ _) (by simp)
  have heok:=hok _ _ hy.1 hy.2
  have H2:=H.mv1
  refine y_187_7 (x21:=.int .u32 y.2) (x22:=entV y.1 v) H2.lp hrd.fn hrd.params hrd.aq hrd.body hrd.size hrd.live ?_
  simp only[D_187_7]
  refine NEWo H fun t8 w H=>?_
  refine SNo H rfl (by simp[entV]) (by simp[entV,svV,Value.oneCell']) fun w H=>?_
  have H:Own w.hp (pt t8 [.string y.1.key,svV v,.int .u64 y.1.dl,.int .u64 y.1.birth]::_):=H
  refine BRo H hst fun w H=>?_
  obtain⟨sv,H⟩:=own_ex.1 H.mv5.mv4.mv4.mv4.mv4.mv5
  have H:=all9.1 H
  (repeat first |refine L1o H rfl ?_ |refine Oc ?_)
  refine LNo H (by simp) ?_
  have e4:(Value.agg (List.take 4 (List.drop 0 [.string y.1.key,svV v,.int .u64 y.1.dl,.int .u64 y.1.birth])).toArray)=entV y.1 v:=rfl
  rw[e4]
  have H:=(own_pu.1 (all2.1 H.mv13.mv13.mv13.mv12.mv12.mv12.mv12.mv12.mv12.mv12.mv12.mv12.mv12.mv13)).2
  have hsu:((liveI es).take (j+1))=(liveI es).take j++[y]:=by rw[List.take_add_one,hj];rfl
  refine k_el_Append (p:=q) (e:=y.1) (v:=v) H heok (by simp;omega) fun w H=>?_
  (repeat first |refine L1o H rfl ?_ |refine Oc ?_)
  refine NEWSo u32E [y.2] H (cs:=#[.int .u32 y.2]) rfl rfl rfl fun tt w H=>?_
  refine APPo (E:=u32E) (ys:=[y.2]) (v:=sv) H rfl (by decide) (by simp;omega) fun sv' w H=>?_
  have H:=H.drop
  obtain⟨a1,a2,a3,rfl⟩:=sle_slice H.mv2
  refine S1o H rfl rfl fun w H=>?_
  refine ERn hrd (Own.bk2 (own_ex.2 ⟨.slice a1 a2 a3,all9.2 ?_⟩))
  have e1:((liveI es).take (j+1)).map (·.2)=((liveI es).take j).map (·.2)++[y.2]:=by rw[hsu];simp
  have e2:((liveI es).take (j+1)).map (·.1)=((liveI es).take j).map (·.1)++[y.1]:=by rw[hsu];simp
  rw[e1,e2]
  exact H.mv13.mv13.mv13.mv12.mv12.mv12.mv12.mv12.mv12.mv12.mv12.mv12.dp12.dp12
 ·intro d w H
  refine JMP_none ?_
  obtain⟨sv,H⟩:=own_ex.1 H.mv2
  have H:=all9.1 H
  rw[List.take_length] at H
  obtain⟨a1,a2,a3,rfl⟩:=sle_slice H.mv1
  (repeat first |refine L1o H rfl ?_ |refine Oc ?_)
  refine LNo (w:=w) H (by simp) ?_
  refine S1o (w:=w.drew) H rfl rfl fun w H=>?_
  refine⟨LNo H (by simp) rfl,?_⟩
  refine SNo H rfl (by simp) (by simp[Value.oneCell']) fun w H=>?_
  refine S1o H rfl rfl fun w H=>?_
  refine RETo H fun w H=>RET_nil ?_
  (repeat first |refine L1o H rfl ?_ |refine Oc ?_)
  refine LNo H (by simp[splice]) ?_
  (repeat first |refine L1o H rfl ?_ |refine Oc ?_)
  exact h q (.slice a1 a2 a3) w (tl3.2 H.mv8.mv8.mv3.mv5.dp4.dp4.dp4.dp4.dp4.dp4.dp4)
 ·intro j d w H
  exact(own_pu.1 H.mv1).1.elim
theorem mem_live {e:Ent} {i:Nat} (h:(liveE es)[i]?=some e):∃j,(liveI es)[i]?=some (e,j)∧es[j]?=some e∧e.birth≠0:=by
 rw[liveE,List.getElem?_map,Option.map_eq_some_iff] at h
 obtain⟨⟨e',j⟩,h1,rfl⟩:=h
 have :=mem_liveI.1 (List.mem_of_getElem? h1)
 exact⟨j,h1,this.1,this.2⟩
theorem keysOk_live (hK:KeysOk es):KeysOk (liveE es):=by
 intro i j e e' hi hj hb hb' hk
 obtain⟨a,a1,a2,_⟩:=mem_live hi
 obtain⟨b,b1,b2,_⟩:=mem_live hj
 have :=hK _ _ _ _ a2 b2 hb hb' hk
 subst this
 have hil:=lt_of_get a1
 have hjl:=lt_of_get b1
 refine(List.getElem_inj (i:=i) (j:=j) (h₀:=by simpa using hil) (h₁:=by simpa using hjl) (liveI_nodup es)).1 ?_
 rw[List.getElem?_eq_getElem hil] at a1
 rw[List.getElem?_eq_getElem hjl] at b1
 have a1:=Option.some.inj a1
 have b1:=Option.some.inj b1
 simp only[List.getElem_map,a1,b1]
theorem k_compact_Dict [f:Foc C (.b p) (dct p seed es) u] (H:Own w.hp C) (h:∀q sv w',Own w'.hp (dct q seed (liveE es)::sle sv u32E (liveS es)::u (dct p seed es))→R (.tuple #[ptrV q,.agg #[sv,.int .i64 es.length],.int .i64 0]) w'):
  Call Pg 115 #[ptrV p] w R:=by
 have h:∀q sv w',Own w'.hp (dct q seed (liveE es)::sle sv u32E (liveS es)::dct p seed es::f.rest)→R (.tuple #[ptrV q,.agg #[sv,.int .i64 es.length],.int .i64 0]) w':=fun q sv w' H=>h q sv w' (f.put2 H)
 have H:=f.get H
 generalize f.rest=C1 at H h
 obtain⟨S,⟨_,hK⟩,_⟩:=dct_iff.1 H
 have H:=tl1.1 H
 refine c_115 ?_
 simp only[F_115]
 refine NEWo H fun t3 w H=>?_
 refine k_dict_Log (p:=p) H fun l1 w H=>?_
 refine k_compact_Log (lg:=l1) H fun l2 sv w H=>?_
 obtain⟨a1,a2,a3,rfl⟩:=sle_slice H.mv1
 refine Ob ?_
 refine NEWo H fun t6 w H=>?_
 refine SNo H rfl (by simp) (by simp[Value.oneCell']) fun w H=>?_
 refine k_dict_Hasher (p:=p) H fun w hs H=>?_
 refine k_dict_Of (lg:=l2) hs (keysOk_live hK) H fun q w H=>?_
 refine Ob ?_
 refine LNo (w:=w) H (by simp[splice]) ?_
 refine SNo (w:=w.drew) H rfl (by simp) (by simp[Value.oneCell',splice]) fun w H=>?_
 refine LNo H (by simp[splice]) ?_
 have H:=H.mv7.mv7.mv5.mv3.dp4.dp4.dp4.dp4
 exact h q (.slice a1 a2 a3) w (tl3.2 H)
end
end Go.Cub
