/-
  Part 34 of the proof that TopNested returns true and leaves what it was given as it was. CONDITIONS: those of the given row and card.
-/
import Derived.Test.YtpelalpajdpkgaaGreatDoorZ05
import Derived.Test.YtpelalpajdpkgaaGreatDoorZ32
set_option linter.all false
namespace Go.Cub
open Go Go.Proofs Go.IntWalk
theorem sub_cons {α:Type} {a b:α} {l m:List α} (h:(a::l).Sublist (b::m)):(a=b∧l.Sublist m)∨(a::l).Sublist m:=by
 cases h with
 |cons _ h=>exact .inr h
 |cons_cons _ h=>exact .inl ⟨rfl,h⟩
theorem filt_one:∀ {l:List Ent} {e:Ent},(l.map (·.birth)).Nodup→e∈l→l.filter (fun x=>decide (x.birth=e.birth))=[e]
 |a::l,e,hn,he=>by
  simp only[List.map_cons,List.nodup_cons] at hn
  rcases List.mem_cons.1 he with rfl |he
  ·rw[List.filter_cons,if_pos (by simp)]
   congr 1
   rw[List.filter_eq_nil_iff]
   intro x hx
   simp only[decide_eq_true_eq]
   exact fun h=>hn.1 (List.mem_map.2 ⟨x,hx,h⟩)
  ·rw[List.filter_cons,if_neg]
   ·exact filt_one hn.2 he
   ·simp only[decide_eq_true_eq]
    exact fun h=>hn.1 (List.mem_map.2 ⟨e,he,h.symm⟩)
theorem filt_fst {M:List (Ent×SV)} {U:List Ent} {e:Ent} (hp:(M.map (·.1)).Perm U) (hn:(U.map (·.birth)).Nodup) (he:e∈U):(M.filter fun y=>decide (y.1.birth=e.birth)).map (·.1)=[e]:=by
 have h1:((M.map (·.1)).map (·.birth)).Nodup:=(hp.map _).nodup_iff.2 hn
 have h2:=filt_one h1 (hp.mem_iff.2 he)
 rw[List.filter_map] at h2
 exact h2
section
variable {R:Value→World→Prop} {w:World} {C:List HP} {u u2:HP→List HP} {p:Nat} {N B:Nat} {hs:Nat×Bool} {m bn now:Nat} {L:List (Nat×Ent)} {ev:List AEv}
attribute [local irreducible] PV CND GRD L1 LN S1 SN NEW NEWS MKS MKM LK MU DEL LENM APP CPY BTS Call CallV
theorem k_evicted {s:Value} {xs:List Evt} [f:Foc C (.v s) (sle s evE xs) u] (H:Own w.hp C) (hl:xs.length≤1000000) (h:R (.int .i64 (nE (xs.map evA):Nat)) w):Call Pg 10 #[s] w R:=by
 refine c_10 ?_
 simp only[F_10]
 have loop:∀(k j:Nat),j+k=xs.length→B_10_3 R s (.int .i64 (nE ((xs.take j).map evA):Nat)) (.int .i64 j) w:=by
  intro k
  induction k with
  |zero=>
   intro j hj
   refine B_10_3.intro ?_
   simp only[P_10_3]
   rw[leno (v:=s) H]
   refine Ob ?_
   rw[List.take_of_length_le (by omega)]
   exact h
  |succ k ih=>
   intro j hj
   have hlt:j<xs.length:=by omega
   have hb:nE ((xs.take j).map evA)≤j:=by
    have h1:=List.length_filter_le (fun x:AEv=>decide (x.1=2)) ((xs.take j).map evA)
    rw[List.length_map,List.length_take] at h1
    unfold nE
    omega
   have e1:nE ((xs.take (j+1)).map evA)=nE ((xs.take j).map evA)+(if xs[j].kind=2 then 1 else 0):=by
    rw[List.take_add_one,List.getElem?_eq_getElem hlt,List.map_append,nE_app]
    congr 1
    simp only[Option.toList,List.map_cons,List.map_nil,nE,List.filter_cons,List.filter_nil,evA]
    by_cases h2:xs[j].kind=2<;>simp[h2]
   have ih:=ih (j+1) (by omega)
   rw[e1] at ih
   refine B_10_3.intro ?_
   simp only[P_10_3]
   rw[leno (v:=s) H]
   refine Ob ?_
   refine idxo (v:=s) (E:=evE) H hlt ?_
   refine Ob ?_
   refine L1e (v:=s) (E:=evE) (j:=0) H (List.getElem?_eq_getElem hlt) rfl ?_
   by_cases h2:xs[j].kind=2
   ·rw[if_pos h2] at ih
    refine Ob ?_
    exact ih
   ·rw[if_neg h2] at ih
    refine Ob ?_
    exact ih
 exact loop xs.length 0 (by omega)
theorem old_7 {s3 s4:Value} {M O0:List (Ent×SV)} {bs:List Nat} {b i:Nat} (hi:bs[i]?=some b) (hM:M.length≤4194304) (hO:O0.length≤4194304)
  (hcont:∀w s5,Own w.hp (sle s5 entE (O0++M.filter fun y=>decide (y.1.birth=b))::sle s3 entE M::sle s4 u64E' bs::C)→B_31_4 R s3 s4 s5 (.int .i64 (i+1:Nat)) w) (hi2:i≤4194304):
  ∀(k j:Nat) (w:World) (s5:Value),j+k=M.length→Own w.hp (sle s5 entE (O0++(M.take j).filter fun y=>decide (y.1.birth=b))::sle s3 entE M::sle s4 u64E' bs::C)→
   B_31_7 R s3 s4 s5 (.int .i64 i) (.int .i64 j) w:=by
 intro k
 induction k with
 |zero=>
  intro j w s5 hj H
  rw[List.take_of_length_le (by omega)] at H
  refine B_31_7.intro ?_
  simp only[P_31_7]
  rw[leno (v:=s3) H]
  refine Ob ?_
  exact hcont w s5 H
 |succ k ih=>
  intro j w s5 hj H
  have hlt:j<M.length:=by omega
  have e1:(M.take (j+1)).filter (fun y=>decide (y.1.birth=b))=(M.take j).filter (fun y=>decide (y.1.birth=b))++(if M[j].1.birth=b then[M[j]] else[]):=by
   rw[List.take_add_one,List.getElem?_eq_getElem hlt,List.filter_append]
   congr 1
   simp only[Option.toList,List.filter_cons,List.filter_nil,decide_eq_true_eq]
  have hfl:((M.take j).filter fun y=>decide (y.1.birth=b)).length≤j:=Nat.le_trans (List.length_filter_le _ _) (by simp;omega)
  refine B_31_7.intro ?_
  simp only[P_31_7]
  rw[leno (v:=s3) H]
  refine Ob ?_
  refine idxo (v:=s3) (E:=entE) H hlt ?_
  refine Ob ?_
  refine L1e (v:=s3) (E:=entE) (j:=3) H (List.getElem?_eq_getElem hlt) rfl ?_
  refine idxo (v:=s4) (E:=u64E') H (lt_of_get hi) ?_
  refine Ob ?_
  refine L1e (v:=s4) (E:=u64E') (j:=0) H hi rfl ?_
  by_cases hb:M[j].1.birth=b
  ·rw[if_pos hb] at e1
   refine Ob ?_
   refine idxo (v:=s3) (E:=entE) H hlt ?_
   refine Ob ?_
   refine LNe (v:=s3) (E:=entE) H (List.getElem?_eq_getElem hlt) ?_
   refine NEWSo (w:=w.drew) entE [M[j]] H (cs:=(entE.c M[j]).toArray) (by simp[buildS,buildSl,Instr.fill,entE,zeros]) (by simp[Enc.fl]) rfl fun tt w H=>?_
   refine APPo (E:=entE) (ys:=[M[j]]) (v:=s5) H rfl (by decide) (by simp;omega) fun s5' w H=>?_
   have H:=H.drop
   rw[List.append_assoc, ←e1] at H
   refine Ob ?_
   exact ih (j+1) w s5' (by omega) H
  ·rw[if_neg hb,List.append_nil] at e1
   rw[←e1] at H
   refine Ob ?_
   exact ih (j+1) w.drew s5 (by omega) H
theorem k_oldest (H:Own w.hp (cac p N B hs m L bn now ev::C)) (h:∀v M w',M.map (·.1)=L.map (·.2)→Own w'.hp (sle v entE M::imL (logB M)::cac p N B hs m L bn now ev::C)→R v w'):Call Pg 31 #[ptrV p] w R:=by
 obtain⟨_,_,hnb,_⟩:=cac_slots H
 have hLl:L.length≤2097152:=by
  obtain⟨q,es,⟨hL,_⟩,H⟩:=cac_iff.1 H
  exact(cl_facts H).2.2.1
 refine c_31 ?_
 simp only[F_31]
 refine k_Entries (p:=p) H fun s3 M w hp H=>?_
 refine k_Order (p:=p) H fun s4 w H=>?_
 have hMl:M.length=L.length:=by simpa using hp.length_eq
 have H:=sl_nil entE H
 have H:Own w.hp (sle (.slice none 0 0) entE []::sle s3 entE M::sle s4 u64E' (L.map fun x=>x.2.birth)::imL (logB M)::cac p N B hs m L bn now ev::C):=H.mv1.mv2.mv2
 have loop:∀(k i:Nat) (w:World) (s5:Value) (O:List (Ent×SV)),i+k=L.length→O.map (·.1)=(L.map (·.2)).take i→(∀y∈O,y∈M)→Own w.hp (sle s5 entE O::sle s3 entE M::sle s4 u64E' (L.map fun x=>x.2.birth)::imL (logB M)::cac p N B hs m L bn now ev::C)→
   B_31_4 R s3 s4 s5 (.int .i64 i) w:=by
  intro k
  induction k with
  |zero=>
   intro i w s5 O hi hO hm H
   rw[List.take_of_length_le (by simp;omega)] at hO
   refine B_31_4.intro ?_
   simp only[P_31_4]
   rw[leno (v:=s4) H,List.length_map]
   refine Ob ?_
   refine h s5 O w hO ?_
   have H:=H.mv4.mv1.mv4.dp3.dp3
   refine(imL_mono H fun x hx=>?_).mv1
   obtain⟨y,hy,rfl⟩:=List.mem_map.1 hx
   exact List.mem_map.2 ⟨y,hm y hy,rfl⟩
  |succ k ih=>
   intro i w s5 O hi hO hm H
   have hlt:i<L.length:=by omega
   have hOl:O.length=i:=by
    have :=congrArg List.length hO
    simp at this;omega
   refine B_31_4.intro ?_
   simp only[P_31_4]
   rw[leno (v:=s4) H,List.length_map]
   refine Ob ?_
   have hU:L[i].2∈L.map (·.2):=List.mem_map.2 ⟨_,List.getElem_mem hlt,rfl⟩
   refine old_7 (M:=M) (bs:=L.map fun x=>x.2.birth) (i:=i) (C:=imL (logB M)::cac p N B hs m L bn now ev::C) (b:=L[i].2.birth) (O0:=O) (by rw[List.getElem?_map,List.getElem?_eq_getElem hlt];rfl) (by omega) (by omega) (fun w s5 H=>?_) (by omega) M.length 0 w s5 (by omega) (by simpa using H)
   refine ih (i+1) w s5 _ (by omega) ?_ ?_ H
   ·rw[List.map_append,filt_fst hp hnb hU,hO,List.take_add_one,List.getElem?_map,List.getElem?_eq_getElem hlt]
    rfl
   ·intro y hy
    rcases List.mem_append.1 hy with hy |hy
    ·exact hm y hy
    ·exact(List.mem_filter.1 hy).1
 exact loop L.length 0 w _ [] (by omega) rfl (by simp) H
theorem with_8 {s5 s6:Value} {X Y:List (Ent×SV)} (hX:X.length≤4194304) (hY:Y.length≤4194304) (hnd:((Y.map (·.1)).map (·.key)).Nodup)
  (h:∀w,Own w.hp (sle s5 entE X::sle s6 entE Y::imL (logB X)::imL (logB Y)::C)→R (.bool true) w):
  ∀(n a i:Nat) (w:World),a+n=Y.length→i<X.length→Sub ((X.drop i).map (·.1)) ((Y.drop a).map (·.1))→Own w.hp (sle s5 entE X::sle s6 entE Y::imL (logB X)::imL (logB Y)::C)→
   B_11_8 R s5 s6 (.int .i64 a) (.int .i64 i) w:=by
 intro n
 induction n with
 |zero=>
  intro a i w ha hi hs H
  rw[List.drop_eq_getElem_cons hi,List.drop_eq_nil_of_le (show Y.length≤a by omega)] at hs
  have :=hs.len
  simp at this
  omega
 |succ n ih=>
  intro a i w ha hi hs H
  have hlt:a<Y.length:=by omega
  have hs0:=hs
  rw[List.drop_eq_getElem_cons hi,List.drop_eq_getElem_cons hlt] at hs
  simp only[Sub,List.map_cons] at hs
  refine B_11_8.intro ?_
  simp only[P_11_8]
  rw[leno (v:=s6) H]
  refine Ob ?_
  refine idxo (v:=s6) (E:=entE) H hlt ?_
  refine Ob ?_
  refine L1e (v:=s6) (E:=entE) (j:=0) H (List.getElem?_eq_getElem hlt) rfl ?_
  refine Ob ?_
  refine idxo (v:=s5) (E:=entE) H hi ?_
  refine Ob ?_
  refine L1e (v:=s5) (E:=entE) (j:=0) H (List.getElem?_eq_getElem hi) rfl ?_
  by_cases hk:Y[a].1.key=X[i].1.key
  ·have hmem:X[i].1.key∉((Y.drop (a+1)).map (·.1)).map (·.key):=by
    have h1:((Y.drop a).map fun y=>y.1.key).Nodup:=by
     have :=hnd
     rw[List.map_map] at this
     exact((List.drop_sublist a Y).map _).nodup this
    rw[List.drop_eq_getElem_cons hlt] at h1
    simp only[List.map_cons,List.nodup_cons] at h1
    rw[←hk,List.map_map]
    exact h1.1
   have hcs:core X[i].1=core Y[a].1∧Sub ((X.drop (i+1)).map (·.1)) ((Y.drop (a+1)).map (·.1)):=by
    rcases sub_cons hs with h1 |h1
    ·exact h1
    ·refine absurd ?_ hmem
     have h2:=h1.subset (List.mem_cons_self ..)
     obtain⟨y,hy,he⟩:=List.mem_map.1 h2
     exact List.mem_map.2 ⟨y,hy,congrArg (·.1) he⟩
   obtain⟨hc,hs2⟩:=hcs
   have hv:X[i].1.val=Y[a].1.val:=congrArg (·.2.1) hc
   have hd:X[i].1.dl=Y[a].1.dl:=congrArg (·.2.2) hc
   rw[hk]
   refine Ob ?_
   refine idxo (v:=s6) (E:=entE) H hlt ?_
   refine Ob ?_
   refine L1e (v:=s6) (E:=entE) (j:=1) H (List.getElem?_eq_getElem hlt) rfl ?_
   have HY:=imL_get (x:=(Y[a].2,Y[a].1.val)) H.mv3.dp1.dp1.dp1 (List.mem_map.2 ⟨Y[a],List.getElem_mem hlt,rfl⟩)
   refine BTSo (v:=svV Y[a].2) (w:=w.drew.drew) HY ?_
   refine Ob ?_
   refine idxo (v:=s5) (E:=entE) H hi ?_
   refine Ob ?_
   refine L1e (v:=s5) (E:=entE) (j:=1) H (List.getElem?_eq_getElem hi) rfl ?_
   have HX:=imL_get (x:=(X[i].2,X[i].1.val)) H.mv2.dp1.dp1.dp1 (List.mem_map.2 ⟨X[i],List.getElem_mem hi,rfl⟩)
   refine BTSo (v:=svV X[i].2) (w:=w.drew.drew) HX ?_
   rw[hv]
   refine Ob ?_
   refine idxo (v:=s6) (E:=entE) H hlt ?_
   refine Ob ?_
   refine L1e (v:=s6) (E:=entE) (j:=2) H (List.getElem?_eq_getElem hlt) rfl ?_
   refine Ob ?_
   refine idxo (v:=s5) (E:=entE) H hi ?_
   refine Ob ?_
   refine L1e (v:=s5) (E:=entE) (j:=2) H (List.getElem?_eq_getElem hi) rfl ?_
   rw[hd]
   refine Ob ?_
   refine B_11_6.intro ?_
   simp only[P_11_6]
   rw[leno (v:=s5) H]
   by_cases hi2:i+1<X.length
   ·refine Ob ?_
    exact ih (a+1) (i+1) w.drew.drew (by omega) hi2 hs2 H
   ·refine Ob ?_
    exact h w.drew.drew H
  ·have hs2:Sub ((X.drop i).map (·.1)) ((Y.drop (a+1)).map (·.1)):=by
    rw[List.drop_eq_getElem_cons hi]
    rcases sub_cons hs with h1 |h1
    ·exact absurd (congrArg (·.1) h1.1).symm hk
    ·exact h1
   refine Ob ?_
   exact ih (a+1) i w.drew (by omega) hi hs2 H
theorem k_within {a b Na Ba Nb Bb ma mb bna bnb nowa nowb:Nat} {ha hb:Nat×Bool} {La Lb:List (Nat×Ent)} {eva evb:List AEv} (hsub:Sub (La.map (·.2)) (Lb.map (·.2))) (hnd:((Lb.map (·.2)).map (·.key)).Nodup)
  (H:Own w.hp (cac a Na Ba ha ma La bna nowa eva::cac b Nb Bb hb mb Lb bnb nowb evb::C)) (h:∀w',Own w'.hp (cac a Na Ba ha ma La bna nowa eva::cac b Nb Bb hb mb Lb bnb nowb evb::C)→R (.bool true) w'):
  Call Pg 11 #[ptrV a,ptrV b] w R:=by
 have hl:∀ {p N B:Nat} {hs:Nat×Bool} {m:Nat} {L:List (Nat×Ent)} {bn now:Nat} {ev:List AEv} {C:List HP} {h:Hp},Own h (cac p N B hs m L bn now ev::C)→L.length≤2097152:=by
  intro p N B hs m L bn now ev C h H
  obtain⟨q,es,⟨hL,_⟩,H⟩:=cac_iff.1 H
  exact(cl_facts H).2.2.1
 have hla:=hl H
 have hlb:=hl H.mv1
 refine c_11 ?_
 simp only[F_11]
 refine k_oldest (p:=a) H fun s5 X w hX H=>?_
 refine k_oldest (p:=b) H.mv1.mv1.mv2.mv3 fun s6 Y w hY H=>?_
 have H:Own w.hp (sle s6 entE Y::imL (logB Y)::cac b Nb Bb hb mb Lb bnb nowb evb::cac a Na Ba ha ma La bna nowa eva::sle s5 entE X::imL (logB X)::C):=H
 have hXl:X.length=La.length:=by simpa using congrArg List.length hX
 have hYl:Y.length=Lb.length:=by simpa using congrArg List.length hY
 rw[leno (v:=s5) H]
 refine Ob ?_
 refine k_Len (p:=a) H ?_
 rw[hXl]
 refine Ob ?_
 rw[leno (v:=s6) H]
 refine Ob ?_
 refine k_Len (p:=b) H ?_
 rw[hYl]
 refine Ob ?_
 refine B_11_6.intro ?_
 simp only[P_11_6]
 rw[leno (v:=s5) H]
 by_cases hi:0<X.length
 ·refine Ob ?_
  refine with_8 (X:=X) (Y:=Y) (by omega) (by omega) (by rw[hY];exact hnd) (fun w H=>h w H.mv4.mv5.dp2.dp2.dp2.dp2) Y.length 0 0 w (by omega) hi ?_ H.mv3.mv3.mv3.mv5.mv4.mv5
  rw[List.drop_zero,List.drop_zero,hX,hY]
  exact hsub
 ·refine Ob ?_
  exact h w H.mv2.mv3.dp2.dp2.dp2.dp2
end
end Go.Cub
namespace Go.Cub
open Go Go.Proofs Go.IntWalk
theorem Gd.st {N m kd:Nat} {r:CSt×Rs} {m':Nat} {L':List (Nat×Ent)} {bn' now' o':Nat} {ev':List AEv} {er:Int} {hit:Bool} {bs:List UInt8} (h:Gd N m kd r m' L' bn' now' o' ev' er hit bs):stOf L' bn' now' o'=r.1:=by
 obtain⟨⟨U,bn,now,o⟩,r2⟩:=r
 have h1:=h.U
 have h2:=h.bn
 have h3:=h.now
 have h4:=h.o
 simp only at h1 h2 h3 h4
 subst h2;subst h3;subst h4
 rw[←h1];rfl
theorem StOk.pre {N B K m nb:Nat} {L:List (Nat×Ent)} {bn now o':Nat} {o:AOp} (h:StOk N K nb (stOf L bn now o')) (h1:1≤N) (h2:N≤100000) (h3:K≤100000) (h4:(N+1) * K≤B) (h5:m≤2 * N+16) (h6:nb≤100000) (h7:OpOk o) (h8:o.key.size+o.val.length+48≤K):Pre N B K m L bn o:=
 {N1:=h1,N2:=h2,hK:=h3,hB:=h4,m:=by omega,bn:=by have h9:bn≤nb:=h.bn;omega,nd:=h.nd,len:=by have :=h.len;simpa[stOf] using this,cost:=fun x hx=>h.cost x.2 (List.mem_map.2 ⟨x,hx,rfl⟩),op:=h7,ocost:=h8}
section
variable {R:Value→World→Prop} {w:World} {C:List HP} {u u2:HP→List HP} {N B:Nat} {hs:Nat×Bool}
attribute [local irreducible] PV CND GRD L1 LN S1 SN NEW NEWS MKS MKM LK MU DEL LENM APP CPY BTS Call CallV
theorem k_begins (hN:1≤N∧N≤1048576) (hB:1≤B∧B≤1099511627776) (hh:hs.1<18446744073709551616) (H:Own w.hp C) (h:∀p pc w',Own w'.hp (crs p pc 0 (fun _=>0)::cac pc N B hs 0 [] 0 0 []::C)→R (ptrV p) w'):Call Pg 7 #[cfgV N B 0 hs.1 hs.2] w R:=by
 refine c_7 ?_
 simp only[F_7]
 refine NEWo H fun t1 w H=>?_
 have H:Own w.hp (pt t1 [.int .i64 N,.int .i64 B,.int .i64 0,.int .u64 hs.1,.bool hs.2]::C):=H
 refine LNw (b:=t1) H rfl ?_
 refine k_New (hs:=hs) hN hB hh H fun pc w H=>?_
 refine Ob ?_
 refine k_cur_New (pc:=pc) H hN.1 fun p w H=>?_
 refine Ob ?_
 exact h p pc w H.mv1.mv1.dp2
end
structure Two (Nx Ny K i:Nat) (mx my:Nat) (sx sy:CSt):Prop where
 s:Side Nx Ny sx sy
 x:StOk Nx K i sx
 y:StOk Ny K i sy
 mx:mx≤2 * Nx+16
 my:my≤2 * Ny+16
structure Nums (Nx Ny Bx By K:Nat):Prop where
 x1:1≤Nx
 xy:Nx≤Ny
 y2:Ny≤100000
 hK:K≤100000
 hBx:(Nx+1) * K≤Bx
 hBy:(Ny+1) * K≤By
section
variable {R:Value→World→Prop} {w:World} {C:List HP} {u u2:HP→List HP} {px py pcx pcy t12:Nat} {Nx Ny Bx By K:Nat} {hx hy:Nat×Bool} {mx my bnx bny nowx nowy ox oy i:Nat} {plx ply:Nat→Nat} {Lx Ly:List (Nat×Ent)} {s9:Value} {o:AOp} {v:SV} {C1:HP}
attribute [local irreducible] PV CND GRD L1 LN S1 SN NEW NEWS MKS MKM LK MU DEL LENM APP CPY BTS Call CallV
theorem nested_11 (hn:Nums Nx Ny Bx By K) (h8:o.kind≠8) (hop:OpOk o) (hK:o.key.size+o.val.length+48≤K) (hi:i≤99999) (ht:Two Nx Ny K i mx my (stOf Lx bnx nowx ox) (stOf Ly bny nowy oy))
  (H:Own w.hp [pt t12 (opC o v),imm (svV v) o.val,glb,knd,cac pcx Nx Bx hx mx Lx bnx nowx [],crs px pcx ox plx,cac pcy Ny By hy my Ly bny nowy [],crs py pcy oy ply,C1])
  (h:∀w mx my Lx Ly bnx bny nowx nowy ox oy plx ply,Two Nx Ny K (i+1) mx my (stOf Lx bnx nowx ox) (stOf Ly bny nowy oy)→Own w.hp [glb,knd,cac pcx Nx Bx hx mx Lx bnx nowx [],crs px pcx ox plx,cac pcy Ny By hy my Ly bny nowy [],crs py pcy oy ply,C1]→
   B_5_6 R (ptrV px) (ptrV py) s9 (.int .i64 (i+1:Nat)) w):
  B_5_11 R (ptrV px) (ptrV py) s9 (.int .i64 i) (ptrV t12) w:=by
 have hy1:1≤Ny:=Nat.le_trans hn.x1 hn.xy
 have hx2:Nx≤100000:=Nat.le_trans hn.xy hn.y2
 have prx:Pre Nx Bx K mx Lx bnx o:=ht.x.pre hn.x1 hx2 hn.hK hn.hBx ht.mx (by omega) hop hK
 have pry:Pre Ny By K my Ly bny o:=ht.y.pre hy1 hn.y2 hn.hK hn.hBy ht.my (by omega) hop hK
 obtain⟨f1,f2,f3,f4,f5⟩:=stp_fits hn.xy ht.s o
 have f6:=ht.x.stp hn.x1 hK
 have f7:=ht.y.stp hy1 hK
 refine B_5_11.intro ?_
 simp only[P_5_11]
 refine LNw (b:=t12) H rfl ?_
 have H:=imdup (v:=svV v) H
 refine k_Do h8 prx (all5.2 H.mv6.mv6.mv6.mv6.mv9.mv9.mv9.mv9.mv9).mv5.mv5.mv5.mv5.mv5 fun w mx' Lx' bnx' nowx' ox' evx' erx hitx rvx bx ex xvx cux plx' vox evvx xsx hgx hxx H=>?_
 have H:=all5.1 H.mv5.mv5.mv5.mv5.mv5.mv5.mv6
 refine Ob ?_
 refine NEWo H fun t13 w H=>?_
 refine SNw (b:=t13) H rfl rfl rsC_one fun w H=>?_
 refine LNw (b:=t12) H rfl ?_
 refine k_Do h8 pry (all7.2 H.mv2.mv4.mv4.mv7.mv7.mv7.mv11.mv11.mv11.mv11.mv11.mv11).mv5.mv5.mv5.mv5.mv5 fun w my' Ly' bny' nowy' oy' evy' ery hity rvy byy ey xvy cuy ply' voy evvy xsy hgy hxy H=>?_
 have H:=all7.1 H.mv5.mv5.mv5.mv5.mv5.mv5.mv6
 refine Ob ?_
 refine NEWo H fun t15 w H=>?_
 refine SNw (b:=t15) H rfl rfl rsC_one fun w H=>?_
 have enow:nowy'=nowx':=by rw[hgy.now,hgx.now,f1.now]
 have two:Two Nx Ny K (i+1) mx' my' (stOf Lx' bnx' nowx' ox') (stOf Ly' bny' nowy' oy'):=by
  have h1:=hgx.m
  have h2:=hgy.m
  have h3:=ht.mx
  have h4:=ht.my
  refine⟨?_,?_,?_,by omega,by omega⟩
  ·rw[hgx.st,hgy.st];exact f1
  ·rw[hgx.st];exact f6
  ·rw[hgy.st];exact f7
 have nx1:nE (xsx.map evA)≤1:=by rw[hxx,hgx.ev];exact f4
 have nxy:nE (xsy.map evA)≤nE (xsx.map evA):=by rw[hxx,hxy,hgx.ev,hgy.ev];exact f5
 have lx:xsx.length≤1000000:=by
  have h1:=hgx.len
  rw[←hxx,List.length_map] at h1;omega
 have ly:xsy.length≤1000000:=by
  have h1:=hgy.len
  have h2:=hn.y2
  rw[←hxy,List.length_map] at h1;omega
 have eer:o.kind≠12→erx=ery:=fun hk=>by rw[hgx.er hk,hgy.er hk,f2]
 have ehit:hitx=true→hity=true∧bx=byy:=by
  rw[hgx.hit,hgy.hit,hgx.val,hgy.val];exact f3
 clear hgx hgy hxx hxy f1 f2 f3 f4 f5 f6 f7 prx pry
 subst enow
 have hcase:hitx=false∨(hitx=true∧hity=true∧bx=byy):=by
  cases hitx with
  |false=>exact .inl rfl
  |true=>exact .inr ⟨rfl,(ehit rfl).1,(ehit rfl).2⟩
 clear ehit
 refine Ob ?_
 refine L1o (b:=t13) H rfl ?_
 refine Ob ?_
 refine L1o (b:=t15) H rfl ?_
 refine Ob ?_
 refine L1o (b:=t13) H rfl ?_
 rcases hcase with rfl |⟨rfl,rfl,rfl⟩
 case' inr=>
  refine Ob ?_
  refine L1o (b:=t15) H rfl ?_
  refine Ob ?_
  refine L1o (b:=t13) H rfl ?_
  refine BTSo (v:=svV rvx) H ?_
  refine Ob ?_
  refine L1o (b:=t15) H rfl ?_
  refine BTSo (v:=svV rvy) H ?_
 all_goals
  refine Ob ?_
  refine L1o (b:=t12) H rfl ?_
  by_cases hk:o.kind=12
  case' neg=>
   have hk2:¬((o.kind:Nat):Int)=12:=by omega
   have he:=eer hk
   subst he
   refine Ob ?_
   refine L1o (b:=t13) H rfl ?_
   refine Ob ?_
   refine L1o (b:=t15) H rfl ?_
  case' pos=>
   have hk2:((o.kind:Nat):Int)=12:=by omega
   rw[hk2]
  all_goals
   refine Ob ?_
   refine L1o (b:=t13) H rfl ?_
   refine k_evicted (s:=svV evvx) (w:=w.drew) H lx ?_
   refine Ob ?_
   refine L1o (b:=t15) (w:=w) H rfl ?_
   refine L1o (b:=t13) (w:=w) H rfl ?_
   refine k_evicted (s:=svV evvy) (w:=w.drew) H ly ?_
   refine Ob ?_
   refine⟨L1o (b:=t13) (w:=w) H rfl rfl,?_⟩
   refine k_evicted (s:=svV evvx) (w:=w.drew) H lx ?_
   refine Ob ?_
   have H:Own w.drew.hp _:=H
   generalize w.drew=w at H ⊢
   refine k_cur_Cache (p:=px) H ?_
   refine Ob ?_
   refine k_cur_Cache (p:=py) H ?_
   refine Ob ?_
   refine k_within two.s.l.sub two.s.l.nd H.mv7.mv11.mv6.mv10.mv10.mv11.mv9.dp7.dp7.dp7.dp7.dp7.dp7.dp7 fun w H=>?_
   refine Ob ?_
   rw[show((i:Int)+1)=((i+1:Nat):Int) by simp]
   exact h w _ _ _ _ _ _ _ _ _ _ _ _ two H.mv6.mv6.mv3.mv6.mv4.mv6.mv6
theorem nested_6 (hn:Nums Nx Ny Bx By K) {M:List (AOp×SV)} (hM:∀y∈M,OpOk y.1∧y.1.key.size+y.1.val.length+48≤K) (hK48:48≤K) (hMl:M.length≤99999) {C0:HP} (h:∀w,Own w.hp [glb,knd,C0]→R (.bool true) w):
  ∀(k i:Nat) (w:World) (mx my:Nat) (Lx Ly:List (Nat×Ent)) (bnx bny nowx nowy ox oy:Nat) (plx ply:Nat→Nat),i+k=M.length→Two Nx Ny K i mx my (stOf Lx bnx nowx ox) (stOf Ly bny nowy oy)→
   Own w.hp [glb,knd,cac pcx Nx Bx hx mx Lx bnx nowx [],crs px pcx ox plx,cac pcy Ny By hy my Ly bny nowy [],crs py pcy oy ply,.all [sle s9 opE M,imL (opB M),C0]]→B_5_6 R (ptrV px) (ptrV py) s9 (.int .i64 i) w:=by
 intro k
 induction k with
 |zero=>
  intro i w mx my Lx Ly bnx bny nowx nowy ox oy plx ply hi ht H
  have H:=all3.1 H.mv1.mv1.mv6.dp3.dp3.dp3.dp3
  refine B_5_6.intro ?_
  simp only[P_5_6]
  rw[leno (v:=s9) H]
  refine Ob ?_
  exact h w H.mv2.mv4.mv4.dp3.dp3
 |succ k ih=>
  intro i w mx my Lx Ly bnx bny nowx nowy ox oy plx ply hi ht H
  have hlt:i<M.length:=by omega
  have H:=all3.1 H.mv5.mv5.mv5.mv5.mv5.mv5.mv6
  refine B_5_6.intro ?_
  simp only[P_5_6]
  rw[leno (v:=s9) H]
  refine Ob ?_
  refine idxo (v:=s9) (E:=opE) H hlt ?_
  refine LNe (v:=s9) (E:=opE) H (List.getElem?_eq_getElem hlt) ?_
  refine NEWo H fun t12 w H=>?_
  refine SNw (b:=t12) H rfl rfl (opC_one _ _) fun w H=>?_
  refine Ob ?_
  refine L1o (b:=t12) H rfl ?_
  obtain⟨ho,hc⟩:=hM _ (List.getElem_mem hlt)
  have hstep:=fun(w:World) mx my Lx Ly bnx bny nowx nowy ox oy plx ply ht H=>ih (i+1) w mx my Lx Ly bnx bny nowx nowy ox oy plx ply (by omega) ht H
  by_cases h8:M[i].1.kind=8
  ·have h8':((M[i].1.kind:Nat):Int)=8:=by omega
   rw[h8']
   refine Ob ?_
   refine L1o (b:=t12) H rfl ?_
   refine PV_of (v:=.agg (opC ⟨10,M[i].1.ticks,⟨#[]⟩,[],0,0,0,0,0⟩ sv0).toArray) rfl ?_
   refine SNw (b:=t12) H rfl rfl (opC_one _ _) fun w H=>?_
   have H:=imm_nil H
   refine nested_11 (o:=⟨10,M[i].1.ticks,⟨#[]⟩,[],0,0,0,0,0⟩) (v:=sv0) hn (show ¬(10:Nat)=8 by decide) ⟨show 10∈kindsL by decide,show(ByteArray.mk #[]).size≤31 by decide,by simp,by simp⟩ (show(ByteArray.mk #[]).size+0+48≤K by have :(ByteArray.mk #[]).size=0:=rfl;omega) (by omega) ht (all3.2 H.mv10.mv10.mv10.mv10.mv10.mv10.mv6.mv7.mv10.mv10.mv10).mv8.mv8.mv8.mv8.mv8.mv8.mv8.mv8 hstep
  ·have h8':¬((M[i].1.kind:Nat):Int)=8:=by omega
   refine Ob ?_
   have H:=imL_get (x:=(M[i].2,M[i].1.val)) H.mv9.mv9.mv9.mv9.mv9.mv9.mv9.mv8.mv8.mv9 (List.mem_map.2 ⟨M[i],List.getElem_mem hlt,rfl⟩)
   refine nested_11 (o:=M[i].1) (v:=M[i].2) hn h8 ho hc (by omega) ht (all3.2 H.mv10.mv10.mv10.mv10.mv10.mv10.mv6.mv8.mv10.mv9.mv10).mv8.mv8.mv8.mv8.mv8.mv8.mv8.mv8 hstep
end
section
variable {R:Value→World→Prop} {w:World} {Nx Ny Bx By K:Nat} {hx hy:Nat×Bool} {bs:List UInt8} {v:SV} {C0:HP}
attribute [local irreducible] PV CND GRD L1 LN S1 SN NEW NEWS MKS MKM LK MU DEL LENM APP CPY BTS Call CallV
theorem k_nested (hn:Nums Nx Ny Bx By K) (hBx:1≤Bx∧Bx≤1099511627776) (hBy:1≤By∧By≤1099511627776) (hhx:hx.1<18446744073709551616) (hhy:hy.1<18446744073709551616) (hM:∀o∈parseL bs,o.key.size+o.val.length+48≤K) (hK48:48≤K) (hl:bs.length≤4096)
  (H:Own w.hp [imm (svV v) bs,glb,knd,C0]) (h:∀w,Own w.hp [glb,knd,C0]→R (.bool true) w):Call Pg 5 #[svV v,cfgV Nx Bx 0 hx.1 hx.2,cfgV Ny By 0 hy.1 hy.2] w R:=by
 have hx1:=hn.x1
 have hxy:=hn.xy
 have hy2:=hn.y2
 refine c_5 ?_
 simp only[F_5]
 refine NEWo H fun t4 w H=>?_
 have H:Own w.hp (pt t4 [.int .i64 Nx,.int .i64 Bx,.int .i64 0,.int .u64 hx.1,.bool hx.2]::_):=H
 refine NEWo H fun t5 w H=>?_
 have H:Own w.hp (pt t5 [.int .i64 Ny,.int .i64 By,.int .i64 0,.int .u64 hy.1,.bool hy.2]::_):=H
 refine LNw (b:=t4) (w:=w.drew) H rfl ?_
 refine LNw (b:=t5) (w:=w.drew) H rfl ?_
 refine k_begins (w:=w.drew) (hs:=hx) (N:=Nx) (B:=Bx) ⟨hx1,by omega⟩ hBx hhx H fun px pcx w H=>?_
 refine⟨LNw (b:=t5) H rfl rfl,?_⟩
 refine k_begins (hs:=hy) (N:=Ny) (B:=By) ⟨by omega,by omega⟩ hBy hhy H fun py pcy w H=>?_
 have H:=H.mv9.mv8.mv5.mv5.mv5.mv5.mv9.mv9.dp8.dp8
 refine k_Parse hl H fun s9 M w hM' H=>?_
 obtain⟨p1,p2⟩:=parseL_ok bs
 have hops:∀y∈M,OpOk y.1∧y.1.key.size+y.1.val.length+48≤K:=fun y hy=>by
  have :y.1∈parseL bs:=by rw[←hM'];exact List.mem_map.2 ⟨y,hy,rfl⟩
  exact⟨p1 _ this,hM _ this⟩
 have hMl:M.length≤4096:=by
  have :=congrArg List.length hM'
  rw[List.length_map] at this
  omega
 refine Ob ?_
 refine nested_6 (C0:=C0) (hx:=hx) (hy:=hy) (pcx:=pcx) (pcy:=pcy) hn hops hK48 (by omega) h M.length 0 w 0 0 [] [] 0 0 0 0 0 0 (fun _=>0) (fun _=>0) (by omega) ⟨⟨⟨.slnil,by simp[stOf],by simp[stOf],by simp[stOf],by simpa[stOf] using hxy⟩,rfl,rfl⟩,⟨by simp[stOf],by simp[stOf],by simp[stOf],Nat.le_refl _⟩,⟨by simp[stOf],by simp[stOf],by simp[stOf],Nat.le_refl _⟩,by omega,by omega⟩ ?_
 exact(all3.2 H.mv3.mv4.mv5.mv6.mv6.mv7.mv8.mv8.mv8).mv6.mv6.mv6.mv6.mv6.mv6
end
end Go.Cub
namespace Go.Cub
open Go Go.Proofs Go.IntWalk
structure RC where
 cs:List Value
 hit:Bool
 len:cs.length=21
 one:∀v∈cs,v.oneCell'=true
 h:cs[11]?=some (.bool hit)
def resE:Enc RC:=⟨21,fun r=>r.cs,fun r=>r.len,fun r=>r.one⟩
def runH (N:Nat):CSt→List AOp→List Bool
 |_,[]=>[]
 |s,o::l=>(stp N s o).2.hit::runH N (stp N s o).1 l
section
variable {R:Value→World→Prop} {w:World} {C:List HP} {u u2:HP→List HP} {p pc:Nat} {N B K:Nat} {hs:Nat×Bool} {m bn now so:Nat} {pl:Nat→Nat} {L:List (Nat×Ent)} {o:AOp} {v:SV} {C0:HP} {s:Value} {M:List (AOp×SV)} {bs:List UInt8}
attribute [local irreducible] PV CND GRD L1 LN S1 SN NEW NEWS MKS MKM LK MU DEL LENM APP CPY BTS Call CallV
theorem c_On1 {Kv:Value→World→Prop} (ho:o.kind∈kindsL) (H:Own w.hp (knd::C)) (h:∀w',Own w'.hp (knd::C)→Kv (.bool false) w'):CallV Pg (.func (.func 37) #[] #[]) #[.agg (opC o v).toArray] w Kv:=by
 refine callV_fn (Tryz.calOk _ (by rfl)) ?_
 show Call Pg 37 #[.agg (opC o v).toArray] w _
 refine c_37 ?_
 simp only[F_37]
 refine NEWo H fun t1 w H=>?_
 have H:Own w.hp (pt t1 (opC o v)::_):=H
 refine LNw (b:=t1) H rfl ?_
 refine c_known (k:=o.kind) H ho rfl rfl fun w H=>?_
 refine Ob ?_
 exact h w H.drop
theorem c_ContainsFunc (hM:∀y∈M,OpOk y.1) (hMl:M.length≤99999) (H:Own w.hp (sle s opE M::knd::C)) (h:∀w',Own w'.hp (sle s opE M::knd::C)→R (.bool false) w'):Call Pg 36 #[s,.func (.func 37) #[] #[]] w R:=by
 refine c_36 ?_
 simp only[F_36]
 refine c_80 ?_
 simp only[F_80]
 rw[leno (v:=s) H]
 refine Ob ?_
 have loop:∀(k j:Nat) (w:World),j+k=M.length→Own w.hp (sle s opE M::knd::C)→B_80_2 (fun t7 w_1=>PV (binN .geq t7 (.int .i64 0)) fun t8=>R t8 w_1) s (.func (.func 37) #[] #[]) (.int .i64 M.length) (.int .i64 j) w:=by
  intro k
  induction k with
  |zero=>
   intro j w hj H
   refine B_80_2.intro ?_
   simp only[P_80_2]
   refine Ob ?_
   exact h w H
  |succ k ih=>
   intro j w hj H
   have hlt:j<M.length:=by omega
   refine B_80_2.intro ?_
   simp only[P_80_2]
   refine Ob ?_
   refine idxo (v:=s) (E:=opE) H hlt ?_
   refine LNe (v:=s) (E:=opE) H (List.getElem?_eq_getElem hlt) ?_
   refine c_On1 (o:=M[j].1) (v:=M[j].2) (hM _ (List.getElem_mem hlt)).kind H.mv1 fun w H=>?_
   refine Ob ?_
   rw[show((j:Int)+1)=((j+1:Nat):Int) by simp]
   exact ih (j+1) w (by omega) H.mv1
 exact loop M.length 0 w (by omega) H
theorem on_9 (h1:1≤N) (h2:N≤100000) (h3:K≤100000) (h4:(N+1) * K≤B) (hM:∀y∈M,OpOk y.1∧y.1.kind≠8∧y.1.key.size+y.1.val.length+48≤K) (hMl:M.length≤99999)
  (h:∀w out rs hits,hits=rs.map (·.hit)→Own w.hp [sle out resE rs,glb,knd,C0]→hits.length=M.length→hits=runH N (stOf [] 0 0 0) (M.map (·.1))→R (.tuple #[out,.int .i64 0]) w):
  ∀(k i:Nat) (w:World) (m:Nat) (L:List (Nat×Ent)) (bn now so:Nat) (pl:Nat→Nat) (out:Value) (rs:List RC),i+k=M.length→StOk N K i (stOf L bn now so)→m≤2 * N+16→rs.length=i→
   rs.map (·.hit)++runH N (stOf L bn now so) ((M.drop i).map (·.1))=runH N (stOf [] 0 0 0) (M.map (·.1))→
   Own w.hp [sle out resE rs,glb,knd,cac pc N B hs m L bn now [],crs p pc so pl,.all [sle s opE M,imL (opB M),C0]]→B_15_9 R (ptrV p) out s (.int .i64 M.length) (.int .i64 i) w:=by
 intro k
 induction k with
 |zero=>
  intro i w m L bn now so pl out rs hi hst hm hrl he H
  rw[List.drop_eq_nil_of_le (by omega)] at he
  refine B_15_9.intro ?_
  simp only[P_15_9]
  refine Ob ?_
  have H:=all3.1 H.mv2.mv2.mv2.mv5.dp4.dp4
  refine h w out rs _ rfl H.mv2.mv5.mv5.mv5.dp4.dp4 (by rw[List.length_map];omega) ?_
  rw[←he]
  simp[runH]
 |succ k ih=>
  intro i w m L bn now so pl out rs hi hst hm hrl he H
  have hlt:i<M.length:=by omega
  obtain⟨ho,h8,hc⟩:=hM _ (List.getElem_mem hlt)
  rw[List.drop_eq_getElem_cons hlt] at he
  have H:=all3.1 H.mv4.mv4.mv4.mv4.mv4.mv5
  refine B_15_9.intro ?_
  simp only[P_15_9]
  refine Ob ?_
  refine idxo (v:=s) (E:=opE) H hlt ?_
  refine LNe (v:=s) (E:=opE) H (List.getElem?_eq_getElem hlt) ?_
  refine NEWo H fun t8 w H=>?_
  refine SNw (b:=t8) H rfl rfl (opC_one _ _) fun w H=>?_
  refine LNw (b:=t8) H rfl ?_
  have H:=imL_get (x:=(M[i].2,M[i].1.val)) H.mv8.mv8.mv8.mv8.mv8.mv8.mv7.mv8.dp8 (List.mem_map.2 ⟨M[i],List.getElem_mem hlt,rfl⟩)
  have hp:Pre N B K m L bn M[i].1:=hst.pre h1 h2 h3 h4 hm (by omega) ho hc
  refine k_Do (o:=M[i].1) (v:=M[i].2) h8 hp (all4.2 H.mv8.mv8.mv8.mv8.mv8.mv8.mv8.mv8).mv5.mv5.mv5.mv5.mv5 fun w m' L' bn' now' o' ev' er hit rv bs x xv cu pl' vo evv xs hg hx H=>?_
  have H:=all4.1 H.mv3.mv3.mv3.mv3.mv6.dp5.dp5
  refine Ob ?_
  refine NEWo H fun t9 w H=>?_
  refine SNw (b:=t9) H rfl rfl rsC_one fun w H=>?_
  refine LNw (b:=t9) H rfl ?_
  have hh:hit=(stp N (stOf L bn now so) M[i].1).2.hit:=hg.hit
  have hst':=hg.st
  have hm':=hg.m
  have hstep:=hst.stp (o:=M[i].1) h1 hc
  rw[←hst'] at hstep
  clear hg
  generalize hrc:(⟨rsC M[i].1 vo now' er hit rv x xv cu evv L'.length (sumC (aOf L')),hit,rfl,rsC_one,rfl⟩:RC)=rc
  have hcs:rsC M[i].1 vo now' er hit rv x xv cu evv L'.length (sumC (aOf L'))=rc.cs:=by rw[←hrc]
  have hhit:rc.hit=hit:=by rw[←hrc]
  rw[hcs]
  refine NEWSo resE [rc] H (cs:=rc.cs.toArray) (by rw[←hcs];simp[buildS,buildSl,Instr.fill,rsC,zeros]) (by simp[Enc.fl,resE]) rfl fun tt w H=>?_
  refine APPo (E:=resE) (ys:=[rc]) (v:=out) H rfl (by decide) (by simp;omega) fun out' w H=>?_
  rw[show((i:Int)+1)=((i+1:Nat):Int) by simp]
  refine Ob ?_
  refine ih (i+1) w m' L' bn' now' o' pl' out' (rs++[rc]) (by omega) hstep (by omega) (by simp[hrl]) ?_ (all3.2 H.mv9.mv9.mv9.mv9.mv9.mv9.mv8.mv9.dp8.dp8).mv5.mv5.mv5.mv5.mv5
  rw[←he,List.map_append,List.append_assoc,hst']
  simp only[List.map_cons,List.map_nil,runH,List.cons_append,List.nil_append,hhit,hh]
theorem k_On (h1:1≤N) (h2:N≤100000) (h3:K≤100000) (h4:(N+1) * K≤B) (hM:∀y∈M,OpOk y.1∧y.1.kind≠8∧y.1.key.size+y.1.val.length+48≤K) (hMl:M.length≤4096)
  (H:Own w.hp [glb,knd,cac pc N B hs 0 [] 0 0 [],crs p pc 0 pl,sle s opE M,imL (opB M),C0])
  (h:∀w out rs hits,hits=rs.map (·.hit)→Own w.hp [sle out resE rs,glb,knd,C0]→hits.length=M.length→hits=runH N (stOf [] 0 0 0) (M.map (·.1))→R (.tuple #[out,.int .i64 0]) w):Call Pg 15 #[ptrV p,s] w R:=by
 refine c_15 ?_
 simp only[F_15]
 refine k_cur_Cache (p:=p) H ?_
 refine Ob ?_
 refine c_ContainsFunc (fun y hy=>(hM y hy).1) (by omega) H.mv6.mv6.mv5.mv5.mv4.mv5.mv6 fun w H=>?_
 refine Ob ?_
 rw[leno (v:=s) H]
 refine Ob ?_
 have H:=sl_nil resE H
 refine on_9 (M:=M) (hs:=hs) (pc:=pc) h1 h2 h3 h4 hM (by omega) h M.length 0 w 0 [] 0 0 0 pl _ [] (by omega) ⟨by simp[stOf],by simp[stOf],by simp[stOf],Nat.le_refl _⟩ (by omega) rfl (by simp) ?_
 exact(all3.2 H.mv5.mv5.mv4.mv5.mv4.mv7.mv7.mv7).mv5.mv5.mv5.mv5.mv5
theorem k_Run (h1:1≤N) (h2:N≤100000) (h3:K≤100000) (h4:(N+1) * K≤B) (hB:1≤B∧B≤1099511627776) (hh:hs.1<18446744073709551616) (hM:∀o∈parseL bs,o.kind≠8∧o.key.size+o.val.length+48≤K) (hl:bs.length≤4096)
  (H:Own w.hp [imm (svV v) bs,glb,knd,C0])
  (h:∀w out rs hits,hits=rs.map (·.hit)→Own w.hp [sle out resE rs,glb,knd,C0]→hits=runH N (stOf [] 0 0 0) (parseL bs)→R (.tuple #[out,.int .i64 0]) w):Call Pg 6 #[cfgV N B 0 hs.1 hs.2,svV v] w R:=by
 refine c_6 ?_
 simp only[F_6]
 refine NEWo H fun t2 w H=>?_
 have H:Own w.hp (pt t2 [.int .i64 N,.int .i64 B,.int .i64 0,.int .u64 hs.1,.bool hs.2]::_):=H
 refine k_Parse hl H.mv4.mv3.mv2.mv4.mv4 fun s M w hM' H=>?_
 obtain⟨p1,p2⟩:=parseL_ok bs
 have hops:∀y∈M,OpOk y.1∧y.1.kind≠8∧y.1.key.size+y.1.val.length+48≤K:=fun y hy=>by
  have :y.1∈parseL bs:=by rw[←hM'];exact List.mem_map.2 ⟨y,hy,rfl⟩
  exact⟨p1 _ this,hM _ this⟩
 have hMl:M.length≤4096:=by
  have :=congrArg List.length hM'
  rw[List.length_map] at this
  omega
 refine Ob ?_
 refine LNw (b:=t2) H rfl ?_
 refine k_New (hs:=hs) (N:=N) (B:=B) ⟨h1,by omega⟩ hB hh H fun pc w H=>?_
 refine Ob ?_
 refine k_cur_New (pc:=pc) H h1 fun p w H=>?_
 refine Ob ?_
 refine k_On (M:=M) (C0:=C0) h1 h2 h3 h4 hops hMl H.mv7.mv4.mv4.mv3.mv4.mv5.mv7.dp7 fun w out rs hits a1 a2 a3 a4=>?_
 refine Ob ?_
 rw[hM'] at a4
 exact h w out rs hits a1 a2 a4
end
end Go.Cub
namespace Go.Cub
open Go Go.Proofs Go.IntWalk
def exB:List UInt8:=[1,1,97,0,1,1,98,0,0,1,97]
theorem ex_ops:parseL exB=[⟨1,0,⟨#[97]⟩,[],0,0,0,0,0⟩,⟨1,0,⟨#[98]⟩,[],0,0,0,0,0⟩,⟨3,0,⟨#[97]⟩,[],0,0,0,0,0⟩]:=rfl
theorem ex_hits1:runH 1 (stOf [] 0 0 0) (parseL exB)=[false,false,false]:=by
 rw[ex_ops];decide
theorem ex_hits2:runH 2 (stOf [] 0 0 0) (parseL exB)=[false,false,true]:=by
 rw[ex_ops];decide
theorem ex_ok:∀o∈parseL exB,o.kind≠8∧o.key.size+o.val.length+48≤49:=by
 rw[ex_ops];decide
theorem three {rs:List RC} {a b c:Bool} (h:rs.map (·.hit)=[a,b,c]):∃x,rs[2]?=some x∧x.hit=c∧rs.length=3:=by
 match rs,h with
 |[r0,r1,r2],h=>
  simp only[List.map_cons,List.map_nil,List.cons.injEq] at h
  exact⟨r2,rfl,h.2.2.1,rfl⟩
section
variable {R:Value→World→Prop} {w:World} {C0:HP} {bs:List UInt8} {v:SV}
attribute [local irreducible] PV CND GRD L1 LN S1 SN NEW NEWS MKS MKM LK MU DEL LENM APP CPY BTS Call CallV
theorem k_parted (H:Own w.hp [glb,knd,C0]) (h:∀w,Own w.hp [glb,knd,C0]→R (.bool true) w):Call Pg 4 #[] w R:=by
 refine c_4 ?_
 simp only[F_4]
 refine NEWSo u8E exB H (cs:=(exB.map u8V).toArray) (by simp[buildS,buildSl,Instr.fill,zeros,exB,u8V]) (by rw[u8E_fl]) rfl fun t8 w H=>?_
 have H:=freeze (v:=t8) H
 obtain⟨v,rfl⟩:=imm_sv H
 refine PV_of (v:=cfgV 1 1000 0 0 false) rfl ?_
 refine PV_of (v:=cfgV 2 1000 0 0 false) rfl ?_
 refine NEWo H fun t2 w H=>?_
 refine NEWo H fun t3 w H=>?_
 refine SNw (b:=t2) (vs:=[.int .i64 1,.int .i64 1000,.int .i64 0,.int .u64 0,.bool false]) H rfl rfl (by simp[Value.oneCell']) fun w H=>?_
 refine SNw (b:=t3) (vs:=[.int .i64 2,.int .i64 1000,.int .i64 0,.int .u64 0,.bool false]) H rfl rfl (by simp[Value.oneCell']) fun w H=>?_
 refine LNw (b:=t2) H rfl ?_
 have H:=imdup (v:=svV v) H
 refine k_Run (N:=1) (B:=1000) (K:=49) (hs:=(0,false)) (by decide) (by decide) (by decide) (by decide) (by decide) (by decide) ex_ok (by decide) ((all4.2 H.mv5.mv5.mv2.mv6.mv6.mv6.mv6).mv3.mv3.mv3) fun w o1 rs1 hits1 a1 H a2=>?_
 rw[ex_hits1] at a2
 have H:=all4.1 H.mv2.mv2.mv2.mv3
 refine Ob ?_
 refine LNw (b:=t3) H rfl ?_
 have H:=imdup (v:=svV v) H
 refine k_Run (N:=2) (B:=1000) (K:=49) (hs:=(0,false)) (by decide) (by decide) (by decide) (by decide) (by decide) (by decide) ex_ok (by decide) ((all5.2 H.mv7.mv7.mv2.mv7.mv7.mv7.mv7.mv7).mv3.mv3.mv3) fun w o2 rs2 hits2 b1 H b2=>?_
 rw[ex_hits2] at b2
 have H:=all5.1 H.mv2.mv2.mv2.mv3
 have hr1:=three (a1.symm.trans a2)
 have hr2:=three (b1.symm.trans b2)
 obtain⟨x,hx1,hx2,hx3⟩:=hr1
 obtain⟨y,hy1,hy2,hy3⟩:=hr2
 clear a1 a2 b1 b2
 refine Ob ?_
 rw[leno (v:=o1) H,hx3]
 refine Ob ?_
 rw[leno (v:=o2) H,hy3]
 refine Ob ?_
 refine idxo (v:=o1) (E:=resE) (i:=2) H (by omega) ?_
 refine Ob ?_
 refine L1e (v:=o1) (E:=resE) (j:=11) H hx1 x.h ?_
 rw[hx2]
 refine Ob ?_
 refine idxo (v:=o2) (E:=resE) (i:=2) H (by omega) ?_
 refine Ob ?_
 refine L1e (v:=o2) (E:=resE) (j:=11) H hy1 y.h ?_
 rw[hy2]
 refine Ob ?_
 refine LNw (b:=t2) H rfl ?_
 refine Ob ?_
 refine LNw (b:=t3) H rfl ?_
 refine Ob ?_
 refine k_nested (Nx:=1) (Ny:=2) (Bx:=1000) (By:=1000) (K:=49) (hx:=(0,false)) (hy:=(0,false)) ⟨by decide,by decide,by decide,by decide,by decide,by decide⟩ (by decide) (by decide) (by decide) (by decide) (fun o ho=>(ex_ok o ho).2) (by decide) (by decide) H.mv3.mv7.mv7.mv5.dp4.dp4.dp4.dp4 fun w H=>?_
 refine Ob ?_
 exact h w H
theorem f_TopNested {less more:Int} {seed:Nat} (hs:seed<18446744073709551616) (hlen:bs.length<9223372036854775808) (H:Own w.hp [imm (svV v) bs,glb,knd,C0]) (h:∀w,Own w.hp [glb,knd,C0]→R (.bool true) w):
  F_cubbyholetop_TopNested R (svV v) (.int .i64 less) (.int .i64 more) (.int .u64 seed) w:=by
 simp only[F_cubbyholetop_TopNested]
 rw[imlen (v:=svV v) (bs:=bs) H]
 have other:∀ {w:World},Own w.hp [imm (svV v) bs,glb,knd,C0]→Call Pg 4 #[] w fun t25 w_8=>R t25 w_8:=fun H=>k_parted H.drop h
 by_cases h1:150<bs.length
 ·have h1':(150:Int)<(bs.length:Nat):=by omega
  refine Ob ?_
  exact other H
 have h1':¬(150:Int)<(bs.length:Nat):=by omega
 by_cases h2:less<1
 ·refine Ob ?_
  exact other H
 by_cases h3:more<less
 ·refine Ob ?_
  exact other H
 by_cases h4:1000<more
 ·refine Ob ?_
  exact other H
 obtain⟨a,rfl⟩:=Int.eq_ofNat_of_zero_le (show 0≤less by omega)
 obtain⟨b,rfl⟩:=Int.eq_ofNat_of_zero_le (show 0≤more by omega)
 refine Ob ?_
 refine PV_of (v:=cfgV a 1099511627776 0 0 false) rfl ?_
 generalize decide (((seed:Nat):Int).tmod 2=1)=sm
 refine PV_of (v:=cfgV b 1099511627776 0 seed sm) rfl ?_
 refine k_nested (Nx:=a) (Ny:=b) (Bx:=1099511627776) (By:=1099511627776) (K:=334) (hx:=(0,false)) (hy:=(seed,sm)) ⟨by omega,by omega,by omega,by decide,by omega,by omega⟩ (by decide) (by decide) (by decide) hs (fun o ho=>?_) (by decide) (by omega) H fun w H=>?_
 ·have :=(parseL_ok bs).1 o ho
  have h5:=this.key
  have h6:=this.val
  omega
 refine Ob ?_
 exact k_parted H fun w H=>by
  refine Ob ?_
  exact h w H
end
end Go.Cub
namespace Go.Cub
open Go
section
variable {P:Program} {tt:TTab} {cal:Nat→Bool} {n:Nat}
theorem fnCtx_calls {f:FuncId} {fn:Func} {R:Value→World→Prop} (hfn:P.funcs[f]?=some fn) (cs:List Frame):
  FnCtx P fn R {fn:=f,kind:=.normal,round:=none,cs:=cs,G:=fun m=>∃v w' fr,R v w'∧m=lone fr cs w'∧fr.fn=f∧fr.leaving P w' (.returned v)}:=
 ⟨rfl,by simp,fun _ v w hd hr hR _=>.here ⟨v,w,_,hR,rfl,rfl,rfl,hd,rfl,fn,hfn,hr⟩⟩
theorem calls_intro {f:FuncId} {fn:Func} {c:Code} {L:List (Nat×List Nat)} {R:Value→World→Prop} (ok:TabOk P tt) (hcal:CalOk P cal) (hm:P.follows .mixedOrders=true) (F:FnOk P f fn c n) (hL:lvLt n L=true) {stops:List Nat} {args:Array Value} (ha:args.size≤n) {w:World} {Q:Prop}
  (h:fnDen P tt cal f fn c n stops (lvOf L) (blks P f fn c n L R) R (envOf args.toList) [] w=Q) (q:Q):Calls P f args w fun e w'=>∃v,e=.returned v∧R v w':=by
 rw[←h] at q
 intro cs
 have hC:=fnCtx_calls (P:=P) (R:=R) F.func cs
 have :=den_ok (C:= {fn:=f,kind:=.normal,round:=none,cs:=cs,G:=fun m=>∃v w' fr,R v w'∧m=lone fr cs w'∧fr.fn=f∧fr.leaving P w' (.returned v)}) (rd:=none) ok hcal hC.kind hm hC.round rfl (lvLt_elim hL) c _ _ _ [] F.stat F.uniq (hblk_of hC rfl (blks_ok (L:=L))) (hC.end ok F.res) (fun id ρ df a w h _ _=>h.elim) (hC.rt ok F.res)
  (envOf args.toList) [] _ w q (rel_enter args n ha) rfl
 have he:Frame.enter P f args .normal=({fn:=f,kind:=.normal,round:=none,cs:=cs,G:=fun m=>∃v w' fr,R v w'∧m=lone fr cs w'∧fr.fn=f∧fr.leaving P w' (.returned v)}:Ctx).fr {tmps:=args++Array.replicate (n - args.size) undef,defers:=[]} [.code c]:=by
  simp[Frame.enter,Ctx.fr,F.func,F.body,F.ntmps]
 rw[he]
 obtain⟨m',hs,v,w',fr,hR,rfl,hf,hl⟩:=this
 exact⟨.returned v,w',fr,⟨v,rfl,hR⟩,hs,hf,hl⟩
end
end Go.Cub
