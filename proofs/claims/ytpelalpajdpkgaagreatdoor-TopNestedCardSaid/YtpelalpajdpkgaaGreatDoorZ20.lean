/-
  Part 21 of the proof that TopNested returns true and leaves what it was given as it was. CONDITIONS: those of the given row and card.
-/
import Derived.Test.YtpelalpajdpkgaaGreatDoorZ19
set_option linter.all false
namespace Go.Cub
open Go Go.Proofs Go.IntWalk
def mpm (r:Nat) (k:IntKind) (ps:List (Nat×Value)) (n stamp:Nat):HP:=⟨fun h F G=>MapMid (wh h) r k ps n stamp∧F=[r]∧G=[],
 fun⟨h1,h2,h3⟩ hk _=>⟨by
  obtain⟨es,clock,j,h4,h5⟩:=h1
  exact⟨es,clock,j,by rw[mapAt_get (hk r (by simp[h2]))];exact h4,h5⟩,h2,h3⟩,
 fun a x hx=>by
  obtain⟨⟨es,clock,j,h4,h5⟩,h2,h3⟩:=a
  subst h2;subst h3;simp at hx;subst hx;exact mapAt_lt h4,
 fun⟨h1,h2,h3⟩ x hx=>by subst h3;simp⟩
instance {r:Nat} {k:IntKind} {ps:List (Nat×Value)} {n stamp:Nat}:Keyed (mpm r k ps n stamp) (.b r):=⟨⟩
def mit (it r:Nat) (k:IntKind) (ps S:List (Nat×Value)):HP:=⟨fun h F G=>(∃es clock,∃ses:List MapEntry,mapAt (wh h) r=some (es,clock)∧(es.map fun e=>(e.key,e.val))=(ps.map fun p=>(keyI k p.1,p.2))∧(ps.map (·.1)).Nodup∧(∀e∈es,e.born<clock)∧(es.map (·.born)).Nodup∧
  h.o[it]?=some (.mapIter (some r) clock (ses.map (·.born)).toArray clock)∧(∀e∈ses,e∈es)∧(ses.map (·.born)).Nodup∧(ses.map fun e=>(e.key,e.val))=(S.map fun p=>(keyI k p.1,p.2)))∧it≠r∧F=[it,r]∧G=[],
 fun a hk _=>by
  obtain⟨⟨es,clock,ses,h1,h2,h3,h4,h5,h6,h7⟩,h8,h9,h10⟩:=a
  exact⟨⟨es,clock,ses,by rw[mapAt_get (hk r (by simp[h9]))];exact h1,h2,h3,h4,h5,by rw[hk it (by simp[h9])];exact h6,h7⟩,h8,h9,h10⟩,
 fun a x hx=>by
  obtain⟨⟨es,clock,ses,h1,h2,h3,h4,h5,h6,h7⟩,h8,h9,h10⟩:=a
  subst h9;subst h10;simp at hx
  rcases hx with rfl |rfl
  ·exact lt_of_some h6
  ·exact mapAt_lt h1,
 fun a x hx=>by rw[a.2.2.2];simp⟩
section
variable {w:World} {L C:List HP} {u:HP→List HP} {r it i stamp:Nat} {k:IntKind} {ps S:List (Nat×Value)} {v:Value}
theorem MENo [f:Foc L (.b r) (mpi r k ps) u] {z:Value} {K:Value→World→Prop} (H:Own w.hp L) (hk:∀x stamp w',Own w'.hp (u (mpm r k ps i stamp))→K (.tuple #[x,.int .i64 (stamp:Nat)]) w'):MEN (.int k) z (.map (some r)) (.int k i) w K:=
 (f.get H).mp.men fun x stamp w' h hm _=>hk x stamp w' (f.put ((f.get H).mod hm (fun F G a x hx=>by rw[a.2.1];exact hx) (F':=[r]) (G':=[]) (fun F G a=>⟨h,rfl,rfl⟩) (fun F G a x hx=>.inl (by rw[a.2.1];exact hx)) (by simp)))
theorem ESTo [f:Foc L (.b r) (mpm r k ps i stamp) u] {k':IntKind} {K:World→Prop} (H:Own w.hp L) (hk:∀w',Own w'.hp (u (mpi r k (setP ps i v)))→K w'):EST (.map (some r)) (.int k' (stamp:Nat)) v w K:=by
 have h0:MapMid w r k ps i stamp:=by
  obtain⟨F,G,F1,F2,G1,G2,e1,e2,a,o,d⟩:=f.get H
  exact a.1
 exact h0.est fun w' h hm _=>hk w' (f.put ((f.get H).mod hm (fun F G a x hx=>by rw[a.2.1];exact hx) (F':=[r]) (G':=[]) (fun F G a=>⟨h,rfl,rfl⟩) (fun F G a x hx=>.inl (by rw[a.2.1];exact hx)) (by simp)))
theorem RNGo {K:Value→World→Prop} (H:Own w.hp (mpi r k ps::C)) (hk:∀it w',Own w'.hp (mit it r k ps []::C)→K (ptrV it) w'):RNG (.map (some r)) w K:=by
 obtain⟨F,G,a,hu⟩:=H.upd
 obtain⟨⟨es,clock,h1,h2,h3,h4,h5⟩,h6,h7⟩:=a
 have hh:=mapAt_heap (w:=w) h1
 simp only[RNG,hh]
 refine hk _ _ (hu _ (mit w.heap.size r k ps []) [w.heap.size,r] [] (fun b hb _=>(Ext.alloc (w:=w) _).same b hb (by simp)) (Ext.alloc (w:=w) _).he ⟨⟨es,clock,[],?_,h2,h3,h4,h5,?_,by simp,by simp,by simp⟩,?_,rfl,rfl⟩ ?_ (by simp))
 ·exact(Ext.alloc (w:=w) _).mapAt (b:=r) h1 (by simp)
 ·show(w.alloc _).heap[w.heap.size]?=_
  simp[heap_alloc]
 ·have :=mapAt_lt h1
  have hr:r<w.heap.size:=this
  omega
 ·intro b hb
  simp at hb
  rcases hb with rfl |rfl
  ·exact .inr (Nat.le_refl _)
  ·exact .inl (by simp[h6])
theorem mapAt_put_ne {o:Obj} {b:Nat} (h:r≠b):mapAt (w.putObj' b o) r=mapAt w r:=by
 have :(w.putObj' b o).heap[r]?=w.heap[r]?:=by simp[World.putObj',Array.getElem?_setIfInBounds,Ne.symm h]
 simp only[mapAt,this]
theorem cands {es:Array MapEntry} {clock:Nat} {seen:Array Nat} {c:Option MapEntry} (hc:c∈(nextCands es clock seen).toList) (hb:∀e∈es.toList,e.born<clock):(c=none∧∀e∈es.toList,e.born∈seen.toList)∨∃e∈es.toList,e.born∉seen.toList∧c=some e:=by
 simp only[nextCands,Array.mem_toList_iff,Array.mem_append,Array.mem_map,Array.mem_filter] at hc
 rcases hc with hc |⟨e,he,rfl⟩
 ·left
  split at hc
  ·rename_i hemp
   refine⟨by simpa using hc,fun e he=>?_⟩
   have h1:∀x,x∉(es.filter fun e=> !seen.contains e.born).filter (·.born<clock):=by
    intro x hx
    rw[Array.isEmpty_iff] at hemp
    rw[hemp] at hx;simp at hx
   rcases Decidable.em (e.born∈seen.toList) with h |h
   ·exact h
   ·exfalso
    refine h1 e ?_
    rw[Array.mem_filter,Array.mem_filter]
    refine⟨⟨Array.mem_toList_iff.1 he,?_⟩,by simpa using hb e he⟩
    simp only[Bool.not_eq_true',Array.contains_eq_mem,decide_eq_false_iff_not]
    exact fun hm=>h (Array.mem_toList_iff.2 hm)
  ·simp at hc
 ·right
  refine⟨e,?_,?_,rfl⟩
  ·rcases he with ⟨⟨h,_⟩,_⟩ |⟨⟨h,_⟩,_⟩<;>exact Array.mem_toList_iff.2 h
  ·have h:(!seen.contains e.born)=true:=by rcases he with ⟨⟨_,h⟩,_⟩ |⟨⟨_,h⟩,_⟩<;>exact h
   simp only[Bool.not_eq_true',Array.contains_eq_mem,decide_eq_false_iff_not] at h
   exact fun hm=>h (Array.mem_toList_iff.1 hm)
theorem perm_of {α:Type}:∀ {l m:List α},l.Nodup→m.Nodup→(∀x∈l,x∈m)→m.length≤l.length→l.Perm m
 |[],m,_,_,_,h=>by
  have :m=[]:=List.length_eq_zero_iff.1 (by simpa using h)
  rw[this]
 |x::l,m,h1,h2,h3,h4=>by
  have hx:=h3 x (by simp)
  obtain⟨m1,m2,rfl⟩:=List.append_of_mem hx
  have h1':=List.nodup_cons.1 h1
  have h2':(m1++m2).Nodup∧x∉m1++m2:=by
   have :=(List.perm_middle (a:=x) (l₁:=m1) (l₂:=m2)).nodup h2
   exact⟨(List.nodup_cons.1 this).2,(List.nodup_cons.1 this).1⟩
  have ih:=perm_of (l:=l) (m:=m1++m2) h1'.2 h2'.1 (fun y hy=>by
   have hy':=h3 y (List.mem_cons_of_mem _ hy)
   simp only[List.mem_append,List.mem_cons] at hy' ⊢
   rcases hy' with h |rfl |h
   ·exact .inl h
   ·exact absurd hy h1'.1
   ·exact .inr h) (by simp at h4 ⊢;omega)
  exact(ih.cons x).trans List.perm_middle.symm
theorem nodup_sub_le {α:Type}:∀ {l m:List α},l.Nodup→(∀x∈l,x∈m)→l.length≤m.length
 |[],m,_,_=>by simp
 |x::l,m,h1,h3=>by
  have h1':=List.nodup_cons.1 h1
  obtain⟨m1,m2,rfl⟩:=List.append_of_mem (h3 x (by simp))
  have ih:=nodup_sub_le (l:=l) (m:=m1++m2) h1'.2 (fun y hy=>by
   have hy':=h3 y (List.mem_cons_of_mem _ hy)
   simp only[List.mem_append,List.mem_cons] at hy' ⊢
   rcases hy' with h |rfl |h
   ·exact .inl h
   ·exact absurd hy h1'.1
   ·exact .inr h)
  simp at ih ⊢;omega
theorem NXTo {K:Value→World→Prop} (H:Own w.hp (mit it r k ps S::C)) (h0:∀w',Own w'.hp (mit it r k ps S::C)→S.Perm ps→K (.tuple #[.bool false]) w')
  (h1:∀w' p,Own w'.hp (mit it r k ps (S++[p])::C)→p∈ps→S.length<ps.length→K (.tuple #[.bool true,keyI k p.1,p.2]) w'):NXT (ptrV it) w K:=by
 obtain⟨F,G,a,hu⟩:=H.upd
 obtain⟨⟨es,clock,ses,a1,a2,a3,a4,a5,a6,a7,a8,a9⟩,b1,b2,b3⟩:=a
 replace a6:w.heap[it]?=_:=a6
 have hh:=mapAt_heap (w:=w) a1
 have hlp:es.length=ps.length:=by simpa using congrArg List.length a2
 have hls:ses.length=S.length:=by simpa using congrArg List.length a9
 refine⟨rfl,?_⟩
 simp only[a6,hh]
 have hall:∀e∈es,¬(clock≤e.born):=fun e he=>by have :=a4 e he;omega
 refine⟨?_,?_⟩
 ·cases hes:es with
  |nil=>simp
  |cons e es'=>
   have :=hall e (by rw[hes];simp)
   simp[this]
 ·intro w' hw c hc
  rcases cands hc (by simpa using a4) with ⟨rfl,hseen⟩ |⟨e,he,hne,rfl⟩
  ·have HH:Own w'.hp (mit it r k ps S::C):=by rcases hw with rfl |rfl<;>exact H
   refine h0 w' HH ?_
   have hp:ses.Perm es:=by
    refine perm_of (List.Pairwise.of_map (S:=fun a b=>a≠b) (·.born) (fun a b h e=>h (by rw[e])) a8) (List.Pairwise.of_map (S:=fun a b=>a≠b) (·.born) (fun a b h e=>h (by rw[e])) a5) a7 ?_
    have :=nodup_sub_le a5 (m:=ses.map (·.born)) (fun x hx=>by
     obtain⟨e,he,rfl⟩:=List.mem_map.1 hx
     simpa using hseen e (by simpa using he))
    simpa using this
   have h3:=hp.map fun e=>(e.key,e.val)
   rw[a9,a2] at h3
   have inv:∀l:List (Nat×Value),(l.map fun p=>(keyI k p.1,p.2)).map (fun q=>((match q.1 with |.int _ n=>n.toNat |_=>0),q.2))=l:=by
    intro l
    rw[List.map_map]
    have :∀p∈l,((fun q:Value×Value=>((match q.1 with |.int _ n=>n.toNat |_=>0),q.2)) ∘ fun p:Nat×Value=>(keyI k p.1,p.2)) p=p:=fun p _=>by simp[keyI]
    rw[List.map_congr_left this,List.map_id']
   have h4:=h3.map fun q=>((match q.1 with |.int _ n=>n.toNat |_=>0),q.2)
   rwa[inv,inv] at h4
  ·have he':e∈es:=by simpa using he
   have hne':e.born∉ses.map (·.born):=by simpa using hne
   have hin:=List.mem_map_of_mem (f:=fun e=>(e.key,e.val)) he'
   rw[a2] at hin
   obtain⟨p,hp,hpe⟩:=List.mem_map.1 hin
   simp only[Prod.mk.injEq] at hpe
   simp only
   rw[←hpe.1, ←hpe.2]
   have hw':w'.heap=w.heap:=by rcases hw with rfl |rfl<;>rfl
   have hit:it<w.heap.size:=lt_of_some a6
   refine h1 _ p (hu _ (mit it r k ps (S++[p])) [it,r] [] ?_ (by rcases hw with rfl |rfl<;>rfl) ⟨⟨es,clock,ses++[e],?_,a2,a3,a4,a5,?_,?_,?_,?_⟩,b1,rfl,rfl⟩ (fun b hb=>.inl (by rw[b2];exact hb)) (by simp)) hp ?_
   ·intro b hb hF
    rw[b2] at hF
    simp at hF
    show(w'.putObj' it _).heap[b]?=w.heap[b]?
    simp[World.putObj',hw',Array.getElem?_setIfInBounds,Ne.symm hF.1]
   ·show mapAt (w'.putObj' it _) r=_
    rw[mapAt_put_ne (Ne.symm b1)]
    have :mapAt w' r=mapAt w r:=by simp only[mapAt,hw']
    rw[this];exact a1
   ·have :it<w'.heap.size:=by rw[hw'];exact hit
    show(w'.putObj' it _).heap[it]?=_
    simp[World.putObj',this]
   ·intro x hx
    rcases List.mem_append.1 hx with hx |hx
    ·exact a7 x hx
    ·simp at hx;subst hx;exact he'
   ·rw[List.map_append,List.nodup_append]
    refine⟨a8,by simp,?_⟩
    intro a ha b hb hab
    simp at hb
    subst hab;subst hb
    exact hne' ha
   ·simp[a9,hpe.1,hpe.2]
   ·have :=nodup_sub_le (l:=e.born::ses.map (·.born)) (m:=es.map (·.born)) (List.nodup_cons.2 ⟨hne',a8⟩) (fun x hx=>by
     rcases List.mem_cons.1 hx with rfl |hx
     ·exact List.mem_map_of_mem he'
     ·obtain⟨e2,he2,rfl⟩:=List.mem_map.1 hx
      exact List.mem_map_of_mem (a7 e2 he2))
    simp at this;omega
theorem ENTo {K:Value→Prop} {p:Nat×Value} (H:Own w.hp (mit it r k ps (S++[p])::C)) (hk:K (.tuple #[keyI k p.1,p.2])):ENT (ptrV it) w K:=by
 obtain⟨F,G,a,hu⟩:=H.upd
 obtain⟨⟨es,clock,ses,a1,a2,a3,a4,a5,a6,a7,a8,a9⟩,b1,b2,b3⟩:=a
 replace a6:w.heap[it]?=_:=a6
 have hh:=mapAt_heap (w:=w) a1
 rcases List.eq_nil_or_concat ses with rfl |⟨ses',e,rfl⟩
 ·have :=congrArg List.length a9
  simp at this
 ·have he:e∈es:=a7 e (by simp)
  have h9:=a9
  simp only[List.concat_eq_append,List.map_append,List.map_cons,List.map_nil] at h9
  have h10:=(List.append_inj' h9 rfl).2
  simp only[List.cons.injEq,Prod.mk.injEq,and_true] at h10
  refine⟨rfl,?_⟩
  simp only[a6,hh]
  have hback:((ses'.concat e).map (·.born)).toArray.back?=some e.born:=by simp
  rw[hback]
  refine⟨rfl,?_⟩
  have hfind:es.toArray.find? (·.born==e.born)=some e:=by
   rw[List.find?_toArray]
   have :∀l:List MapEntry,(l.map (·.born)).Nodup→e∈l→l.find? (·.born==e.born)=some e:=by
    intro l
    induction l with
    |nil=>intro _ h;simp at h
    |cons x l ih=>
     intro hd hm
     simp only[List.map_cons,List.nodup_cons] at hd
     rw[List.find?_cons]
     rcases List.mem_cons.1 hm with rfl |hm
     ·simp
     ·have :x.born≠e.born:=fun h=>hd.1 (h ▸ List.mem_map_of_mem hm)
      simp only[beq_eq_false_iff_ne.2 this]
      exact ih hd.2 hm
   exact this es a5 he
  rw[hfind]
  rw[←h10.1, ←h10.2] at hk
  exact hk
theorem mit_ps (H:Own w.hp (mit it r k ps S::C)):Own w.hp (mpi r k ps::C):=by
 obtain⟨F,G,a,hu⟩:=H.upd
 obtain⟨⟨es,clock,ses,a1,a2,a3,a4,a5,a6,a7,a8,a9⟩,b1,b2,b3⟩:=a
 exact hu _ (mpi r k ps) [r] [] (fun _ _ _=>rfl) rfl ⟨⟨es,clock,a1,a2,a3,a4,a5⟩,rfl,rfl⟩ (fun b hb=>.inl (by rw[b2];simp at hb;simp[hb])) (by simp)
end
end Go.Cub
namespace Go.Cub
open Go Go.Proofs Go.IntWalk
abbrev Tm:=Nat→Option (Nat×Nat)
def tmT (tm:Tm):Tm:=fun s=>match tm s with
 |some (d,n)=>if d=18446744073709551615 then none else some (d,n)
 |none=>none
theorem tmT_some {tm:Tm} {s d n:Nat}:tmT tm s=some (d,n)↔tm s=some (d,n)∧d≠18446744073709551615:=by
 unfold tmT
 cases h:tm s with
 |none=>simp
 |some q=>
  obtain⟨d',n'⟩:=q
  simp only
  split
  ·rename_i e
   simp only[Option.some.injEq,Prod.mk.injEq,false_iff,not_and,reduceCtorEq]
   rintro⟨rfl,rfl⟩;simp[e]
  ·rename_i e
   constructor
   ·intro h
    simp only[Option.some.injEq,Prod.mk.injEq] at h ⊢
    exact⟨h,h.1 ▸ e⟩
   ·exact fun h=>h.1
structure DuInv (now:Nat) (ps bs:List (Nat×Value)) (tm:Tm):Prop where
 hps:∀s,lookP ps s=(tm s).map fun x=>tmV s x.1 x.2
 hb1:∀s d n,tm s=some (d,n)→lookP bs n=some (.int .u32 s)
 hb2:∀n v,lookP bs n=some v→∃s d,tm s=some (d,n)
 rng:∀s d n,tm s=some (d,n)→s<4194304∧d<18446744073709551616∧0<n∧n<18446744073709551616∧(d≠18446744073709551615→now<d)
 now:now<18446744073709551616
section
variable {now s d n:Nat} {ps bs:List (Nat×Value)} {tm:Tm}
theorem DuInv.inj (I:DuInv now ps bs tm) {s d s' d' n:Nat} (h:tm s=some (d,n)) (h':tm s'=some (d',n)):s=s':=by
 have h1:=I.hb1 _ _ _ h
 have h2:=I.hb1 _ _ _ h'
 rw[h1] at h2
 simp at h2;omega
theorem DuInv.put (I:DuInv now ps bs tm) (hs:s<4194304) (hd:d<18446744073709551616∧(d≠18446744073709551615→now<d)) (hn:0<n∧n<18446744073709551616) (hf:tm s=none) (hb:∀s' d',tm s'≠some (d',n)):DuInv now (setP ps s (tmV s d n)) (setP bs n (.int .u32 s)) (upd tm s (some (d,n))):=by
 refine⟨?_,?_,?_,?_,I.now⟩
 ·intro t
  rw[lookP_setP,I.hps]
  by_cases e:t=s
  ·subst e;simp[upd]
  ·simp[upd,e]
 ·intro s1 d1 n1 h
  rw[lookP_setP]
  simp only[upd] at h
  by_cases e:s1=s
  ·rw[if_pos e] at h
   simp only[Option.some.injEq,Prod.mk.injEq] at h
   rw[if_pos h.2.symm,e]
  ·rw[if_neg e] at h
   have :n1≠n:=fun e2=>hb _ _ (e2 ▸ h)
   rw[if_neg this];exact I.hb1 _ _ _ h
 ·intro m v h
  rw[lookP_setP] at h
  by_cases e:m=n
  ·exact⟨s,d,by rw[e,upd_same]⟩
  ·rw[if_neg e] at h
   obtain⟨s',d',h'⟩:=I.hb2 _ _ h
   refine⟨s',d',?_⟩
   have :s'≠s:=by rintro rfl;rw[hf] at h';cases h'
   rw[upd_ne _ _ this];exact h'
 ·intro s1 d1 n1 h
  simp only[upd] at h
  by_cases e:s1=s
  ·rw[if_pos e] at h
   simp only[Option.some.injEq,Prod.mk.injEq] at h
   rw[e, ←h.1, ←h.2]
   exact⟨hs,hd.1,hn.1,hn.2,hd.2⟩
  ·rw[if_neg e] at h;exact I.rng _ _ _ h
theorem DuInv.drop (I:DuInv now ps bs tm) (h1:(ps.map (·.1)).Nodup) (h2:(bs.map (·.1)).Nodup) (hm:tm s=some (d,n)):DuInv now (delP ps s) (delP bs n) (upd tm s none):=by
 refine⟨?_,?_,?_,?_,I.now⟩
 ·intro t
  rw[lookP_delP _ _ _ h1,I.hps]
  by_cases e:t=s<;>simp[upd,e]
 ·intro s1 d1 n1 h
  rw[lookP_delP _ _ _ h2]
  simp only[upd] at h
  by_cases e:s1=s
  ·rw[if_pos e] at h;cases h
  ·rw[if_neg e] at h
   have :n1≠n:=fun e2=>e (I.inj (e2 ▸ h) hm)
   rw[if_neg this];exact I.hb1 _ _ _ h
 ·intro m v h
  rw[lookP_delP _ _ _ h2] at h
  by_cases e:m=n
  ·rw[if_pos e] at h;cases h
  ·rw[if_neg e] at h
   obtain⟨s',d',h'⟩:=I.hb2 _ _ h
   refine⟨s',d',?_⟩
   have :s'≠s:=by
    rintro rfl
    rw[hm] at h'
    simp only[Option.some.injEq,Prod.mk.injEq] at h'
    exact e h'.2.symm
   rw[upd_ne _ _ this];exact h'
 ·intro s1 d1 n1 h
  simp only[upd] at h
  split at h
  ·cases h
  ·exact I.rng _ _ _ h
theorem tmT_upd_none:tmT (upd tm s none)=upd (tmT tm) s none:=by
 funext t
 simp only[tmT,upd]
 by_cases e:t=s<;>simp[e]
theorem tmT_upd_some (h:d≠18446744073709551615):tmT (upd tm s (some (d,n)))=upd (tmT tm) s (some (d,n)):=by
 funext t
 simp only[tmT,upd]
 by_cases e:t=s<;>simp[e,h]
theorem tmT_upd_never (hf:tm s=none):tmT (upd tm s (some (18446744073709551615,n)))=tmT tm:=by
 funext t
 simp only[tmT,upd]
 by_cases e:t=s<;>simp[e,hf]
theorem upd_none {tm:Tm} (h:tm s=none):upd tm s none=tm:=by
 funext t
 simp only[upd]
 split
 ·rename_i e;rw[e,h]
 ·rfl
end
def dues (p now:Nat) (tm:Tm):HP:=.ex fun q=>.ex fun rb=>.ex fun bs=>.ex fun rs=>.ex fun ps=>.all [.pu (DuInv now ps bs tm),pt p [ptrV q,.map (some rb),.map (some rs)],csc q now (tmT tm),mpi rb .u64 bs,mpi rs .u32 ps]
instance {p now:Nat} {tm:Tm}:Keyed (dues p now tm) (.b p):=⟨⟩
abbrev duL (p q now:Nat) (tc:Tm) (rb:Nat) (bs:List (Nat×Value)) (rs:Nat) (ps:List (Nat×Value)) (C:List HP):List HP:=
 pt p [ptrV q,.map (some rb),.map (some rs)]::csc q now tc::mpi rb .u64 bs::mpi rs .u32 ps::C
section
variable {R:Value→World→Prop} {w:World} {C:List HP} {u:HP→List HP} {p q now to rb rs s d n:Nat} {ps bs:List (Nat×Value)} {tm tc:Tm}
attribute [local irreducible] PV CND GRD L1 LN S1 SN NEW NEWS MKS MKM LK MU DEL LENM APP CPY BTS Call CallV
theorem dues_iff {h:Hp}:Own h (dues p now tm::C)↔∃q rb bs rs ps,DuInv now ps bs tm∧Own h (duL p q now (tmT tm) rb bs rs ps C):=by
 simp only[dues,own_ex,all5,own_pu]
theorem c_due_check {cs:List Value} [f:Foc C (.b p) (pt p cs) u] (H:Own w.hp C) (hc:cs[0]?=some (ptrV q)) (hs:s<4194304) (h:R (.int .i64 0) w):Call Pg 89 #[ptrV p,.int .u32 s] w R:=by
 refine c_89 ?_
 simp only[F_89]
 refine Ob ?_
 refine L1o H hc ?_
 refine Ob ?_
 exact h
theorem k_due_Now [f:Foc C (.b p) (dues p now tm) u] (H:Own w.hp C) (h:R (.int .u64 now) w):Call Pg 42 #[ptrV p] w R:=by
 obtain⟨q,rb,bs,rs,ps,I,H⟩:=dues_iff.1 (f.get H)
 refine c_42 ?_
 simp only[F_42]
 refine c_due_check (q:=q) (s:=0) H rfl (by decide) ?_
 (repeat first |refine L1o H rfl ?_ |refine Oc ?_)
 refine k_cs_Now H ?_
 exact h
theorem c_due_drop (H:Own w.hp (duL p q now tc rb bs rs ps C)) (hs:s<4194304) (h:∀w',Own w'.hp (duL p q now (upd tc s none) rb (delP bs n) rs (delP ps s) C)→R (.tuple #[]) w'):Call Pg 159 #[ptrV p,tmV s d n] w R:=by
 refine c_159 ?_
 simp only[F_159,tmV]
 refine NEWo H fun t w H=>?_
 (repeat first |refine L1o H rfl ?_ |refine Oc ?_)
 have tail:∀w,Own w.hp (pt t [.int .u32 s,.int .u64 d,.int .u64 n]::duL p q now (upd tc s none) rb bs rs ps C)→(L1 (.pointer (some ⟨p,1,none⟩)) w fun t14=>
 PV (fldV 2 (ptrV t)) fun t15=>
 L1 t15 w fun t16=>
 DEL (.int .u64) t14 t16 (World.drew w) fun w_3=>
 PV (fldV 2 (ptrV p)) fun t19=>
 L1 t19 w_3 fun t20=>
 PV (fldV 0 (ptrV t)) fun t21=>
 L1 t21 w_3 fun t22=>
 DEL (.int .u32) t20 t22 (World.drew w_3) fun w_4=>
 R (.tuple #[]) w_4):=by
  intro w H
  (repeat first |refine L1o H rfl ?_ |refine Oc ?_)
  refine DELo (w:=w.drew) H fun w H=>?_
  (repeat first |refine L1o H rfl ?_ |refine Oc ?_)
  refine DELo (w:=w.drew) H fun w H=>?_
  exact h w H.drop
 cases htc:tc s with
 |none=>
  refine k_cs_Cancel_none (w:=w.drew) H hs htc fun v w H=>?_
  have :=tail w (by rw[upd_none htc];exact H)
  revert this
  refine Ob ?_
  exact id
 |some x=>
  obtain⟨d',n'⟩:=x
  refine k_cs_Cancel (w:=w.drew) H htc fun w H=>?_
  have :=tail w H
  revert this
  refine Ob ?_
  exact id
theorem c_due_put (H:Own w.hp (duL p q now (tmT tm) rb bs rs ps C)) (I:DuInv now ps bs tm) (hs:s<4194304) (hd:d<18446744073709551616∧(d≠18446744073709551615→now<d)) (hn:0<n∧n<18446744073709551616) (hf:tm s=none) (hb:∀s' d',tm s'≠some (d',n))
  (h:∀w' bs' ps',Own w'.hp (duL p q now (tmT (upd tm s (some (d,n)))) rb bs' rs ps' C)→DuInv now ps' bs' (upd tm s (some (d,n)))→R (.tuple #[]) w'):Call Pg 193 #[ptrV p,tmV s d n] w R:=by
 refine c_193 ?_
 simp only[F_193,tmV]
 refine NEWo H fun t w H=>?_
 have tail:∀w,Own w.hp (pt t [.int .u32 s,.int .u64 d,.int .u64 n]::duL p q now (tmT (upd tm s (some (d,n)))) rb bs rs ps C)→B_193_3 R (ptrV p) (ptrV t) w:=by
  intro w H
  refine B_193_3.intro ?_
  simp only[P_193_3]
  (repeat first |refine L1o H rfl ?_ |refine Oc ?_)
  refine LNo H (by simp) ?_
  refine MENo (w:=w.drew) H fun x stamp w H=>?_
  refine⟨LNo H (by simp) rfl,L1o H rfl rfl,L1o H rfl rfl,?_⟩
  refine Ob ?_
  refine ESTo H fun w H=>?_
  refine⟨LNo H (by simp) rfl,L1o H rfl rfl,?_⟩
  refine MENo H fun x stamp w H=>?_
  refine⟨LNo H (by simp) rfl,?_⟩
  refine Ob ?_
  refine ESTo H fun w H=>?_
  exact h w _ _ H.drop (I.put hs hd hn hf hb)
 by_cases hne:d=18446744073709551615
 ·subst hne
  (repeat first |refine L1o H rfl ?_ |refine Oc ?_)
  refine tail w ?_
  rw[tmT_upd_never hf];exact H
 ·(repeat first |refine L1o H rfl ?_ |refine Oc ?_)
  refine LNo H (by simp) ?_
  refine k_cs_Schedule (w:=w.drew) (s:=s) (d:=d) (n:=n) H hs ⟨hd.2 hne,by omega⟩ hn ?_ ?_ fun w H=>?_
  ·simp[tmT,hf]
  ·intro s' d' e
   exact hb s' d' (tmT_some.1 e).1
  ·refine tail w ?_
   rw[tmT_upd_some hne];exact H
end
end Go.Cub
namespace Go.Cub
open Go Go.Proofs Go.IntWalk
section
variable {R:Value→World→Prop} {w:World} {C:List HP} {u:HP→List HP} {p q now to rb rs s d n:Nat} {ps bs:List (Nat×Value)} {tm tc:Tm}
attribute [local irreducible] PV CND GRD L1 LN S1 SN NEW NEWS MKS MKM LK MU DEL LENM APP CPY BTS Call CallV
theorem k_due_Set [f:Foc C (.b p) (dues p now tm) u] (H:Own w.hp C) (hs:s<4194304) (hd:d<18446744073709551616∧(d≠18446744073709551615→now<d)) (hn:0<n∧n<18446744073709551616) (hf:(tm s=none∧∀s' d',tm s'≠some (d',n))∨∃d0,tm s=some (d0,n))
  (h:∀w',Own w'.hp (u (dues p now (upd tm s (some (d,n)))))→R (.int .i64 0) w'):Call Pg 135 #[ptrV p,.int .u32 s,.int .u64 d,.int .u64 n] w R:=by
 obtain⟨q,rb,bs,rs,ps,I,H⟩:=dues_iff.1 (f.get H)
 refine c_135 ?_
 simp only[F_135]
 refine c_due_check (q:=q) H rfl hs ?_
 have hnow:=I.now
 have fin:∀(w:World) (tm1:Tm) (bs1 ps1:List (Nat×Value)),Own w.hp (duL p q now (tmT tm1) rb bs1 rs ps1 f.rest)→DuInv now ps1 bs1 tm1→tm1 s=none→(∀s' d',tm1 s'≠some (d',n))→upd tm1 s (some (d,n))=upd tm s (some (d,n))→B_135_14 R (ptrV p) (.int .u32 s) (.int .u64 d) (.int .u64 n) w:=by
  intro w tm1 bs1 ps1 H I1 h1 h2 h3
  refine B_135_14.intro ?_
  simp only[P_135_14]
  refine PV_of (v:=tmV s d n) rfl ?_
  refine c_due_put H I1 hs hd hn h1 h2 fun w bs2 ps2 H I2=>?_
  rw[h3] at H I2
  exact h w (f.put (dues_iff.2 ⟨q,rb,bs2,rs,ps2,I2,H⟩))
 have hgo:(decide ((d:Int)=18446744073709551615))=true∨(decide ((d:Int)=18446744073709551615))=false∧now<d:=by
  by_cases e:d=18446744073709551615
  ·left;simp;omega
  ·right;exact⟨by simp;omega,hd.2 e⟩
 rcases hf with ⟨hf,hb⟩ |⟨d0,hf⟩
 ·have hp1:lookP ps s=none:=by rw[I.hps,hf];rfl
  have hb1:lookP bs n=none:=by
   cases hl:lookP bs n with
   |none=>rfl
   |some v=>
    obtain⟨s',d',e⟩:=I.hb2 _ _ hl
    exact absurd e (hb s' d')
  (repeat first |refine L1o H rfl ?_ |refine Oc ?_)
  refine LKo H ?_
  rw[hp1]
  simp only[Option.getD_none,Option.isSome_none]
  refine Ob ?_
  refine NSo H rfl rfl (by simp[Value.oneCell']) fun t10 w H=>?_
  (repeat first |refine L1o H rfl ?_ |refine Oc ?_)
  refine LKo H ?_
  rw[hb1]
  simp only[Option.getD_none,Option.isSome_none]
  by_cases e:d=18446744073709551615
  ·(repeat first |refine L1o H rfl ?_ |refine Oc ?_)
   exact fin w tm bs ps H.drop I hf hb rfl
  ·have :=hd.2 e
   (repeat first |refine L1o H rfl ?_ |refine Oc ?_)
   refine k_cs_Now H ?_
   (repeat first |refine L1o H rfl ?_ |refine Oc ?_)
   exact fin w tm bs ps H.drop I hf hb rfl
 ·have hp1:lookP ps s=some (tmV s d0 n):=by rw[I.hps,hf];rfl
  have hb1:lookP bs n=some (.int .u32 s):=I.hb1 _ _ _ hf
  have hn1:=mp_nodup (r:=rs) (k:=.u32) (ps:=ps) H
  have hn2:=mp_nodup (r:=rb) (k:=.u64) (ps:=bs) H
  have go2:∀(t10:Nat) (w:World),Own w.hp (pt t10 [.int .u32 s,.int .u64 d0,.int .u64 n]::duL p q now (tmT tm) rb bs rs ps f.rest)→LN 3 (ptrV t10) w fun t71=>Call Pg 159 #[ptrV p,t71] w fun t72 w_22=>B_135_14 R (ptrV p) (.int .u32 s) (.int .u64 d) (.int .u64 n) w_22:=by
   intro t10 w H
   refine LNo H (by simp) ?_
   refine c_due_drop (s:=s) (d:=d0) (n:=n) H.bk4 hs fun w H=>?_
   refine fin w (upd tm s none) (delP bs n) (delP ps s) (by rw[tmT_upd_none];exact H.mv3.mv3.mv3.mv3.dp4) (I.drop hn1 hn2 hf) (upd_same _ _ _) ?_ (upd_upd _ _ _ _)
   intro s' d' e
   simp only[upd] at e
   split at e
   ·cases e
   ·rename_i e2;exact e2 (I.inj e hf)
  (repeat first |refine L1o H rfl ?_ |refine Oc ?_)
  refine LKo H ?_
  rw[hp1]
  simp only[Option.getD_some,Option.isSome_some]
  refine Ob ?_
  refine NSo H rfl rfl (by simp[tmV,Value.oneCell']) fun t10 w H=>?_
  (repeat first |refine L1o H rfl ?_ |refine Oc ?_)
  refine LKo H ?_
  rw[hb1]
  simp only[Option.getD_some,Option.isSome_some]
  by_cases e:d=18446744073709551615
  ·(repeat first |refine L1o H rfl ?_ |refine Oc ?_)
   exact go2 t10 w H
  ·have :=hd.2 e
   (repeat first |refine L1o H rfl ?_ |refine Oc ?_)
   refine k_cs_Now H ?_
   (repeat first |refine L1o H rfl ?_ |refine Oc ?_)
   exact go2 t10 w H
theorem k_due_Remove [f:Foc C (.b p) (dues p now tm) u] (H:Own w.hp C) (hm:tm s=some (d,n)) (h:∀w',Own w'.hp (u (dues p now (upd tm s none)))→R (.int .i64 0) w'):Call Pg 108 #[ptrV p,.int .u32 s] w R:=by
 obtain⟨q,rb,bs,rs,ps,I,H⟩:=dues_iff.1 (f.get H)
 obtain⟨hs,_⟩:=I.rng _ _ _ hm
 have hn1:=mp_nodup (r:=rs) (k:=.u32) (ps:=ps) H
 have hn2:=mp_nodup (r:=rb) (k:=.u64) (ps:=bs) H
 refine c_108 ?_
 simp only[F_108]
 refine c_due_check (q:=q) H rfl hs ?_
 (repeat first |refine L1o H rfl ?_ |refine Oc ?_)
 refine LKo H ?_
 rw[I.hps,hm]
 simp only[Option.map_some,Option.getD_some,Option.isSome_some]
 refine Ob ?_
 refine NSo H rfl rfl (by simp[tmV,Value.oneCell']) fun t w H=>?_
 refine Ob ?_
 refine LNo H (by simp[tmV]) ?_
 refine c_due_drop (s:=s) (d:=d) (n:=n) H.bk4 hs fun w H=>?_
 refine h w (f.put (dues_iff.2 ⟨q,rb,delP bs n,rs,delP ps s,I.drop hn1 hn2 hm,?_⟩))
 rw[tmT_upd_none];exact H.mv3.mv3.mv3.mv3.dp4
theorem k_due_Get [f:Foc C (.b p) (dues p now tm) u] (H:Own w.hp C) (hm:tm s=some (d,n)) (h:∀w',Own w'.hp C→R (.tuple #[.int .u64 d,.int .u64 n,.int .i64 0]) w'):Call Pg 137 #[ptrV p,.int .u32 s] w R:=by
 have hC:=f.eq
 obtain⟨q,rb,bs,rs,ps,I,H⟩:=dues_iff.1 (f.get H)
 obtain⟨hs,_⟩:=I.rng _ _ _ hm
 refine c_137 ?_
 simp only[F_137]
 refine c_due_check (q:=q) H rfl hs ?_
 (repeat first |refine L1o H rfl ?_ |refine Oc ?_)
 refine LKo H ?_
 rw[I.hps,hm]
 simp only[Option.map_some,Option.getD_some,Option.isSome_some]
 refine Ob ?_
 refine NSo H rfl rfl (by simp[tmV,Value.oneCell']) fun t w H=>?_
 (repeat first |refine L1o H rfl ?_ |refine Oc ?_)
 refine h _ ?_
 have :=f.put (dues_iff.2 ⟨q,rb,bs,rs,ps,I,H.drop⟩)
 rw[←hC] at this
 exact this
theorem k_due_New (H:Own w.hp C) (hn:now<18446744073709551616) (h:∀p w',Own w'.hp (dues p now (fun _=>none)::C)→R (ptrV p) w'):Call Pg 78 #[.int .u64 now] w R:=by
 refine c_78 ?_
 simp only[F_78]
 refine k_cs_New H hn fun q w H=>?_
 refine MKMo .u64 H fun rb w H=>?_
 refine MKMo .u32 H fun rs w H=>?_
 refine PV_of (v:=.agg #[ptrV q,.map (some rb),.map (some rs)]) rfl ?_
 refine NEWo H fun p w H=>?_
 refine h p w (dues_iff.2 ⟨q,rb,[],rs,[],⟨fun _=>rfl,?_,?_,?_,hn⟩,H.mv1.mv2.mv3.mv3⟩)
 ·intro s d n e;cases e
 ·intro n v e;cases e
 ·intro s d n e;cases e
theorem c_cs_Advance_same {C:List HP} (H:Own w.hp (csc p now tc::C)) (h:R (.tuple #[.slice none 0 0,.int .i64 0]) w):Call Pg 157 #[ptrV p,.int .u64 now] w R:=by
 obtain⟨ws,lsf,r1,ps,r2,bs,I,H⟩:=csc_iff.1 H
 refine c_157 ?_
 simp only[F_157]
 refine c_cs_check (n:=0) H (by decide) ?_
 (repeat first |refine L1o H rfl ?_ |refine Oc ?_)
 exact h
theorem k_due_Expire [f:Foc C (.b p) (dues p now tm) u] (H:Own w.hp (glb::C)) (hto:to<18446744073709551616) (h:∀v w' D tm',(∀s,tm' s=match tm s with |some (d,n)=>if dueT d (max now to) then none else some (d,n) |none=>none)→D.Nodup→(∀s d n,(s,d,n)∈D↔tm s=some (d,n)∧dueT d (max now to)=true)→D.Pairwise Bef→D.length≤4194304→
  Own w'.hp (sle v tmE D::glb::u (dues p (max now to) tm'))→R v w'):Call Pg 97 #[ptrV p,.int .u64 to] w R:=by
 have hC:=f.eq
 rw[hC] at H
 have H:Own w.hp (glb::dues p now tm::f.rest):=H.perm ((f.perm (dues p now tm)).cons glb)
 obtain⟨q,rb,bs,rs,ps,I,H⟩:=dues_iff.1 H.mv1
 refine c_97 ?_
 simp only[F_97]
 refine c_due_check (q:=q) (s:=0) H rfl (by decide) ?_
 (repeat first |refine L1o H rfl ?_ |refine Oc ?_)
 refine k_cs_Now (w:=w.drew) H ?_
 refine⟨L1o H rfl rfl,?_⟩
 refine c_tick_Effective ?_
 refine⟨L1o H rfl rfl,?_⟩
 have hmx:max now to<18446744073709551616:=by have :=I.now;omega
 have loop:∀(v:Value) (D:List (Nat×Nat×Nat)),D.Nodup→(∀s d n,(s,d,n)∈D↔tm s=some (d,n)∧dueT d (max now to)=true)→D.Pairwise Bef→D.length≤4194304→∀(tc:Tm),(∀s,tc s=match tmT tm s with |some (d,n)=>if d≤max now to then none else some (d,n) |none=>none)→
   ∀(m i:Nat) (bs1 ps1:List (Nat×Value)) (tm1:Tm) (w:World),m+i=D.length→(∀s,tm1 s=match tm s with |some (d,n)=>if (s,d,n)∈D.take i then none else some (d,n) |none=>none)→DuInv now ps1 bs1 tm1→Own w.hp (sle v tmE D::duL p q (max now to) tc rb bs1 rs ps1 (glb::f.rest))→
    B_97_5 R (ptrV p) v v (.int .i64 D.length) (.int .i64 i) w:=by
  intro v D hD1 hD2 hD3 hD4 tc htc m
  induction m with
  |zero=>
   intro i bs1 ps1 tm1 w hm htm1 I1 H
   refine B_97_5.intro ?_
   simp only[P_97_5]
   refine Ob ?_
   rw[List.take_of_length_le (by omega)] at htm1
   have htm2:∀s,tm1 s=match tm s with |some (d,n)=>if dueT d (max now to) then none else some (d,n) |none=>none:=by
    intro s
    rw[htm1]
    cases ht:tm s with
    |none=>rfl
    |some x=>
     obtain⟨d,n⟩:=x
     simp only
     by_cases hdu:dueT d (max now to)=true
     ·rw[if_pos ((hD2 s d n).2 ⟨ht,hdu⟩),if_pos hdu]
     ·rw[if_neg (fun hh=>hdu ((hD2 s d n).1 hh).2),if_neg hdu]
   refine h v w D tm1 htm2 hD1 hD2 hD3 hD4 ?_
   have e:tc=tmT tm1:=by
    funext s
    rw[htc s]
    simp only[tmT]
    rw[htm2 s]
    cases ht:tm s with
    |none=>rfl
    |some x=>
     obtain⟨d,n⟩:=x
     simp only[dueT]
     by_cases e1:d=18446744073709551615
     ·simp[e1]
     ·by_cases e2:d≤max now to
      ·simp[e1,e2]
      ·simp[e1,e2]
   rw[e] at H
   have I2:DuInv (max now to) ps1 bs1 tm1:=⟨I1.hps,I1.hb1,I1.hb2,fun s d n hh=>by
    obtain⟨g1,g2,g3,g4,g5⟩:=I1.rng _ _ _ hh
    refine⟨g1,g2,g3,g4,fun hne=>?_⟩
    rw[htm2 s] at hh
    cases ht:tm s with
    |none=>rw[ht] at hh;cases hh
    |some x=>
     obtain⟨d',n'⟩:=x
     rw[ht] at hh
     simp only at hh
     split at hh
     ·cases hh
     ·rename_i hnd
      simp only[Option.some.injEq,Prod.mk.injEq] at hh
      obtain⟨rfl,rfl⟩:=hh
      simp only[dueT,decide_eq_true_eq,not_and,Nat.not_le] at hnd
      exact hnd hne,hmx⟩
   have H:=dues_iff.2 ⟨q,rb,bs1,rs,ps1,I2,H.bk4⟩
   exact f.put2 H.mv2.mv2
  |succ m ih=>
   intro i bs1 ps1 tm1 w hm htm1 I1 H
   refine B_97_5.intro ?_
   simp only[P_97_5]
   refine Ob ?_
   obtain⟨⟨s,d,n⟩,hx⟩:∃x,D[i]?=some x:=⟨_,List.getElem?_eq_getElem (by omega)⟩
   have hmem:(s,d,n)∈D:=List.mem_of_getElem? hx
   have htm:=((hD2 s d n).1 hmem).1
   have htk:D.take (i+1)=D.take i++[(s,d,n)]:=by rw[List.take_add_one,hx];rfl
   have hnt:(s,d,n)∉D.take i:=by
    intro hm'
    have e:D=D.take i++(s,d,n)::D.drop (i+1):=by
     have h1:=List.getElem?_eq_getElem (l:=D) (i:=i) (by omega)
     rw[hx] at h1
     simp only[Option.some.injEq] at h1
     rw[h1, ←List.drop_eq_getElem_cons (by omega),List.take_append_drop]
    rw[e] at hD1
    exact(List.nodup_append.1 hD1).2.2 _ hm' _ List.mem_cons_self rfl
   have htm1s:tm1 s=some (d,n):=by
    rw[htm1 s,htm]
    simp only
    rw[if_neg hnt]
   obtain⟨g1,_⟩:=I1.rng _ _ _ htm1s
   refine idxo (E:=tmE) (v:=v) H (by omega) ?_
   refine LNe (E:=tmE) (v:=v) H hx ?_
   refine NSo H rfl rfl (by simp[tmE,Value.oneCell']) fun t w H=>?_
   refine LNo H (by simp[tmE]) ?_
   have hn1:=mp_nodup (r:=rs) (k:=.u32) (ps:=ps1) H
   have hn2:=mp_nodup (r:=rb) (k:=.u64) (ps:=bs1) H
   refine c_due_drop (s:=s) (d:=d) (n:=n) (now:=max now to) H.mv1.mv1.mv5.mv5.mv5.mv5 g1 fun w H=>?_
   have htcs:tc s=none:=by
    rw[htc s]
    have hdu:=((hD2 s d n).1 hmem).2
    simp only[dueT,decide_eq_true_eq] at hdu
    rw[(tmT_some (tm:=tm) (s:=s) (d:=d) (n:=n)).2 ⟨htm,hdu.1⟩]
    simp only
    rw[if_pos hdu.2]
   rw[upd_none htcs] at H
   refine Ob ?_
   rw[show((i:Int)+1)=((i+1:Nat):Int) by omega]
   refine ih (i+1) (delP bs1 n) (delP ps1 s) (upd tm1 s none) w (by omega) ?_ (I1.drop hn1 hn2 htm1s) H.mv3.mv3.mv3.mv3.mv5.dp5
   intro a
   rw[htk]
   simp only[upd]
   by_cases e:a=s
   ·subst e
    rw[if_pos rfl,htm]
    simp
   ·rw[if_neg e,htm1 a]
    cases ht:tm a with
    |none=>rfl
    |some x=>
     obtain⟨d',n'⟩:=x
     simp only[List.mem_append,List.mem_singleton,Prod.mk.injEq,e,false_and,or_false]
 have fin:∀(v:Value) (D:List (Nat×Nat×Nat)) (tc:Tm) (w:World),D.Nodup→(∀s d n,(s,d,n)∈D↔tmT tm s=some (d,n)∧d≤max now to)→D.Pairwise Bef→D.length≤4194304→(∀s,tc s=match tmT tm s with |some (d,n)=>if d≤max now to then none else some (d,n) |none=>none)→
   Own w.hp (sle v tmE D::duL p q (max now to) tc rb bs rs ps (glb::f.rest))→(PV (extV 0 (.tuple #[v,.int .i64 0])) fun t25=>
 PV (extV 1 (.tuple #[v,.int .i64 0])) fun t26=>
 PV (lenS t25) fun t28=>
 B_97_5 R (ptrV p) t25 t25 t28 (.int .i64 0) w):=by
  intro v D tc w h1 h2 h3 h4 h5 H
  refine Ob ?_
  rw[leno (v:=v) (E:=tmE) (xs:=D) H]
  refine Os ?_
  refine loop v D h1 (fun s d n=>?_) h3 h4 tc h5 D.length 0 bs ps tm w (by omega) (fun s=>?_) I H
  ·rw[h2,tmT_some]
   simp only[dueT,decide_eq_true_eq,and_assoc]
  ·cases tm s with
   |none=>rfl
   |some x=>simp
 by_cases hlt:now<to
 ·have emx:max now to=to:=by omega
  rw[emx] at fin ⊢
  refine k_cs_Advance H.mv3.mv3.mv2.mv4.mv4 ⟨hlt,hto⟩ fun v w D tc h1 h2 h3 h4 h5 H=>?_
  exact fin v D tc w h2 h3 h4 h5 h1 H.mv2.mv5.mv5.mv4.mv5.mv5
 ·have emx:max now to=now:=by omega
  rw[emx] at fin ⊢
  refine c_cs_Advance_same (tc:=tmT tm) H.mv1 ?_
  have hlater:∀s d n,tmT tm s=some (d,n)→¬d≤now:=by
   intro s d n hh
   obtain⟨h1,h2⟩:=tmT_some.1 hh
   have :=(I.rng _ _ _ h1).2.2.2.2 h2
   omega
  refine fin (.slice none 0 0) [] (tmT tm) w.drew (by simp) (fun s d n=>?_) (by simp) (by simp) (fun s=>?_) (sl_nil tmE H)
  ·simp only[List.not_mem_nil,false_iff,not_and]
   exact fun hh=>hlater s d n hh
  ·cases hh:tmT tm s with
   |none=>rfl
   |some x=>
    obtain⟨d,n⟩:=x
    simp only
    rw[if_neg (hlater s d n hh)]
end
end Go.Cub
namespace Go.Cub
open Go Go.Proofs Go.IntWalk
section
variable {R:Value→World→Prop} {w:World} {C:List HP} {u:HP→List HP} {p q now to rb rs s d n:Nat} {ps bs:List (Nat×Value)} {tm tc:Tm}
attribute [local irreducible] PV CND GRD L1 LN S1 SN NEW NEWS MKS MKM LK MU DEL LENM APP CPY BTS Call CallV
theorem lookP_mem {ps:List (Nat×Value)} (hd:(ps.map (·.1)).Nodup) {x:Nat×Value} (h:x∈ps):lookP ps x.1=some x.2:=by
 induction ps with
 |nil=>simp at h
 |cons y ps ih=>
  simp only[List.map_cons,List.nodup_cons] at hd
  simp only[lookP]
  rcases List.mem_cons.1 h with rfl |h
  ·simp
  ·have :y.1≠x.1:=fun e=>hd.1 (e ▸ List.mem_map_of_mem h)
   rw[if_neg this];exact ih hd.2 h
theorem mem_lookP {ps:List (Nat×Value)} {v:Value} (h:lookP ps n=some v):(n,v)∈ps:=by
 induction ps with
 |nil=>simp[lookP] at h
 |cons y ps ih=>
  simp only[lookP] at h
  split at h
  ·rename_i e
   simp only[Option.some.injEq] at h
   rw[←e, ←h];simp
  ·exact List.mem_cons_of_mem _ (ih h)
def pairOf (x:Nat×Nat×Nat):Nat×Value:=(x.1,tmV x.1 x.2.1 x.2.2)
theorem pairOf_inj {x y:Nat×Nat×Nat} (h:pairOf x=pairOf y):x=y:=by
 obtain⟨a,b,c⟩:=x
 obtain⟨a',b',c'⟩:=y
 simp only[pairOf,tmV,Prod.mk.injEq,Value.agg.injEq,Array.mk.injEq,List.cons.injEq,Value.int.injEq,true_and,and_true] at h
 simp only[Prod.mk.injEq];omega
theorem k_due_All [f:Foc C (.b p) (dues p now tm) u] (H:Own w.hp C) (h:∀v w' D,D.Nodup→(∀s d n,(s,d,n)∈D↔tm s=some (d,n))→D.length≤4194304→Own w'.hp (sle v tmE D::C)→R v w'):Call Pg 192 #[ptrV p] w R:=by
 have hC:=f.eq
 obtain⟨q,rb,bs,rs,ps,I,H⟩:=dues_iff.1 (f.get H)
 have hnd:=mp_nodup (r:=rs) (k:=.u32) (ps:=ps) H
 have hlen:ps.length≤4194304:=by
  have :=nodup_le 4194304 _ hnd fun x hx=>by
   obtain⟨y,hy,rfl⟩:=List.mem_map.1 hx
   have h1:=lookP_mem hnd hy
   rw[I.hps] at h1
   obtain⟨z,hz,_⟩:=Option.map_eq_some_iff.1 h1
   exact(I.rng y.1 z.1 z.2 hz).1
  simpa using this
 refine c_192 ?_
 simp only[F_192]
 refine c_due_check (q:=q) (s:=0) H rfl (by decide) ?_
 (repeat first |refine L1o H rfl ?_ |refine Oc ?_)
 refine RNGo H.mv3 fun it w H=>?_
 have loop:∀(m:Nat) (acc:List (Nat×Nat×Nat)) (v:Value) (w:World),m+acc.length=ps.length+1→Own w.hp (mit it rs .u32 ps (acc.map pairOf)::sle v tmE acc::pt p [ptrV q,.map (some rb),.map (some rs)]::csc q now (tmT tm)::mpi rb .u64 bs::f.rest)→B_192_5 R v (ptrV it) w:=by
  intro m
  induction m using Nat.strongRecOn with
  |ind m ih=>
   intro acc v w hm H
   refine B_192_5.intro ?_
   simp only[P_192_5]
   refine NXTo H (fun w H hp=>?_) fun w x H hx hl=>?_
   ·refine PV_of (v:=.bool false) rfl ?_
    refine Ob ?_
    have hmem:∀s d n,(s,d,n)∈acc↔tm s=some (d,n):=by
     intro s d n
     have e1:(s,d,n)∈acc↔pairOf (s,d,n)∈acc.map pairOf:=by
      constructor
      ·exact fun hh=>List.mem_map_of_mem hh
      ·intro hh
       obtain⟨y,hy,e⟩:=List.mem_map.1 hh
       rw[←pairOf_inj e];exact hy
     rw[e1,hp.mem_iff]
     constructor
     ·intro hh
      have h1:=lookP_mem hnd hh
      rw[I.hps] at h1
      obtain⟨⟨d',n'⟩,hz,e⟩:=Option.map_eq_some_iff.1 h1
      have :=pairOf_inj (x:=(s,d',n')) (y:=(s,d,n)) (by simp only[pairOf,Prod.mk.injEq,true_and];exact e)
      simp only[Prod.mk.injEq,true_and] at this
      rw[←this.1, ←this.2];exact hz
     ·intro hh
      refine mem_lookP ?_
      rw[I.hps,hh];rfl
    have hnd2:acc.Nodup:=by
     have h1:((acc.map pairOf).map (·.1)).Nodup:=(hp.map (·.1)).symm.nodup hnd
     have h2:(acc.map (·.1)).Nodup:=by simpa[List.map_map,Function.comp_def,pairOf] using h1
     exact List.Pairwise.of_map (S:=fun a b=>a≠b) (·.1) (fun a b h e=>h (by rw[e])) h2
    have hal:acc.length=ps.length:=by simpa using hp.length_eq
    refine c_Sort (.inr rfl) (by omega) (fun x hx=>?_) H.mv1 fun D w hpD _ H=>?_
    ·obtain⟨s,d,n⟩:=x
     obtain⟨g1,g2,g3,g4,_⟩:=I.rng _ _ _ ((hmem s d n).1 hx)
     exact⟨Nat.lt_trans g1 (by decide),g2,g4⟩
    ·refine h v w D (hpD.symm.nodup hnd2) (fun s d n=>by rw[hpD.mem_iff];exact hmem s d n) (by rw[hpD.length_eq];omega) ?_
     have H:=mit_ps H.mv1
     rw[hC]
     exact f.put1 (dues_iff.2 ⟨q,rb,bs,rs,ps,I,H.mv1.mv1.mv4.mv4.mv4⟩).mv1
   ·refine PV_of (v:=.bool true) rfl ?_
    refine Ob ?_
    have h1:=lookP_mem hnd hx
    rw[I.hps] at h1
    obtain⟨⟨d,n⟩,hz,e⟩:=Option.map_eq_some_iff.1 h1
    obtain⟨x1,x2⟩:=x
    simp only at e hz
    subst e
    refine ENTo H ?_
    refine PV_of (v:=tmV x1 d n) rfl ?_
    refine NSo H rfl rfl (by simp[tmV,Value.oneCell']) fun t w H=>?_
    refine LNo H (by simp[tmV]) ?_
    refine NEWSo tmE [(x1,d,n)] H (cs:=#[.int .u32 (x1:Nat),.int .u64 d,.int .u64 n]) rfl rfl rfl fun tt w H=>?_
    have hal:acc.length<ps.length:=by simpa using hl
    refine APPo (E:=tmE) (v:=v) (xs:=acc) (ys:=[(x1,d,n)]) H rfl (by decide) (by simp;omega) fun v' w H=>?_
    refine ih (m - 1) (by omega) (acc++[(x1,d,n)]) v' w (by simp;omega) ?_
    have H:=H.drop.drop
    have e2:(acc++[(x1,d,n)]).map pairOf=acc.map pairOf++[pairOf (x1,d,n)]:=by simp
    rw[e2];exact H
 exact loop (ps.length+1) [] (.slice none 0 0) w (by simp) (sl_nil tmE H).mv1
theorem k_due_Renumber {tv:Value} {tos:List Nat} (H:Own w.hp (dues p now tm::sle tv u32E tos::C)) (htl:tos.length≤4194304) (hto:∀s d n,tm s=some (d,n)→∃y,tos[s]?=some y∧y<4194304) (hinj:∀s s' y d n d' n',tm s=some (d,n)→tm s'=some (d',n')→tos[s]?=some y→tos[s']?=some y→s=s')
  (h:∀w' tm',(∀y d n,tm' y=some (d,n)↔∃s,tm s=some (d,n)∧tos[s]?=some y)→Own w'.hp (dues p now tm'::sle tv u32E tos::C)→R (.int .i64 0) w'):Call Pg 119 #[ptrV p,tv] w R:=by
 have hI:∃ps bs,DuInv now ps bs tm:=by
  obtain⟨q,rb,bs,rs,ps,I,_⟩:=dues_iff.1 H
  exact⟨ps,bs,I⟩
 obtain⟨ps0,bs0,I0⟩:=hI
 refine c_119 ?_
 simp only[F_119]
 obtain⟨q,rb,bs,rs,ps,I,H⟩:=dues_iff.1 H
 refine c_due_check (q:=q) (s:=0) H rfl (by decide) ?_
 (repeat first |refine L1o H rfl ?_ |refine Oc ?_)
 refine k_cs_Now H ?_
 have H:=dues_iff.2 ⟨q,rb,bs,rs,ps,I,H⟩
 refine k_due_New H I0.now fun p2 w H=>?_
 refine k_due_All (p:=p) H fun v w D hD1 hD2 hD3 H=>?_
 rw[leno (v:=v) (E:=tmE) (xs:=D) H]
 refine Os ?_
 have loop:∀(m i:Nat) (tm1:Tm) (w:World),m+i=D.length→(∀y d n,tm1 y=some (d,n)↔∃s,(s,d,n)∈D.take i∧tos[s]?=some y)→Own w.hp (sle v tmE D::dues p2 now tm1::dues p now tm::sle tv u32E tos::C)→B_119_6 R (ptrV p) tv (ptrV p2) v (.int .i64 D.length) (.int .i64 i) w:=by
  intro m
  induction m with
  |zero=>
   intro i tm1 w hm htm1 H
   refine B_119_6.intro ?_
   simp only[P_119_6]
   refine Ob ?_
   rw[List.take_of_length_le (by omega)] at htm1
   obtain⟨q,rb,bs,rs,ps,I,H⟩:=dues_iff.1 H.mv1
   obtain⟨q',rb',bs',rs',ps',I',H⟩:=dues_iff.1 H.mv5
   refine LNo H (by simp) ?_
   refine SNo H rfl (by simp) (by simp[Value.oneCell']) fun w H=>?_
   refine h w tm1 (fun y d n=>?_) (dues_iff.2 ⟨q,rb,bs,rs,ps,I,H.mv9.mv8.mv8.mv8.mv4.dp5.dp5.dp5.dp5.dp5⟩)
   rw[htm1]
   simp only[hD2]
  |succ m ih=>
   intro i tm1 w hm htm1 H
   refine B_119_6.intro ?_
   simp only[P_119_6]
   refine Ob ?_
   obtain⟨⟨s,d,n⟩,hx⟩:∃x,D[i]?=some x:=⟨_,List.getElem?_eq_getElem (by omega)⟩
   have hmem:(s,d,n)∈D:=List.mem_of_getElem? hx
   have htm:=(hD2 s d n).1 hmem
   have htk:D.take (i+1)=D.take i++[(s,d,n)]:=by rw[List.take_add_one,hx];rfl
   have hnt:(s,d,n)∉D.take i:=by
    intro hm'
    have e:D=D.take i++(s,d,n)::D.drop (i+1):=by
     have h1:=List.getElem?_eq_getElem (l:=D) (i:=i) (by omega)
     rw[hx] at h1
     simp only[Option.some.injEq] at h1
     rw[h1, ←List.drop_eq_getElem_cons (by omega),List.take_append_drop]
    rw[e] at hD1
    exact(List.nodup_append.1 hD1).2.2 _ hm' _ List.mem_cons_self rfl
   obtain⟨y,hy,hy2⟩:=hto _ _ _ htm
   obtain⟨g1,g2,g3,g4,g5⟩:=I0.rng _ _ _ htm
   have hlt:=lt_of_get hy
   refine idxo (E:=tmE) (v:=v) H (by omega) ?_
   refine LNe (E:=tmE) (v:=v) H hx ?_
   refine NSo H rfl rfl (by simp[tmE,Value.oneCell']) fun t8 w H=>?_
   (repeat first |refine L1o H rfl ?_ |refine Oc ?_)
   rw[leno (v:=tv) (E:=u32E) (xs:=tos) H]
   (repeat first |refine L1o H rfl ?_ |refine Oc ?_)
   refine idxo (E:=u32E) (v:=tv) (xs:=tos) H hlt ?_
   refine L1e (E:=u32E) (v:=tv) H hy rfl ?_
   refine Ob ?_
   refine S1o H rfl rfl fun w H=>?_
   (repeat first |refine L1o H rfl ?_ |refine Oc ?_)
   have hfree:tm1 y=none:=by
    cases ht:tm1 y with
    |none=>rfl
    |some z=>
     obtain⟨d',n'⟩:=z
     obtain⟨s',h1,h2⟩:=(htm1 y d' n').1 ht
     have h3:=(hD2 s' d' n').1 (List.mem_of_mem_take h1)
     have :=hinj _ _ _ _ _ _ _ htm h3 hy h2
     subst this
     rw[htm] at h3
     simp only[Option.some.injEq,Prod.mk.injEq] at h3
     rw[←h3.1, ←h3.2] at h1
     exact absurd h1 hnt
   have hbirth:∀s' d',tm1 s'≠some (d',n):=by
    intro s' d' e
    obtain⟨s2,h1,h2⟩:=(htm1 s' d' n).1 e
    have h3:=(hD2 s2 d' n).1 (List.mem_of_mem_take h1)
    have :=I0.inj h3 htm
    subst this
    rw[htm] at h3
    simp only[Option.some.injEq,Prod.mk.injEq,and_true] at h3
    rw[←h3] at h1
    exact hnt h1
   obtain⟨q,rb,bs,rs,ps,I,H⟩:=dues_iff.1 H.mv2
   refine c_due_check (q:=q) (s:=y) H rfl hy2 ?_
   (repeat first |refine L1o H rfl ?_ |refine Oc ?_)
   refine LKo H ?_
   rw[I.hps,hfree]
   simp only[Option.map_none,Option.getD_none,Option.isSome_none]
   refine Ob ?_
   refine NEWo (w:=w.drew) H fun t10 w H=>?_
   refine⟨LKo H (by rw[I.hps,hfree];rfl),L1o H rfl rfl,L1o H rfl rfl,?_⟩
   refine SNo H rfl (by simp) (by simp[Value.oneCell']) fun w H=>?_
   refine Ob ?_
   refine LNo H (by simp[tmE]) ?_
   refine c_due_put (s:=y) (d:=d) (n:=n) H.mv8.mv8.mv8.mv8.mv8.mv8.mv8.mv8 I hy2 ⟨g2,g5⟩ ⟨g3,g4⟩ hfree hbirth fun w bs2 ps2 H I2=>?_
   refine Ob ?_
   rw[show((i:Int)+1)=((i+1:Nat):Int) by omega]
   have H:=dues_iff.2 ⟨q,rb,bs2,rs,ps2,I2,H⟩
   refine ih (i+1) (upd tm1 y (some (d,n))) w (by omega) ?_ H.mv4.mv4.mv2.mv4.dp4.dp4
   intro y' d' n'
   rw[htk]
   simp only[upd,List.mem_append,List.mem_singleton,Prod.mk.injEq]
   by_cases e:y'=y
   ·subst e
    rw[if_pos rfl]
    simp only[Option.some.injEq,Prod.mk.injEq]
    constructor
    ·rintro⟨rfl,rfl⟩
     exact⟨s,.inr ⟨rfl,rfl,rfl⟩,hy⟩
    ·rintro⟨s',h1 |⟨rfl,rfl,rfl⟩,h2⟩
     ·have :=(htm1 y' d' n').2 ⟨s',h1,h2⟩
      rw[hfree] at this;cases this
     ·exact⟨rfl,rfl⟩
   ·rw[if_neg e,htm1]
    constructor
    ·rintro⟨s',h1,h2⟩;exact⟨s',.inl h1,h2⟩
    ·rintro⟨s',h1 |⟨rfl,rfl,rfl⟩,h2⟩
     ·exact⟨s',h1,h2⟩
     ·rw[hy] at h2
      simp only[Option.some.injEq] at h2
      exact absurd h2.symm e
 exact loop D.length 0 (fun _=>none) w (by omega) (by intro y d n;simp) H
end
end Go.Cub
