/-
  Part 16 of the proof that TopNested returns true and leaves what it was given as it was. CONDITIONS: those of the given row and card.
-/
import Derived.Test.YtpelalpajdpkgaaGreatDoorZ09
import Derived.Test.YtpelalpajdpkgaaGreatDoorZ14
set_option linter.all false
namespace Go.Cub
open Go Go.IntWalk
theorem callV_fn {P:Program} {g:FuncId} {first cap args:Array Value} {w:World} {K:Value→World→Prop} (hf:∀args w,(callFunc g args).run P w=.ok (.enter g args) w) (h:Call P g (first ++args++cap) w K):CallV P (.func (.func g) first cap) args w K:=⟨hf,h⟩
theorem lt_of_some {h:Array Obj} {b:Nat} {o:Obj} (e:h[b]?=some o):b<h.size:=by
 rcases Nat.lt_or_ge b h.size with h1 |h1
 ·exact h1
 ·rw[Array.getElem?_eq_none h1] at e;cases e
def lp (l:Nat) (r:Loop):HP:=⟨fun h F G=>h.o[l]?=some (.loop r)∧F=[l]∧G=[],
 fun⟨h1,h2,h3⟩ hk _=>⟨by rw[hk l (by simp[h2])];exact h1,h2,h3⟩,
 fun a x hx=>by
  obtain⟨h1,h2,h3⟩:=a
  subst h2;subst h3;simp at hx;subst hx
  exact lt_of_some h1,
 fun⟨h1,h2,h3⟩ x hx=>by subst h3;simp⟩
def dfr (d:Nat) (c:Option (List Deferred)):HP:=⟨fun h F G=>h.o[d]?=some (.deferred c)∧F=[d]∧G=[],
 fun⟨h1,h2,h3⟩ hk _=>⟨by rw[hk d (by simp[h2])];exact h1,h2,h3⟩,
 fun a x hx=>by
  obtain⟨h1,h2,h3⟩:=a
  subst h2;subst h3;simp at hx;subst hx
  exact lt_of_some h1,
 fun⟨h1,h2,h3⟩ x hx=>by subst h3;simp⟩
instance {l:Nat} {r:Loop}:Keyed (lp l r) (.b l):=⟨⟩
instance {d:Nat} {c:Option (List Deferred)}:Keyed (dfr d c) (.b d):=⟨⟩
section
variable {P:Program} {w:World} {L:List HP} {u:HP→List HP} {l d:Nat} {r:Loop}
theorem put_get {o:Obj} {b:Nat} (h:b<w.heap.size):(w.putObj' b o).heap[b]?=some o:=by simp[World.putObj',h]
theorem Own.lp (H:Own w.hp (Go.Cub.lp l r::L)):w.heap[l]?=some (.loop r):=by
 obtain⟨F,G,F1,F2,G1,G2,e1,e2,a,o,d⟩:=H
 exact a.1
theorem own_lp {r':Loop} (H:Own w.hp (Go.Cub.lp l r::L)):Own (w.putObj' l (.loop r')).hp (Go.Cub.lp l r'::L):=by
 have hl:l<w.heap.size:=by
  rcases Nat.lt_or_ge l w.heap.size with h |h
  ·exact h
  ·have :=H.lp;rw[Array.getElem?_eq_none h] at this;cases this
 exact H.mod (Mod.put _) (fun F G a x hx=>by rw[a.2.1];exact hx) (F':=[l]) (G':=[]) (fun F G a=>⟨put_get hl,rfl,rfl⟩) (fun F G a x hx=>.inl (by rw[a.2.1];exact hx)) (by simp)
theorem BRo [f:Foc L (.b l) (lp l r) u] {K:World→Prop} (H:Own w.hp L) (hr:r.state=.ready) (hk:∀w',Own w'.hp (u (lp l {r with state:=.busy}))→K w'):BR l w K:=by
 simp only[BR,(f.get H).lp]
 exact⟨hr,hk _ (f.put (own_lp (f.get H)))⟩
theorem ERo [f:Foc L (.b l) (lp l r) u] {R:Value→World→Prop} {j:Option Code} (H:Own w.hp L) (hk:∀w',Own w'.hp (u (lp l {r with state:=if j.isNone then .ready else .done,pending:=j}))→R (.bool j.isNone) w'):ER l j w R:=by
 simp only[ER,(f.get H).lp]
 exact hk _ (f.put (own_lp (f.get H)))
theorem ELo [f:Foc L (.b l) (lp l r) u] {K:Option Code→World→Prop} (H:Own w.hp L) (hr:r.state≠ .busy) (hk:∀w' r',Own w'.hp (u (lp l r'))→K r.pending w'):EL l w K:=by
 simp only[EL,(f.get H).lp]
 exact⟨hr,hk _ _ (f.put (own_lp (f.get H)))⟩
theorem RETo [f:Foc L (.b d) (dfr d (some [])) u] {ds:List Deferred} {K:World→Prop} (H:Own w.hp L) (hk:∀w',Own w'.hp (u (dfr d none))→RET P ds w' K):RET P ({target:=.collected d,args:=#[]}::ds) w K:=by
 have H':=f.get H
 have hd:w.heap[d]?=some (.deferred (some [])):=by
  obtain⟨F,G,F1,F2,G1,G2,e1,e2,a,o,d⟩:=H'
  exact a.1
 have hl:d<w.heap.size:=by
  rcases Nat.lt_or_ge d w.heap.size with h |h
  ·exact h
  ·rw[Array.getElem?_eq_none h] at hd;cases hd
 simp only[RET,hd]
 exact hk _ (f.put (H'.mod (Mod.put _) (fun F G a x hx=>by rw[a.2.1];exact hx) (F':=[d]) (G':=[]) (fun F G a=>⟨put_get hl,rfl,rfl⟩) (fun F G a x hx=>.inl (by rw[a.2.1];exact hx)) (by simp)))
def Iter (P:Program) (A:HP) (f:Value) (items:List (List Value)):Prop:=
 ∃g first cap,f=.func (.func g) first cap∧(∀args w,(callFunc g args).run P w=.ok (.enter g args) w)∧
 ∀(J:Nat→HP) (S:World→Prop) (y:Value) (w:World),Own w.hp [A,J 0]→
  (∀i x,items[i]?=some x→∀w,Own w.hp [A,J i]→CallV P y x.toArray w fun v w'=>(v=.bool true∧Own w'.hp [A,J (i+1)])∨(v=.bool false∧S w'))→
  Call P g (first ++#[y]++cap) w fun _ w'=>Own w'.hp [A,J items.length]∨S w'
structure Rd (fid:FuncId) (n:Nat) (live:List (Nat×Value)) (params:Array Tmp) (aq body:Code) (r:Loop):Prop where
 fn:r.fn=fid
 params:r.params=params
 aq:r.assign=aq
 body:r.body=body
 size:r.tmps.size=n
 live:∀x∈live,r.tmps.getD x.1 undef=x.2
theorem allEq_of {tm:Array Value}:∀ {live:List (Nat×Value)} {R:Prop},((∀x∈live,tm.getD x.1 undef=x.2)→R)→allEq tm live R
 |[],R,h=>h (by simp)
 |t::ts,R,h=>fun e=>allEq_of fun h'=>h fun x hx=>by
  rcases List.mem_cons.1 hx with rfl |hx
  ·exact e
  ·exact h' x hx
def Rnd (fid:FuncId) (n:Nat) (live:List (Nat×Value)) (params:Array Tmp) (aq body:Code) (l:Nat) (A J' X:HP) (B:Code→HP):Value→World→Prop:=fun v w'=>
 ∃r',Rd fid n live params aq body r'∧((v=.bool true∧r'.state=.ready∧r'.pending=none∧Own w'.hp [lp l r',A,J',X])∨(v=.bool false∧r'.state=.done∧∃j,r'.pending=some j∧Own w'.hp [lp l r',B j,X]))
section
variable {fid:FuncId} {n:Nat} {live:List (Nat×Value)} {fv:Value} {params:Array Tmp} {aq body:Code} {A:HP} {items:List (List Value)}
theorem loopI {g:FuncId} {first cap:Array Value} (J:Nat→HP) (B:Code→HP) (X:HP) {l:Nat} {w:World} {r0:Loop} (hr0:Rd fid n live params aq body r0∧r0.state=.ready∧r0.pending=none)
  (hf:∀(J:Nat→HP) (S:World→Prop) (y:Value) (w:World),Own w.hp [A,J 0]→
  (∀i x,items[i]?=some x→∀w,Own w.hp [A,J i]→CallV P y x.toArray w fun v w'=>(v=.bool true∧Own w'.hp [A,J (i+1)])∨(v=.bool false∧S w'))→
  Call P g (first ++#[y]++cap) w fun _ w'=>Own w'.hp [A,J items.length]∨S w')
  (H:Own w.hp [lp l r0,A,J 0,X])
  (hstep:∀i x,items[i]?=some x→∀r w X,Rd fid n live params aq body r→r.state=.ready→Own w.hp [lp l r,A,J i,X]→
   CallV P (.func (.yield l) #[] #[]) x.toArray w (Rnd fid n live params aq body l A (J (i+1)) X B))
  {K:Option Code→World→Prop} (hend:∀w r,Own w.hp [lp l r,A,J items.length,X]→K none w) (hbrk:∀j w r,Own w.hp [lp l r,B j,X]→K (some j) w):
  Call P g (first ++#[.func (.yield l) #[] #[]]++cap) w fun _ w'=>EL l w' K:=by
 have h1:=hf (fun i=>.ex fun r=>.all [.pu (Rd fid n live params aq body r∧r.state=.ready∧r.pending=none),lp l r,J i,X])
  (fun w'=>∃r' j,r'.state=.done∧r'.pending=some j∧Own w'.hp [lp l r',B j,X]) (.func (.yield l) #[] #[]) w ?_ ?_
 ·refine h1.mono ?_
  rintro v w' (h2 |⟨r',j,h2,h3,h4⟩)
  ·have h2:=h2.perm (.swap _ _ _)
   obtain⟨r,h2⟩:=own_ex.1 h2
   obtain⟨⟨h3,h4,h5⟩,h2⟩:=own_pu.1 (own_all.1 h2)
   have h2:Own w'.hp [lp l r,A,J items.length,X]:=h2.perm (List.Perm.cons _ (by simpa using List.perm_append_comm (l₁:=[J items.length,X]) (l₂:=[A])))
   refine ELo (r:=r) h2 (by simp[h4]) fun w'' r' H=>?_
   rw[h5]
   exact hend _ r' H
  ·refine ELo (r:=r') h4 (by simp[h2]) fun w'' r' H=>?_
   rw[h3]
   exact hbrk _ _ r' H
 ·refine Own.perm (own_ex.2 ⟨r0,own_all.2 (own_pu.2 ⟨hr0,H.perm (L':=[lp l r0,J 0,X,A]) ?_⟩)⟩) (.swap _ _ _)
  exact List.Perm.cons _ (by simpa using List.perm_append_comm (l₁:=[A]) (l₂:=[J 0,X]))
 ·intro i x hx w' h2
  have h2:=h2.perm (.swap _ _ _)
  obtain⟨r,h2⟩:=own_ex.1 h2
  obtain⟨⟨h3,h4,h5⟩,h2⟩:=own_pu.1 (own_all.1 h2)
  have h2:Own w'.hp [lp l r,A,J i,X]:=h2.perm (List.Perm.cons _ (by simpa using List.perm_append_comm (l₁:=[J i,X]) (l₂:=[A])))
  refine(hstep i x hx r w' X h3 h4 h2).mono ?_
  rintro v w'' ⟨r',a1,⟨a2,a3,a4,a5⟩ |⟨a2,a3,j,a4,a5⟩⟩
  ·refine .inl ⟨a2,Own.perm (own_ex.2 ⟨r',own_all.2 (own_pu.2 ⟨⟨a1,a3,a4⟩,a5.perm (L':=[lp l r',J (i+1),X,A]) ?_⟩)⟩) (.swap _ _ _)⟩
   exact List.Perm.cons _ (by simpa using List.perm_append_comm (l₁:=[A]) (l₂:=[J (i+1),X]))
  ·exact .inr ⟨a2,r',j,a3,a4,a5⟩
theorem RFo {df:List Deferred} {K:Option Code→List Deferred→World→Prop} (J:Nat→HP) (B:Code→HP) (hf:Iter P A fv items) (H:Own w.hp [A,J 0])
  (hstep:∀l,∀i x,items[i]?=some x→∀r w X,Rd fid n live params aq body r→r.state=.ready→Own w.hp [lp l r,A,J i,X]→CallV P (.func (.yield l) #[] #[]) x.toArray w (Rnd fid n live params aq body l A (J (i+1)) X B))
  (hend:∀d w,Own w.hp [dfr d (some []),A,J items.length]→K none ({target:=.collected d,args:=#[]}::df) w)
  (hbrk:∀j d w,Own w.hp [dfr d (some []),B j]→K (some j) ({target:=.collected d,args:=#[]}::df) w):
  RF P fid none n live fv params aq body df w K:=by
 obtain⟨g,first,cap,rfl,hc,hf⟩:=hf
 refine⟨hc,fun tm htm=>allEq_of fun hl=>?_⟩
 have hd:(w.alloc (.deferred (some []))).heap.size=w.heap.size+1:=by simp[heap_alloc]
 have H1:Own (w.alloc (.deferred (some []))).hp (dfr w.heap.size (some [])::[A,J 0]):=
  H.modNew (Ext.alloc _) (F':=[w.heap.size]) ⟨by show(w.alloc (.deferred (some []))).heap[w.heap.size]?=_;simp[heap_alloc],rfl,rfl⟩ (by simp)
 have e2:((w.alloc (.deferred (some []))).alloc (loopObj fid tm params aq body w.heap.size)).heap[w.heap.size+1]?=some (loopObj fid tm params aq body w.heap.size):=by
  rw[heap_alloc, ←hd];exact Array.getElem?_push_size
 have H2:Own ((w.alloc (.deferred (some []))).alloc (loopObj fid tm params aq body w.heap.size)).hp (lp (w.heap.size+1) ⟨.ready,none,fid,tm,params,aq,body,w.heap.size⟩::dfr w.heap.size (some [])::[A,J 0]):=
  H1.modNew (Ext.alloc _) (F':=[w.heap.size+1]) ⟨e2,rfl,rfl⟩ (by simp[heap_alloc])
 have hr0:Rd fid n live params aq body ⟨.ready,none,fid,tm,params,aq,body,w.heap.size⟩:=⟨rfl,rfl,rfl,rfl,htm,hl⟩
 have H4:Own ((w.alloc (.deferred (some []))).alloc (loopObj fid tm params aq body w.heap.size)).hp [lp (w.heap.size+1) ⟨.ready,none,fid,tm,params,aq,body,w.heap.size⟩,A,J 0,dfr w.heap.size (some [])]:=
  H2.perm (.cons _ (by simpa using(List.perm_append_comm (l₁:=[dfr w.heap.size (some [])]) (l₂:=[A,J 0]))))
 refine loopI J B (dfr w.heap.size (some [])) ⟨hr0,rfl,rfl⟩ hf H4 (hstep _) (fun w' r H=>hend _ _ ?_) (fun j w' r H=>hbrk _ _ _ ?_)
 ·exact(H.drop).perm (by simpa using(List.perm_append_comm (l₁:=[A,J items.length]) (l₂:=[dfr w.heap.size (some [])])))
 ·exact(H.drop).perm (.swap _ _ _)
theorem RFo2 {df:List Deferred} {l0:Nat} {rr:Loop} {K:Option Code→List Deferred→World→Prop} (J:Nat→HP) (B:Code→HP) (hf:Iter P A fv items) (H:Own w.hp [A,J 0]) (h0:w.heap[l0]?=some (.loop rr))
  (hstep:∀l,∀i x,items[i]?=some x→∀r w X,Rd fid n live params aq body r→r.state=.ready→Own w.hp [lp l r,A,J i,X]→CallV P (.func (.yield l) #[] #[]) x.toArray w (Rnd fid n live params aq body l A (J (i+1)) X B))
  (hend:∀w,Own w.hp [A,J items.length]→K none df w)
  (hbrk:∀j w,Own w.hp [B j]→K (some j) df w):
  RF P fid (some l0) n live fv params aq body df w K:=by
 obtain⟨g,first,cap,rfl,hc,hf⟩:=hf
 refine⟨hc,fun tm htm=>allEq_of fun hl=>?_⟩
 simp only[h0]
 have H2:Own (w.alloc (loopObj fid tm params aq body rr.defers)).hp (lp w.heap.size ⟨.ready,none,fid,tm,params,aq,body,rr.defers⟩::[A,J 0]):=
  H.modNew (Ext.alloc _) (F':=[w.heap.size]) ⟨by show(w.alloc (loopObj fid tm params aq body rr.defers)).heap[w.heap.size]?=_;rw[heap_alloc];exact Array.getElem?_push_size,rfl,rfl⟩ (by simp)
 have hr0:Rd fid n live params aq body ⟨.ready,none,fid,tm,params,aq,body,rr.defers⟩:=⟨rfl,rfl,rfl,rfl,htm,hl⟩
 have H4:Own (w.alloc (loopObj fid tm params aq body rr.defers)).hp [lp w.heap.size ⟨.ready,none,fid,tm,params,aq,body,rr.defers⟩,A,J 0,.pu True]:=
  (own_pu.2 ⟨trivial,H2⟩).bk3
 refine loopI J B (.pu True) ⟨hr0,rfl,rfl⟩ hf H4 (hstep _) (fun w' r H=>hend _ ?_) (fun j w' r H=>hbrk _ _ ?_)
 ·exact(H.drop.perm (L':=[.pu True,A,J items.length]) (by simpa using(List.perm_append_comm (l₁:=[A,J items.length]) (l₂:=[HP.pu True])))).drop
 ·exact(H.drop.perm (.swap _ _ _)).drop
theorem Rd.upd {r:Loop} (h:Rd fid n live params aq body r) (a:LoopState) (b:Option Code):Rd fid n live params aq body {r with state:=a,pending:=b}:=⟨h.fn,h.params,h.aq,h.body,h.size,h.live⟩
theorem ERn {r:Loop} {J' X:HP} {B:Code→HP} {l:Nat} (hr:Rd fid n live params aq body r) (H:Own w.hp [lp l {r with state:=.busy},A,J',X]):ER l none w (Rnd fid n live params aq body l A J' X B):=
 ERo H fun w' H'=>⟨_,hr.upd _ _,.inl ⟨rfl,rfl,rfl,H'⟩⟩
theorem ERj {r:Loop} {J' X:HP} {B:Code→HP} {j:Code} {l:Nat} (hr:Rd fid n live params aq body r) (H:Own w.hp [lp l {r with state:=.busy},B j,X]):ER l (some j) w (Rnd fid n live params aq body l A J' X B):=
 ERo H fun w' H'=>⟨_,hr.upd _ _,.inr ⟨rfl,rfl,j,rfl,H'⟩⟩
end
end
end Go.Cub
namespace Go.Cub
open Go Go.Proofs Go.IntWalk
def u32E:Enc Nat:=⟨1,fun n=>[.int .u32 n],fun _=>rfl,fun n v h=>by simp at h;subst h;rfl⟩
def i64E:Enc Int:=⟨1,fun n=>[.int .i64 n],fun _=>rfl,fun n v h=>by simp at h;subst h;rfl⟩
def ndE:Enc (Nat×Nat×Nat):=⟨3,fun n=>[.int .u32 n.1,.int .u32 n.2.1,.int .u32 n.2.2],fun _=>rfl,fun n v h=>by simp at h;rcases h with rfl |rfl |rfl<;>rfl⟩
def tbh (v:Value) (k n:Nat) (f:Nat→Nat→Value):HP:=⟨fun h F G=>Tb (wh h) v k n f F∧G=[],
 fun⟨h1,h2⟩ hk _=>⟨Sl.get h1 fun b hb=>hk b (.inl hb),h2⟩,
 fun⟨h1,h2⟩ x hx=>by subst h2;simp at hx;exact h1.lt x hx,
 fun⟨h1,h2⟩ x hx=>by subst h2;simp⟩
section
variable {h:Hp} {C:List HP} {p N M:Nat} {ls:Nat→List Nat}
theorem Sl.nodupF {w:World} {v:Value} {size n:Nat} {cells:List Value} {F:List Nat} (s:Sl w v size n cells F):F.Nodup:=by
 rcases s.2 with ⟨_,_,h⟩ |⟨b,_,_,_,_,h,_⟩<;>rw[h]<;>simp
theorem lk_open (H:Own h (lk p N M ls::C)):∃L:Lk,∃fv lv,L.nodes=N∧L.heads=M∧Good L ls∧L.Fits∧Own h (pt p [fv,.int .i64 N,lv]::tbh fv 3 (N+M) (lkF L.pv L.nx L.of)::tbh lv 1 M (fun i _=>.int .i64 (L.ln i:Nat))::C):=by
 obtain⟨F,G,F1,F2,G1,G2,e1,e2,a,o,d⟩:=H
 obtain⟨⟨L,fv,lv,Ff,Fl,rfl,rfl,g,al⟩,rfl⟩:=a
 refine⟨L,fv,lv,rfl,rfl,g,al.fits,?_⟩
 have hx:Own h (.all [pt p [fv,.int .i64 L.nodes,lv],tbh fv 3 (L.nodes+L.heads) (lkF L.pv L.nx L.of),tbh lv 1 L.heads (fun i _=>.int .i64 (L.ln i:Nat))]::C):=by
  have h1:=al.own
  obtain⟨q1,q2,q3,q4⟩:=al.p_not
  refine⟨F,G,F1,F2,[],G2,e1,e2,?_,o,d⟩
  refine⟨[p],Ff++(Fl++[]),[],[],by simp[h1],rfl,⟨al.row,rfl,rfl⟩,⟨Ff,Fl++[],[],[],rfl,rfl,⟨al.field,rfl⟩,⟨Fl,[],[],[],rfl,rfl,⟨al.lens,rfl⟩,⟨rfl,rfl⟩,by simp,by simp⟩,?_,by simp⟩,?_,by simp⟩
  ·intro b hb;simpa using q4 b hb
  ·intro b hb;simp at hb;subst hb;simp[q1,q2]
 exact own_all.1 hx
theorem lk_close {L:Lk} {fv lv:Value} (H:Own h (pt p [fv,.int .i64 N,lv]::tbh fv 3 (N+M) (lkF L.pv L.nx L.of)::tbh lv 1 M (fun i _=>.int .i64 (L.ln i:Nat))::C)) (e1:L.nodes=N) (e2:L.heads=M) (g:Good L ls) (hf:L.Fits):Own h (lk p N M ls::C):=by
 have H:=own_all (L:=[_,_,_]).2 H
 refine H.imp fun F G a=>?_
 obtain⟨F1,F2,G1,G2,rfl,rfl,⟨a1,rfl,rfl⟩,⟨Ff,F4,G3,G4,rfl,rfl,⟨a2,rfl⟩,⟨Fl,F6,G5,G6,rfl,rfl,⟨a3,rfl⟩,⟨rfl,rfl⟩,_⟩,d3,_⟩,d1,_⟩:=a
 subst e1;subst e2
 refine⟨[p]++(Ff++(Fl++[])),[],⟨⟨L,fv,lv,Ff,Fl,rfl,rfl,g,a1,a2,a3,by simp,?_,hf⟩,rfl⟩,by simp,by simp⟩
 have n1:=Sl.nodupF a2
 have n2:=Sl.nodupF a3
 simp only[List.append_nil,List.cons_append,List.nil_append,List.nodup_cons,List.nodup_append]
 refine⟨?_,n1,n2,?_⟩
 ·have :=d1 p (by simp)
  simpa using this.1
 ·intro a ha b hb e
  subst e
  have :=(d3 a ha).1
  simp[hb] at this
theorem sle_tbh {α:Type} {E:Enc α} {v:Value} {xs:List α} {f:Nat→Nat→Value} (H:Own h (sle v E xs::C)) (hf:∀i x,xs[i]?=some x→∀j,j<E.k→(E.c x)[j]?=some (f i j)):Own h (tbh v E.k xs.length f::C):=by
 refine H.imp fun F G a=>⟨F,G,⟨?_,a.2⟩,fun b hb=>hb,fun b hb=>.inr hb⟩
 have :E.fl xs=tab E.k xs.length f:=by
  refine tab_ext (E.fl_length xs) fun i hi j hj=>?_
  have hx:=List.getElem?_eq_getElem hi
  rw[E.fl_get xs i _ hx j hj]
  exact hf i _ hx j hj
 have a1:=a.1
 rw[this] at a1
 exact a1
end
section
variable {R:Value→World→Prop} {w:World} {C:List HP} {u:HP→List HP} {p N M k n:Nat} {ls:Nat→List Nat}
attribute [local irreducible] PV CND GRD L1 LN S1 SN NEW NEWS MKS MKM LK MU DEL LENM APP CPY BTS Call CallV
def newNd (N i:Nat) (j:Nat):Nat×Nat×Nat:=if N≤j∧j<N+i then(j,j,j - N+1) else(0,0,0)
theorem newNd_set {i:Nat} (hi:i<M):((List.range (N+M)).map (newNd N i)).set (N+i) (N+i,N+i,i+1)=(List.range (N+M)).map (newNd N (i+1)):=by
 apply List.ext_getElem?
 intro j
 simp only[List.getElem?_set,List.getElem?_map,List.getElem?_range,List.length_map,List.length_range]
 by_cases e:N+i=j
 ·subst e
  have h1:N+i<N+M:=by omega
  have h2:N+i<N+(i+1):=by omega
  have h3:N+i - N=i:=by omega
  simp[h1,newNd,h2,h3]
 ·rw[if_neg e]
  by_cases hj:j<N+M
  ·simp only[hj,List.getElem?_range,Option.map_some]
   congr 1
   unfold newNd
   by_cases h1:N≤j∧j<N+i
   ·rw[if_pos h1,if_pos (by omega)]
   ·rw[if_neg h1,if_neg (by omega)]
  ·simp[hj]
theorem sle_slice {α:Type} {h:Hp} {v:Value} {E:Enc α} {xs:List α} {C:List HP} (H:Own h (sle v E xs::C)):∃a n c,v=.slice a n c:=by
 obtain⟨F,G,F1,F2,G1,G2,e1,e2,a,o,d⟩:=H
 rcases a.1.2 with ⟨rfl,_⟩ |⟨_,_,_,_,rfl,_⟩
 ·exact⟨_,_,_,rfl⟩
 ·exact⟨_,_,_,rfl⟩
theorem at1 {h:Hp} {X A B:HP} {C:List HP} (i:∀C,Own h (A::C)→Own h (B::C)) (H:Own h (X::A::C)):Own h (X::B::C):=(i _ (H.perm (.swap _ _ _))).perm (.swap _ _ _)
theorem at2 {h:Hp} {X Y A B:HP} {C:List HP} (i:∀C,Own h (A::C)→Own h (B::C)) (H:Own h (X::Y::A::C)):Own h (X::Y::B::C):=by
 have p:∀Z,(X::Y::Z::C).Perm (Z::X::Y::C):=fun Z=>((List.Perm.swap _ _ _).cons _).trans (.swap _ _ _)
 exact(i _ (H.perm (p A))).perm (p B).symm
theorem lk_of_sle {h:Hp} {fv lv:Value} {xs:List (Nat×Nat×Nat)} {ys:List Int} {L:Lk} (H:Own h (pt p [fv,.int .i64 N,lv]::sle fv ndE xs::sle lv i64E ys::C)) (e1:L.nodes=N) (e2:L.heads=M) (hx:xs.length=N+M) (hy:ys.length=M)
  (hx':∀i x,xs[i]?=some x→x=(L.pv i,L.nx i,L.of i)) (hy':∀(i:Nat) (y:Int),ys[i]?=some y→y=(L.ln i:Nat)) (g:Good L ls) (hf:L.Fits):Own h (lk p N M ls::C):=by
 subst e1;subst e2
 refine lk_close (L:=L) (fv:=fv) (lv:=lv) ?_ rfl rfl g hf
 rw[←hx]
 refine at1 (A:=sle fv ndE xs) (fun C H=>sle_tbh (E:=ndE) H fun i x hxi j hj=>?_) ?_
 ·have :=hx' i x hxi
  subst this
  have hj:j<3:=hj
  have hj':j=0∨j=1∨j=2:=by omega
  rcases hj' with rfl |rfl |rfl<;>rfl
 ·have H3:=at2 (B:=tbh lv 1 ys.length (fun i _=>.int .i64 (L.ln i:Nat))) (fun C H=>sle_tbh (E:=i64E) H fun i y hyi j hj=>?_) H
  ·rw[hy] at H3;exact H3
  ·have :=hy' i y hyi
   subst this
   have hj:j<1:=hj
   have hj':j=0:=by omega
   subst hj';rfl
theorem links_New_loop {fv lv:Value} (hN:1≤N∧N≤4194304) (hM:1≤M∧M≤4096) (h:∀p w',Own w'.hp (lk p N M (fun _=>[])::C)→R (.tuple #[ptrV p,.int .i64 0]) w'):∀(m i:Nat) (w:World),m+i=M→
  Own w.hp (pt p [fv,.int .i64 N,lv]::sle fv ndE ((List.range (N+M)).map (newNd N i))::sle lv i64E (List.replicate M 0)::C)→B_209_5 R (ptrV p) (.int .i64 M) (.int .i64 i) w
 |0,i,w,hm,H=>by
  refine B_209_5.intro ?_
  have hi:i=M:=by omega
  subst hi
  unfold P_209_5
  refine Os ?_
  have :decide ((i:Int)<i)=false:=by simp
  rw[this]
  refine Os ?_
  refine h p w (lk_of_sle (L:=⟨N,i,fun j=>(newNd N i j).1,fun j=>(newNd N i j).2.1,fun j=>(newNd N i j).2.2,fun _=>0⟩) H rfl rfl (by simp) (by simp) ?_ ?_ ?_ ⟨hN.1,hN.2,hM.1,hM.2⟩)
  ·intro j x hx
   rw[List.getElem?_map] at hx
   obtain⟨j',h1,h2⟩:=Option.map_eq_some_iff.1 hx
   have h3:j'=j:=by
    have :=lt_of_get h1
    rw[List.getElem?_range (by simpa using this)] at h1
    simpa using h1.symm
   subst h3;exact h2.symm
  ·intro j y hy
   have :=List.mem_of_getElem? hy
   simp at this
   simp[this.2]
  ·have key:∀h,h<i→newNd N i (N+h)=(N+h,N+h,h+1):=by
    intro h hh
    unfold newNd
    rw[if_pos (by omega)]
    simp
   refine⟨?_,?_,?_,?_,?_,?_⟩
   ·intro h hh
    have hh:h<i:=hh
    simp[Chain,key h hh]
   ·intro h hh x hx;simp at hx
   ·intro h hh
    have hh:h<i:=hh
    simp[key h hh]
   ·intro h hh;simp
   ·intro h hh;simp
   ·intro x hx hox
    exfalso
    apply hox
    have hx:x<N:=hx
    simp only[newNd]
    rw[if_neg (by omega)]
 |m+1,i,w,hm,H=>by
  refine B_209_5.intro ?_
  unfold P_209_5
  refine Os ?_
  have :decide ((i:Int)<M)=true:=by simp;omega
  rw[this]
  refine Os ?_
  refine c_264 ?_
  simp only[F_264]
  refine Os ?_
  refine L1o H rfl ?_
  refine Ob ?_
  refine L1o H rfl ?_
  refine PV_of (v:=.agg #[.int .u32 (N+i:Nat),.int .u32 (N+i:Nat),.int .u32 (i+1:Nat)]) (by simp;rfl) ?_
  have e1:(((N:Nat):Int)+(i:Nat))=((N+i:Nat):Int):=by omega
  rw[e1]
  refine idxo (E:=ndE) H (by simp;omega) ?_
  refine SNe (E:=ndE) (N+i,N+i,i+1) H (y:=newNd N i (N+i)) (by rw[List.getElem?_map,List.getElem?_range (by omega)];rfl) rfl fun w H=>?_
  rw[newNd_set (by omega)] at H
  have e2:((i:Nat):Int)+1=((i+1:Nat):Int):=by omega
  try refine Ob ?_
  rw[e2]
  exact links_New_loop hN hM h m (i+1) w (by omega) H
theorem k_links_New (H:Own w.hp C) (hN:1≤N∧N≤4194304) (hM:1≤M∧M≤4096) (h:∀p w',Own w'.hp (lk p N M (fun _=>[])::C)→R (.tuple #[ptrV p,.int .i64 0]) w'):Call Pg 209 #[.int .i64 N,.int .i64 M] w R:=by
 refine c_209 ?_
 simp only[F_209]
 have d1:decide ((N:Int)<1)=false:=by simp;omega
 have d2:decide (4194304<(N:Int))=false:=by simp;omega
 have d3:decide ((M:Int)<1)=false:=by simp;omega
 have d4:decide (4096<(M:Int))=false:=by simp;omega
 simp only[wp,d1,d2,d3,d4]
 rw[i64_in _ (by omega),show((N:Int)+M)=((N+M:Nat):Int) by omega]
 have tail:∀fv lv w,Own w.hp (sle lv i64E (List.replicate M 0)::sle fv ndE (List.replicate (N+M) (0,0,0))::C)→PV (buildV [(0,1),(1,1),(2,1)] (.agg #[.slice none 0 0,.int .i64 0,.slice none 0 0]) [(0,fv),(1,.int .i64 N),(2,lv)]) fun t30=>
 NEW 352 (Value.cells t30) w fun t31 w_9=>
 B_209_5 R t31 (.int .i64 M) (.int .i64 0) w_9:=by
  intro fv lv w H
  obtain⟨a1,a2,a3,rfl⟩:=sle_slice H
  obtain⟨b1,b2,b3,rfl⟩:=sle_slice H.drop
  refine PV_of (v:=.agg #[.slice b1 b2 b3,.int .i64 N,.slice a1 a2 a3]) rfl ?_
  refine NEWo H fun p w H=>?_
  refine links_New_loop (fv:=.slice b1 b2 b3) (lv:=.slice a1 a2 a3) (p:=p) hN hM h M 0 w (by omega) ?_
  have e:(List.range (N+M)).map (newNd N 0)=List.replicate (N+M) (0,0,0):=by
   apply List.ext_getElem?
   intro j
   simp only[List.getElem?_map,List.getElem?_replicate]
   by_cases hj:j<N+M
   ·rw[List.getElem?_range hj,if_pos hj]
    simp only[Option.map_some,newNd]
    rw[if_neg (by omega)]
   ·rw[if_neg hj,List.getElem?_eq_none (by simp;omega)]
    rfl
  rw[e]
  exact H.perm (.cons _ (.swap _ _ _))
 refine⟨?_,?_⟩
 ·refine MKSo (w:=w.drew) ndE (0,0,0) H rfl (Nat.le_refl _) (by omega) (by decide) fun fv w H=>?_
  refine MKSo i64E 0 H rfl (Nat.le_refl _) (by omega) (by decide) fun lv w H=>?_
  exact tail fv lv w H
 ·refine MKSo (w:=w.drew) i64E 0 H rfl (Nat.le_refl _) (by omega) (by decide) fun lv w H=>?_
  refine MKSo ndE (0,0,0) H rfl (Nat.le_refl _) (by omega) (by decide) fun fv w H=>?_
  exact tail fv lv w (H.perm (.swap _ _ _))
theorem Good.nx_mid {L:Lk} {pre rest:List Nat} {x:Nat} (g:Good L ls) (hk:k<L.heads) (e:ls k=pre++x::rest):L.nx x=(rest++[L.nodes+k]).headD 0:=by
 have h:=(g.split hk e).2.1
 cases rest with
 |nil=>exact h.1
 |cons y rest=>exact h.1
theorem Good.nx_ring {L:Lk} (g:Good L ls) (hk:k<L.heads):L.nx (L.nodes+k)=(ls k++[L.nodes+k]).headD 0:=by
 have h:=g.chain k hk
 revert h
 cases ls k with
 |nil=>exact fun h=>h.1
 |cons y rest=>exact fun h=>h.1
theorem lk_nx [f:Foc C (.b p) (lk p N M ls) u] {y:Nat} {K:Value→Prop} (H:Own w.hp C) (hk:k<M) (hn:n<N+M) (hy:∀L:Lk,L.nodes=N→L.heads=M→Good L ls→L.nx n=y) (h:K (.int .u32 y)):
  L1 (ptrV p) w fun t=>PV (idxS 3 t (.int .u32 n)) fun t=>PV (fldV 1 t) fun t=>L1 t w K:=by
 obtain⟨L,F,fv,lv,Ff,Fl,e1,e2,g,a⟩:=(f.get H).lk
 refine L1_of a.row rfl ?_
 obtain⟨b,o,hi,hF,hld,_⟩:=a.field.at (kd:=.u32) (i:=n) (by omega)
 rw[hi]
 refine Os ?_
 refine hld 1 (by decide) _ ?_
 have :=hy L e1 e2 g
 simp only[lkF,this]
 exact h
theorem links_all_loop [f:Foc C (.b p) (lk p N M ls) u] (hk:k<M) (h:∀v w',Own w'.hp (sle v u32E (ls k)::C)→R v w'):∀(rest pre:List Nat) (s:Value) (w:World),ls k=pre++rest→
  Own w.hp (sle s u32E pre::C)→B_280_6 R (ptrV p) (.int .u32 (N+k:Nat)) s (.int .u32 ((rest++[N+k]).headD 0)) w
 |[],pre,s,w,e,H=>by
  refine B_280_6.intro ?_
  unfold P_280_6
  rw[List.append_nil] at e
  rw[←e] at H
  refine Os ?_
  simp only[List.nil_append,List.headD_cons]
  refine Os ?_
  exact h s w H
 |x::rest,pre,s,w,e,H=>by
  refine B_280_6.intro ?_
  unfold P_280_6
  have hlt:=lk_lt (f.get H.drop) hk x (by rw[e];simp)
  have hfit:=lk_fits (f.get H.drop)
  have hd:decide (¬((x:Nat):Int)=(N+k:Nat))=true:=by simp;omega
  simp only[List.cons_append,List.headD_cons,wp,hd]
  have hl:(ls k).length≤N:=nodup_le N _ (lk_nodup (f.get H.drop) hk) (lk_lt (f.get H.drop) hk)
  rw[e] at hl
  simp only[List.length_append,List.length_cons] at hl
  refine NEWSo u32E [x] H (cs:=#[.int .u32 x]) rfl rfl rfl fun t w H=>?_
  refine APPo (E:=u32E) H rfl (by decide) (by simp;omega) fun s' w H=>?_
  have H:=H.drop
  refine lk_nx (k:=k) (y:=(rest++[N+k]).headD 0) H hk (by omega) (fun L e1 e2 g=>by rw[←e1];exact g.nx_mid (by omega) e) ?_
  exact links_all_loop hk h rest (pre++[x]) s' w (by simp[e]) H
theorem k_links_all [f:Foc C (.b p) (lk p N M ls) u] (H:Own w.hp C) (hk:k<M) (h:∀v w',Own w'.hp (sle v u32E (ls k)::C)→R v w'):Call Pg 280 #[ptrV p,.int .i64 k] w R:=by
 refine c_280 ?_
 simp only[F_280]
 obtain⟨L,F,fv,lv,Ff,Fl,e1,e2,g,a⟩:=(f.get H).lk
 refine c_links_list a (by omega) ?_
 refine Os ?_
 refine c_links_ring a (by omega) ?_
 rw[e1]
 refine lk_nx (k:=k) (y:=(ls k++[N+k]).headD 0) H hk (by omega) (fun L e1 e2 g=>by rw[←e1];exact g.nx_ring (by omega)) ?_
 exact links_all_loop hk h (ls k) [] _ w rfl (sl_nil u32E H)
def itU (t:Nat) (s:Value) (xs:List Nat):HP:=.all [pt t [s],sle s u32E xs]
theorem k_links_All [f:Foc C (.b p) (lk p N M ls) u] (H:Own w.hp C) (hk:k<M) (h:∀t s w',Own w'.hp (itU t s (ls k)::C)→R (.func (.func 281) #[] #[ptrV t]) w'):Call Pg 227 #[ptrV p,.int .i64 k] w R:=by
 refine c_227 ?_
 simp only[F_227]
 have hl:(ls k).length≤N:=nodup_le N _ (lk_nodup (f.get H) hk) (lk_lt (f.get H) hk)
 have hfit:=lk_fits (f.get H)
 refine k_links_all H hk fun v w H=>?_
 have H:=sl_nil u32E H
 refine APPo (E:=u32E) (xs:=[]) (ys:=ls k) H rfl (by decide) (by simp;omega) fun s w H=>?_
 refine NEWo H fun t w H=>?_
 obtain⟨a1,a2,a3,rfl⟩:=sle_slice H.drop
 refine S1o H rfl rfl fun w H=>?_
 refine h t (.slice a1 a2 a3) w ?_
 have H:=own_all (L:=[pt t [.slice a1 a2 a3],sle (.slice a1 a2 a3) u32E (ls k)]).2 H
 exact(H.perm (.swap _ _ _)).drop
theorem iter_itU {t:Nat} {s:Value} {xs:List Nat} (hl:xs.length≤4194304):Iter Pg (itU t s xs) (.func (.func 281) #[] #[ptrV t]) (xs.map fun x=>[.int .u32 (x:Nat)]):=by
 refine⟨_,_,_,rfl,Tryz.calOk _ (by rfl),fun J S y w H hy=>?_⟩
 rw[show(#[]++#[y]++#[ptrV t]:Array Value)=#[y,ptrV t] from rfl]
 refine c_281 ?_
 simp only[F_281]
 have H1:=all2.1 H
 refine L1o H1 rfl ?_
 rw[leno (v:=s) (E:=u32E) (xs:=xs) H1]
 refine Os ?_
 have loop:∀(m i:Nat) (w:World),m+i=xs.length→Own w.hp [itU t s xs,J i]→B_281_1 (fun _ w'=>Own w'.hp [itU t s xs,J (xs.map fun x=>[Value.int .u32 (x:Nat)]).length]∨S w') y s (.int .i64 xs.length) (.int .i64 i) w:=by
  intro m
  induction m with
  |zero=>
   intro i w hm H
   refine B_281_1.intro ?_
   unfold P_281_1
   have hi:i=xs.length:=by omega
   subst hi
   have hd:decide ((xs.length:Int)<xs.length)=false:=by simp
   simp only[wp,hd]
   refine .inl ?_
   rw[List.length_map];exact H
  |succ m ih=>
   intro i w hm H
   refine B_281_1.intro ?_
   unfold P_281_1
   have hd:decide ((i:Int)<xs.length)=true:=by simp;omega
   simp only[wp,hd]
   have H1:=all2.1 H
   have hx:xs[i]?=some xs[i]:=List.getElem?_eq_getElem (by omega)
   refine idxo (E:=u32E) H1 (by omega) ?_
   refine L1e (E:=u32E) H1 hx rfl ?_
   refine(hy i [.int .u32 (xs[i]:Nat)] (by rw[List.getElem?_map,hx];rfl) w H).mono fun v w' hv=>?_
   rcases hv with ⟨rfl,H⟩ |⟨rfl,hs⟩
   ·refine Os ?_
    rw[i64_in _ (by omega)]
    exact ih (i+1) w' (by omega) H
   ·refine Os ?_
    exact .inr hs
 exact loop xs.length 0 w (by omega) H
end
end Go.Cub
namespace Go.Cub
open Go Go.Proofs Go.IntWalk
section
variable {R:Value→World→Prop} {w:World} {C:List HP} {p N N' M k n:Nat} {ls:Nat→List Nat} {s:Value}
attribute [local irreducible] PV CND GRD L1 LN S1 SN NEW NEWS MKS MKM LK MU DEL LENM APP CPY BTS Call CallV
theorem tbh_slice {h:Hp} {v:Value} {k n:Nat} {f:Nat→Nat→Value} (H:Own h (tbh v k n f::C)):∃a n c,v=.slice a n c:=by
 obtain⟨F,G,F1,F2,G1,G2,e1,e2,a,o,d⟩:=H
 rcases (show Sl _ _ _ _ _ _ from a.1).2 with ⟨rfl,_⟩ |⟨_,_,_,_,rfl,_⟩
 ·exact⟨_,_,_,rfl⟩
 ·exact⟨_,_,_,rfl⟩
theorem lk_congr {h:Hp} {ls':Nat→List Nat} (H:Own h (lk p N M ls::C)) (e:∀k,k<M→ls k=ls' k):Own h (lk p N M ls'::C):=by
 refine H.imp fun F G a=>⟨F,G,?_,fun b hb=>hb,fun b hb=>.inr hb⟩
 obtain⟨⟨L,fv,lv,Ff,Fl,rfl,rfl,g,al⟩,h5⟩:=a
 refine⟨⟨L,fv,lv,Ff,Fl,rfl,rfl,⟨?_,?_,g.ring,?_,?_,?_⟩,al⟩,h5⟩
 ·intro h hh;rw[←e h hh];exact g.chain h hh
 ·intro h hh;rw[←e h hh];exact g.of h hh
 ·intro h hh;rw[←e h hh];exact g.len h hh
 ·intro h hh;rw[←e h hh];exact g.nodup h hh
 ·intro x hx hox
  obtain⟨h,hh,hm⟩:=g.all x hx hox
  exact⟨h,hh,by rw[←e h hh];exact hm⟩
def cur (ls:Nat→List Nat) (h:Nat) (pre:List Nat):Nat→List Nat:=fun j=>if j<h then ls j else if j=h then pre else[]
theorem cur_upd (h:Nat) (pre:List Nat) (n:Nat):upd (cur ls h pre) h (cur ls h pre h++[n])=cur ls h (pre++[n]):=by
 funext j
 simp only[upd,cur]
 by_cases e:j=h
 ·subst e;simp
 ·simp[e]
theorem cur_next (h:Nat):cur ls h (ls h)=cur ls (h+1) []:=by
 funext j
 simp only[cur]
 by_cases e:j=h
 ·subst e;simp
 ·by_cases e2:j<h
  ·rw[if_pos e2,if_pos (by omega)]
  ·rw[if_neg e2,if_neg e,if_neg (by omega)];simp
abbrev rnS (q p N N' M:Nat) (ls l':Nat→List Nat) (s:Value) (C:List HP):List HP:=lk q N' M l'::lk p N M ls::sle s u32E (List.range N)::C
theorem rn_inner (hN:N≤N'∧N'≤4194304) {q h:Nat} (hh:h<M) {v:Value} (hk:∀w,Own w.hp (sle v u32E (ls h)::rnS q p N N' M ls (cur ls (h+1) []) s C)→B_339_7 R (ptrV p) s (ptrV q) (.int .i64 M) (.int .i64 (h+1:Nat)) w):
  ∀(m i:Nat) (w:World),m+i=(ls h).length→Own w.hp (sle v u32E (ls h)::rnS q p N N' M ls (cur ls h ((ls h).take i)) s C)→
  B_339_10 R (ptrV p) s (ptrV q) (.int .i64 h) (.int .i64 M) (.int .i64 h) v (.int .i64 (ls h).length) (.int .i64 i) w
 |0,i,w,hm,H=>by
  refine B_339_10.intro ?_
  unfold P_339_10
  have hi:i=(ls h).length:=by omega
  subst hi
  have hd:decide (((ls h).length:Int)<(ls h).length)=false:=by simp
  have hM:M≤4096:=(lk_fits H.drop).2.2.2
  simp only[wp,hd]
  rw[i64_in _ (by omega)]
  rw[List.take_length,cur_next] at H
  exact hk w H
 |m+1,i,w,hm,H=>by
  refine B_339_10.intro ?_
  unfold P_339_10
  have hd:decide ((i:Int)<(ls h).length)=true:=by simp;omega
  simp only[wp,hd]
  have hx:(ls h)[i]?=some (ls h)[i]:=List.getElem?_eq_getElem (by omega)
  have hmem:(ls h)[i]∈ls h:=List.getElem_mem _
  have Ho:=H.drop.drop
  have hlt:=lk_lt Ho hh _ hmem
  have hnd:=lk_nodup Ho hh
  have hlen:=nodup_le N _ hnd (lk_lt Ho hh)
  refine idxo (E:=u32E) H (by omega) ?_
  refine L1e (E:=u32E) H hx rfl ?_
  refine idxo (E:=u32E) (xs:=List.range N) H (by simp;exact hlt) ?_
  refine L1e (E:=u32E) (xs:=List.range N) H (List.getElem?_range hlt) rfl ?_
  refine k_links_Back H hh (by omega) ?_ fun w H=>?_
  ·intro j hj hm'
   simp only[cur] at hm'
   split at hm'
   ·have :=lk_one Ho hh hj hmem hm';omega
   ·split at hm'
    ·rename_i e
     subst e
     have e:ls j=(ls j).take i++(ls j)[i]::(ls j).drop (i+1):=by
      rw[←List.drop_eq_getElem_cons (by omega),List.take_append_drop]
     rw[e] at hnd
     exact(List.nodup_append.1 hnd).2.2 _ hm' _ List.mem_cons_self rfl
    ·simp at hm'
  ·refine Os ?_
   rw[cur_upd,show(ls h).take i++[(ls h)[i]]=(ls h).take (i+1) by rw[List.take_add_one];simp[hx]] at H
   rw[i64_in _ (by omega)]
   exact rn_inner hN hh hk m (i+1) w (by omega) H
theorem rn_outer (hN:N≤N'∧N'≤4194304) {q:Nat} (hk:∀w,Own w.hp (lk p N' M ls::C)→R (.int .i64 0) w):
  ∀(m h:Nat) (w:World),m+h=M→Own w.hp (rnS q p N N' M ls (cur ls h []) s C)→B_339_7 R (ptrV p) s (ptrV q) (.int .i64 M) (.int .i64 h) w
 |0,h,w,hm,H=>by
  refine B_339_7.intro ?_
  unfold P_339_7
  have hi:h=M:=by omega
  subst hi
  have hd:decide ((h:Int)<h)=false:=by simp
  simp only[wp,hd]
  have H:=lk_congr (ls':=ls) H fun k hk=>by simp[cur,hk]
  obtain⟨L,fv,lv,e1,e2,g,hf,H⟩:=lk_open H
  obtain⟨L',fv',lv',e1',e2',g',hf',H⟩:=lk_open H.mv3
  refine LNo H (by simp) ?_
  obtain⟨a1,a2,a3,rfl⟩:=tbh_slice H.mv4
  obtain⟨b1,b2,b3,rfl⟩:=tbh_slice H.mv5
  refine SNo H rfl (by simp) (by simp[Value.oneCell']) fun w H=>?_
  exact hk w (lk_close (L:=L) (H.dp1.dp1.dp1.dp3) e1 e2 g hf)
 |m+1,h,w,hm,H=>by
  refine B_339_7.intro ?_
  unfold P_339_7
  have hd:decide ((h:Int)<M)=true:=by simp;omega
  simp only[wp,hd]
  refine k_links_all (f:=Foc.tail) H (by omega) fun v w H=>?_
  rw[leno (E:=u32E) (xs:=ls h) H]
  refine Os ?_
  exact rn_inner hN (by omega) (fun w H=>rn_outer hN hk m (h+1) w (by omega) H.drop) (ls h).length 0 w (by omega) (by simpa using H)
theorem k_links_Renumber (H:Own w.hp (lk p N M ls::sle s u32E (List.range N)::C)) (hN:N≤N'∧N'≤4194304) (hk:∀w,Own w.hp (lk p N' M ls::C)→R (.int .i64 0) w):Call Pg 339 #[ptrV p,s,.int .i64 N'] w R:=by
 refine c_339 ?_
 simp only[F_339]
 obtain⟨L,F,fv,lv,Ff,Fl,e1,e2,g,a⟩:=H.lk
 have hfit:=lk_fits H
 refine c_links_none a ?_
 refine Os ?_
 refine L1_of a.row rfl ?_
 rw[a.lens.len,e2]
 refine Os ?_
 refine k_links_New H ⟨by omega,hN.2⟩ hfit.2.2 fun q w H=>?_
 obtain⟨L,F,fv,lv,Ff,Fl,e1,e2,g,a⟩:=H.drop.lk
 refine Os ?_
 rw[leno (E:=u32E) (xs:=List.range N) H,List.length_range]
 refine Os ?_
 refine L1_of a.row rfl ?_
 have hd:decide (¬(N:Int)=(L.nodes:Nat))=false:=by simp[e1]
 simp only[wp,hd]
 refine L1_of a.row rfl ?_
 rw[a.lens.len,e2]
 refine Os ?_
 refine rn_outer hN hk M 0 w (by omega) (lk_congr H fun k hk=>?_)
 simp[cur]
end
end Go.Cub
namespace Go.Cub
open Go Go.Proofs Go.IntWalk
def lru (p:Nat) (l:List Nat):HP:=.ex fun q=>.ex fun N=>.all [pt p [ptrV q],lk q N 1 fun _=>l]
instance {p:Nat} {l:List Nat}:Keyed (lru p l) (.b p):=⟨⟩
section
variable {R:Value→World→Prop} {w:World} {C:List HP} {u:HP→List HP} {p q N n:Nat} {l:List Nat} {s:Value}
attribute [local irreducible] PV CND GRD L1 LN S1 SN NEW NEWS MKS MKM LK MU DEL LENM APP CPY BTS Call CallV
theorem lru_iff {h:Hp}:Own h (lru p l::C)↔∃q N,Own h (pt p [ptrV q]::lk q N 1 (fun _=>l)::C):=by
 simp only[lru,own_ex,all2]
theorem lk_one1 {h:Hp} {ls:Nat→List Nat} (H:Own h (lk q N 1 ls::C)) (e:ls 0=l):Own h (lk q N 1 (fun _=>l)::C):=
 lk_congr H fun k hk=>by rw[←e,show k=0 by omega]
theorem c_lru_check [f:Foc C (.b p) (pt p [ptrV q]) u] (H:Own w.hp C) (hn:n<4194304) (h:R (.int .i64 0) w):Call Pg 225 #[ptrV p,.int .u32 n] w R:=by
 refine c_225 ?_
 simp only[F_225]
 (repeat first |refine L1o H rfl ?_ |refine Oc ?_)
 exact h
theorem c_lru_Has [f:Foc C (.b p) (pt p [ptrV q]) u] {u2:HP→List HP} [g:Foc C (.b q) (lk q N 1 fun _=>l) u2] (H:Own w.hp C) (hn:n<4194304) (h:R (.bool (decide (n∈l))) w):Call Pg 229 #[ptrV p,.int .u32 n] w R:=by
 refine c_229 ?_
 simp only[F_229]
 refine c_lru_check H hn ?_
 (repeat first |refine L1o H rfl ?_ |refine Oc ?_)
 by_cases hm:n∈l
 ·refine k_links_Of (k:=0) H (by decide) hm ?_
  (repeat first |refine L1o H rfl ?_ |refine Oc ?_)
  simpa[hm] using h
 ·refine k_links_Of_none H (fun k hk=>hm) hn fun e he=>?_
  (repeat first |refine L1o H rfl ?_ |refine Oc ?_)
  simpa[hm] using h
theorem k_lru_Has [f:Foc C (.b p) (lru p l) u] (H:Own w.hp C) (hn:n<4194304) (h:R (.bool (decide (n∈l))) w):Call Pg 229 #[ptrV p,.int .u32 n] w R:=by
 obtain⟨q,N,H⟩:=lru_iff.1 (f.get H)
 exact c_lru_Has H hn h
theorem c_lru_same (H:Own w.hp C) (hn:n≤4194304) (h:∀v w',Own w'.hp (sle v u32E (List.range n)::C)→R v w'):Call Pg 340 #[.int .i64 n] w R:=by
 refine c_340 ?_
 simp only[F_340]
 refine MKSo u32E 0 H rfl (Nat.le_refl _) (by omega) (by decide) fun v w H=>?_
 rw[leno (E:=u32E) (xs:=List.replicate n 0) H,List.length_replicate]
 refine Os ?_
 have loop:∀(m i:Nat) (w:World),m+i=n→Own w.hp (sle v u32E (List.range i++List.replicate m 0)::C)→B_340_3 R v (.int .i64 n) (.int .i64 i) w:=by
  intro m
  induction m with
  |zero=>
   intro i w hm H
   refine B_340_3.intro ?_
   simp only[P_340_3]
   (repeat first |refine L1o H rfl ?_ |refine Oc ?_)
   rw[show i=n by omega] at H
   exact h v w (by simpa using H)
  |succ m ih=>
   intro i w hm H
   refine B_340_3.intro ?_
   simp only[P_340_3]
   (repeat first |refine L1o H rfl ?_ |refine Oc ?_)
   refine idxo (E:=u32E) H (by simp <;>omega) ?_
   refine S1e (E:=u32E) i H (y:=0) (by simp[List.getElem?_append,List.replicate_succ]) (by decide) rfl rfl fun w H=>?_
   have e:(List.range i++List.replicate (m+1) 0).set i i=List.range (i+1)++List.replicate m 0:=by
    rw[List.set_append_right _ _ (by simp),List.length_range,Nat.sub_self,List.replicate_succ,List.set_cons_zero,List.range_succ]
    simp
   rw[e] at H
   exact ih (i+1) w (by omega) H
 exact loop n 0 w (by omega) (by simpa using H)
theorem roomI (n N:Nat):(if (if (n:Int)+1>2 * N then(n:Int)+1 else 2 * N)<4194304 then(if (n:Int)+1>2 * N then(n:Int)+1 else 2 * N) else 4194304)=((min 4194304 (max (2 * N) (n+1)):Nat):Int):=by
 split<;>split<;>omega
theorem c_lru_room (H:Own w.hp (pt p [ptrV q]::lk q N 1 (fun _=>l)::C)) (hn:n<4194304) (h:∀N' w',n<N'→Own w'.hp (pt p [ptrV q]::lk q N' 1 (fun _=>l)::C)→R (.tuple #[]) w'):Call Pg 303 #[ptrV p,.int .u32 n] w R:=by
 have hfit:=lk_fits H.drop
 refine c_303 ?_
 simp only[F_303]
 (repeat first |refine L1o H rfl ?_ |refine Oc ?_)
 refine k_links_Nodes H ?_
 (repeat first |refine L1o H rfl ?_ |refine Oc ?_)
 refine CND_dec (fun hd=>?_) (fun hd=>?_)
 ·(repeat first |refine L1o H rfl ?_ |refine Oc ?_)
  refine c_lru_same (w:=w.drew) H hfit.2.1 fun s w H=>?_
  (repeat first |refine L1o H rfl ?_ |refine Oc ?_)
  refine⟨L1o H rfl rfl,?_⟩
  rw[roomI]
  refine k_links_Renumber (N':=min 4194304 (max (2 * N) (n+1))) H.mv2 ⟨by omega,by omega⟩ fun w H=>?_
  exact h (min 4194304 (max (2 * N) (n+1))) w (by omega) H.mv1
 ·exact h N w (by omega) H
theorem k_lru_Add [f:Foc C (.b p) (lru p l) u] (H:Own w.hp C) (hn:n<4194304) (hm:n∉l) (h:∀w',Own w'.hp (u (lru p (l++[n])))→R (.int .i64 0) w'):Call Pg 247 #[ptrV p,.int .u32 n] w R:=by
 obtain⟨q,N,H⟩:=lru_iff.1 (f.get H)
 refine c_247 ?_
 simp only[F_247]
 refine c_lru_check H hn ?_
 (repeat first |refine L1o H rfl ?_ |refine Oc ?_)
 refine c_lru_room H hn fun N' w hN H=>?_
 (repeat first |refine L1o H rfl ?_ |refine Oc ?_)
 refine k_links_Back H (k:=0) (by decide) hN (fun k hk=>hm) fun w H=>?_
 exact h w (f.put (lru_iff.2 ⟨q,N',(lk_one1 H.mv1 (by simp[upd])).mv1⟩))
theorem k_lru_Remove [f:Foc C (.b p) (lru p l) u] (H:Own w.hp C) (hn:n<4194304) (hm:n∈l) (h:∀w',Own w'.hp (u (lru p (l.erase n)))→R (.int .i64 0) w'):Call Pg 230 #[ptrV p,.int .u32 n] w R:=by
 obtain⟨q,N,H⟩:=lru_iff.1 (f.get H)
 refine c_230 ?_
 simp only[F_230]
 refine c_lru_check H hn ?_
 (repeat first |refine L1o H rfl ?_ |refine Oc ?_)
 refine c_lru_Has H hn ?_
 simp only[hm]
 (repeat first |refine L1o H rfl ?_ |refine Oc ?_)
 refine k_links_Remove H (k:=0) (by decide) hm fun w H=>?_
 exact h w (f.put (lru_iff.2 ⟨q,N,(lk_one1 H.mv1 (by simp[upd])).mv1⟩))
theorem k_lru_Len [f:Foc C (.b p) (lru p l) u] (H:Own w.hp C) (h:R (.int .i64 l.length) w):Call Pg 182 #[ptrV p] w R:=by
 obtain⟨q,N,H⟩:=lru_iff.1 (f.get H)
 refine c_182 ?_
 simp only[F_182]
 refine c_lru_check (n:=0) H (by decide) ?_
 (repeat first |refine L1o H rfl ?_ |refine Oc ?_)
 exact k_links_Len (k:=0) H (by decide) h
theorem lru_facts [f:Foc C (.b p) (lru p l) u] {h:Hp} (H:Own h C):l.Nodup∧(∀x∈l,x<4194304)∧l.length≤4194304:=by
 obtain⟨q,N,H⟩:=lru_iff.1 (f.get H)
 have hf:=lk_fits (w:=wh h) H.drop
 have h1:=lk_nodup (w:=wh h) (k:=0) H.drop (by decide)
 have h2:=lk_lt (w:=wh h) (k:=0) H.drop (by decide)
 have h3:=nodup_le N l h1 h2
 exact⟨h1,fun x hx=>by have :=h2 x hx;omega,by omega⟩
theorem k_lru_All [f:Foc C (.b p) (lru p l) u] (H:Own w.hp C) (h:∀t s w',Own w'.hp (itU t s l::u (lru p l))→R (.func (.func 281) #[] #[ptrV t]) w'):Call Pg 163 #[ptrV p] w R:=by
 obtain⟨q,N,H⟩:=lru_iff.1 (f.get H)
 refine c_163 ?_
 simp only[F_163]
 refine c_lru_check (n:=0) H (by decide) ?_
 (repeat first |refine L1o H rfl ?_ |refine Oc ?_)
 refine k_links_All (k:=0) H (by decide) fun t s w H=>?_
 refine h t s w ?_
 exact f.put1 (lru_iff.2 ⟨q,N,H.bk2⟩).bk1
theorem k_lru_New (H:Own w.hp C) (h:∀p w',Own w'.hp (lru p []::C)→R (ptrV p) w'):Call Pg 138 #[] w R:=by
 refine c_138 ?_
 simp only[F_138]
 refine k_links_New (N:=8) (M:=1) H (by decide) (by decide) fun q w H=>?_
 (repeat first |refine L1o H rfl ?_ |refine Oc ?_)
 refine PV_of (v:=.agg #[ptrV q]) rfl ?_
 refine NEWo H fun p w H=>?_
 exact h p w (lru_iff.2 ⟨q,8,H⟩)
end
end Go.Cub
