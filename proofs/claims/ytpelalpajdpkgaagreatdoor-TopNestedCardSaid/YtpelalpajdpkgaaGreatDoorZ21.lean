/-
  Part 22 of the proof that TopNested returns true and leaves what it was given as it was. CONDITIONS: those of the given row and card.
-/
import Derived.Test.YtpelalpajdpkgaaGreatDoorZ20
set_option linter.all false
namespace Go.Cub
open Go Go.Proofs Go.IntWalk
theorem Own.ex {w w':World} {C:List HP} (H:Own w.hp C) (he:Ext w w'):Own w'.hp C:=H.ext (fun b hb=>he.same b hb (by simp)) he.he
abbrev SV:=Option Addr×Nat×Nat
def svV (x:SV):Value:=.slice x.1 x.2.1 x.2.2
def sv0:SV:=(none,0,0)
theorem svV_cells (x:SV):(svV x).cells=#[svV x]:=rfl
theorem imm_sv {h:Hp} {v:Value} {bs:List UInt8} {C:List HP} (H:Own h (imm v bs::C)):∃x:SV,v=svV x:=by
 obtain⟨F,G,F1,F2,G1,G2,e1,e2,a,o,d⟩:=H
 rcases (show Bs _ _ _ _ from a.1) with ⟨⟨_,_,rfl,_⟩,_⟩ |⟨_,_,_,_,rfl,_⟩
 ·exact⟨(_,_,_),rfl⟩
 ·exact⟨(_,_,_),rfl⟩
def imL (xs:List (SV×List UInt8)):HP:=⟨fun h F G=>F=[]∧(∀b∈G,b<h.o.size)∧∀x∈xs,∃G',(∀b∈G',b∈G)∧Bs (wh h) (svV x.1) x.2 G',
 fun a hk _=>by
  obtain⟨h1,h2,h3⟩:=a
  refine⟨h1,fun b hb=>?_,fun x hx=>?_⟩
  ·have e:=hk b (.inr hb)
   rw[Array.getElem?_eq_getElem (h2 b hb)] at e
   exact lt_of_some e
  ·obtain⟨G',a,b⟩:=h3 x hx
   exact⟨G',a,Bs.keepG b fun c hc=>hk c (.inr (a c hc))⟩,
 fun⟨h1,h2,h3⟩ b hb=>by
  subst h1;simp at hb;exact h2 b hb,
 fun⟨h1,_⟩ b hb=>by subst h1;simp at hb⟩
section
variable {h:Hp} {C:List HP} {xs ys:List (SV×List UInt8)} {x:SV×List UInt8}
theorem imL_nil (H:Own h C):Own h (imL []::C):=H.new (fun _ _=>rfl) rfl (F':=[]) ⟨rfl,by simp,by simp⟩ (by simp)
theorem imL_mono (H:Own h (imL xs::C)) (hs:∀x∈ys,x∈xs):Own h (imL ys::C):=
 H.imp fun F G a=>⟨F,G,⟨a.1,a.2.1,fun x hx=>a.2.2 x (hs x hx)⟩,fun b hb=>hb,fun b hb=>.inr hb⟩
theorem imL_dup (H:Own h (imL xs::C)):Own h (imL xs::imL xs::C):=
 H.dup fun F G a=>⟨G,⟨rfl,a.2.1,a.2.2⟩,fun _ h=>h⟩
theorem imL_get (H:Own h (imL xs::C)) (hx:x∈xs):Own h (imm (svV x.1) x.2::imL xs::C):=
 H.dup fun F G a=>by
  obtain⟨G',h1,h2⟩:=a.2.2 x hx
  exact⟨G',⟨h2,rfl⟩,h1⟩
theorem imL_join (H:Own h (imL xs::imL ys::C)):Own h (imL (xs++ys)::C):=by
 have H:=all2.2 H
 refine H.imp fun F G a=>?_
 obtain⟨F1,F2,G1,G2,rfl,rfl,a1,⟨F3,F4,G3,G4,rfl,rfl,a2,⟨rfl,rfl⟩,_⟩,_⟩:=a
 refine⟨[],G1++(G3++[]),⟨rfl,?_,?_⟩,by simp,fun b hb=>.inr hb⟩
 ·intro b hb
  simp only[List.append_nil,List.mem_append] at hb
  rcases hb with hb |hb
  ·exact a1.2.1 b hb
  ·exact a2.2.1 b hb
 ·intro x hx
  rcases List.mem_append.1 hx with hx |hx
  ·obtain⟨G',h1,h2⟩:=a1.2.2 x hx
   exact⟨G',fun b hb=>by simp[h1 b hb],h2⟩
  ·obtain⟨G',h1,h2⟩:=a2.2.2 x hx
   exact⟨G',fun b hb=>by simp[h1 b hb],h2⟩
theorem imL_one {v:SV} {bs:List UInt8} (H:Own h (imm (svV v) bs::C)):Own h (imL [(v,bs)]::C):=
 H.imp fun F G a=>⟨[],G,⟨rfl,fun b hb=>a.1.lt b hb,fun x hx=>by
  simp at hx;subst hx
  exact⟨G,fun b hb=>hb,a.1⟩⟩,by simp,fun b hb=>.inr hb⟩
theorem imL_add {v:SV} {bs:List UInt8} (H:Own h (imm (svV v) bs::imL xs::C)):Own h (imL ((v,bs)::xs)::C):=imL_join (imL_one H)
end
def entV (e:Ent) (v:SV):Value:=.agg #[.string e.key,svV v,.int .u64 e.dl,.int .u64 e.birth]
section
variable {R:Value→World→Prop} {w:World} {C:List HP} {u:HP→List HP} {v:SV} {bs:List UInt8} {e:Ent}
attribute [local irreducible] PV CND GRD L1 LN S1 SN NEW NEWS MKS MKM LK MU DEL LENM APP CPY BTS Call CallV
theorem k_bytes_Clone [f:Foc C (.v (svV v)) (imm (svV v) bs) u] (H:Own w.hp C) (hl:bs.length≤68719476736) (h:∀(v':SV) w',Own w'.hp (imm (svV v') bs::C)→R (svV v') w'):Call Pg 19 #[svV v] w R:=by
 obtain⟨G,s⟩:=(f.get H).im
 refine c_bytes_Clone s hl fun v' w' F' s' he hF=>?_
 have H':Own w'.hp (sle v' u8E bs::C):=H.modNew he (F':=F') ⟨by rw[u8E_fl];exact s',rfl⟩ hF
 have H':Own w'.hp (imm v' bs::C):=freeze (f:=Foc.head) H'
 obtain⟨x,rfl⟩:=imm_sv H'
 exact h x w' H'
theorem k_entry_Copy [f:Foc C (.v (svV v)) (imm (svV v) e.val) u] (H:Own w.hp C) (hl:e.val.length≤68719476736) (h:∀(v':SV) w',Own w'.hp (imm (svV v') e.val::C)→R (entV e v') w'):Call Pg 136 #[entV e v] w R:=by
 refine c_136 ?_
 simp only[F_136,entV]
 refine NEWo H fun t1 w H=>?_
 refine NEWo H fun t2 w H=>?_
 (repeat first |refine L1o H rfl ?_ |refine Oc ?_)
 refine k_bytes_Clone (v:=v) H hl fun v' w H=>?_
 refine Ob ?_
 refine S1o H rfl rfl fun w H=>?_
 refine LNo H (by simp) ?_
 refine SNo H rfl (by simp) (by simp[svV,Value.oneCell']) fun w H=>?_
 refine LNo H (by simp[splice]) ?_
 exact h v' w H.dp1.dp1
theorem k_entry_New [f:Foc C (.v (svV v)) (imm (svV v) e.val) u] (H:Own w.hp C) (hk:0<e.key.size∧e.key.size≤250) (hl:e.val.length≤65536) (hb:e.birth≠0) (h:∀(v':SV) w',Own w'.hp (imm (svV v') e.val::C)→R (.tuple #[entV e v',.int .i64 0]) w'):
  Call Pg 261 #[.string e.key,svV v,.int .u64 e.dl,.int .u64 e.birth] w R:=by
 refine c_261 ?_
 simp only[F_261]
 have hv:lenS (svV v)=some (.int .i64 e.val.length):=imlen H
 refine NEWo H fun t8 w H=>?_
 refine c_entry_check hv fun w he=>?_
 have H:=H.ex he
 have hz:chkE e.key e.val.length e.birth=0:=by
  unfold chkE
  rw[if_neg (by omega),if_neg (by omega)]
 rw[hz]
 refine Ob ?_
 refine PV_of (v:=entV e v) rfl ?_
 refine k_entry_Copy (e:=e) (v:=v) H (by omega) fun v' w H=>?_
 refine SNo H rfl (by simp) (by simp[entV,svV,Value.oneCell']) fun w H=>?_
 refine LNo H (by simp[splice,entV,svV]) ?_
 exact h v' w H.dp1
end
end Go.Cub
namespace Go.Cub
open Go Go.Proofs Go.IntWalk
structure Evt where
 kind:Nat
 ent:Ent
 at_:Nat
 v:SV
def evC (x:Evt):List Value:=[.int .i64 x.kind,.string x.ent.key,svV x.v,.int .u64 x.ent.birth,.int .u64 x.ent.dl,.int .u64 x.at_]
def evE:Enc Evt:=⟨6,evC,fun _=>rfl,fun x v h=>by simp[evC] at h;rcases h with rfl |rfl |rfl |rfl |rfl |rfl<;>rfl⟩
def evB (x:Evt):SV×List UInt8:=(x.v,x.ent.val)
def hdP (t:Value):List Nat→Value
 |[]=>t
 |p::_=>ptrV p
def evN (t:Value):List Nat→List Evt→List HP
 |p::ps,x::xs=>pt p (evC x++[hdP t ps])::evN t ps xs
 |_,_=>[]
theorem evN_append (t:Value):∀(ps:List Nat) (xs:List Evt) (qs:List Nat) (ys:List Evt),ps.length=xs.length→evN t (ps++qs) (xs++ys)=evN (hdP t qs) ps xs++evN t qs ys
 |[],[],qs,ys,_=>rfl
 |p::ps,x::xs,qs,ys,h=>by
  have ih:=evN_append t ps xs qs ys (by simpa using h)
  simp only[List.cons_append,evN,ih]
  congr 2
  cases ps with
  |nil=>cases qs<;>rfl
  |cons p' ps=>rfl
def nilP:Value:=.pointer none
def lastP (ps:List Nat):Value:=match ps.getLast? with
 |some p=>ptrV p
 |none=>nilP
def ecells (f l:Value) (k:Nat→Int) (n:Int):List Value:=[f,l,.int .u64 (k 0),.int .u64 (k 1),.int .u64 (k 2),.int .u64 (k 3),.int .u64 (k 4),.int .u64 (k 5),.int .i64 n,.bool true]
def evs (p:Nat) (xs:List Evt):HP:=.ex fun ps=>.ex fun k=>.all [.pu (ps.length=xs.length∧xs.length≤1048576),pt p (ecells (hdP nilP ps) (lastP ps) k xs.length),.all (evN nilP ps xs),imL (xs.map evB)]
instance {p:Nat} {xs:List Evt}:Keyed (evs p xs) (.b p):=⟨⟩
theorem all0 {h:Hp} {M:List HP}:Own h (.all []::M)↔Own h M:=own_all
section
variable {R:Value→World→Prop} {w:World} {C:List HP} {u:HP→List HP} {p:Nat} {xs:List Evt} {k:Nat→Int} {f l:Value} {n:Int}
attribute [local irreducible] PV CND GRD L1 LN S1 SN NEW NEWS MKS MKM LK MU DEL LENM APP CPY BTS Call CallV
theorem evs_iff {h:Hp}:Own h (evs p xs::C)↔∃ps k,(ps.length=xs.length∧xs.length≤1048576)∧Own h (pt p (ecells (hdP nilP ps) (lastP ps) k xs.length):: .all (evN nilP ps xs)::imL (xs.map evB)::C):=by
 simp only[evs,own_ex,all4,own_pu]
theorem c_ev_none [fc:Foc C (.b p) (pt p (ecells f l k n)) u] (H:Own w.hp C) (h:R (.bool false) w):Call Pg 91 #[ptrV p] w R:=by
 refine c_91 ?_
 simp only[F_91]
 (repeat first |refine L1o H rfl ?_ |refine Oc ?_)
 exact h
theorem k_ev_Len [fc:Foc C (.b p) (evs p xs) u] (H:Own w.hp C) (h:R (.int .i64 xs.length) w):Call Pg 44 #[ptrV p] w R:=by
 obtain⟨ps,k,hl,H⟩:=evs_iff.1 (fc.get H)
 refine c_44 ?_
 simp only[F_44]
 refine c_ev_none H ?_
 (repeat first |refine L1o H rfl ?_ |refine Oc ?_)
 exact h
theorem k_ev_New (H:Own w.hp C) (h:∀p w',Own w'.hp (evs p []::C)→R (ptrV p) w'):Call Pg 79 #[] w R:=by
 refine c_79 ?_
 simp only[F_79]
 refine PV_of (v:=.agg (ecells nilP nilP (fun _=>0) 0).toArray) rfl ?_
 refine NEWo H fun p w H=>?_
 refine h p w (evs_iff.2 ⟨[],fun _=>0,⟨rfl,by simp⟩,?_⟩)
 exact(all0.2 (imL_nil H)).bk2.mv2.mv2
def EvOk (x:Evt):Prop:=1≤x.kind∧x.kind≤5∧0<x.ent.key.size∧x.ent.key.size≤250∧x.ent.val.length≤65536∧x.ent.birth≠0∧dueT x.ent.dl x.at_=decide (x.kind=1)
theorem binB_bool (a b:Bool):binB .bool .eql (.bool a) (.bool b)=some (.bool (decide (a=b))):=rfl
theorem c_ev_Valid {x:Evt} [fi:Foc C (.v (svV x.v)) (imm (svV x.v) x.ent.val) u] (H:Own w.hp C) (hx:EvOk x) (h:∀w',Own w'.hp C→R (.bool true) w'):Call Pg 241 #[.agg (evC x).toArray] w R:=by
 obtain⟨h1,h2,h3,h4,h5,h6,h7⟩:=hx
 have hv:lenS (svV x.v)=some (.int .i64 x.ent.val.length):=imlen H
 have hz:chkE x.ent.key x.ent.val.length x.ent.birth=0:=by
  unfold chkE
  rw[if_neg (by omega),if_neg (by omega)]
 refine c_241 ?_
 simp only[F_241,evC]
 refine NEWo H fun t1 w H=>?_
 (repeat first |refine L1o H rfl ?_ |refine Oc ?_)
 refine c_298 ?_
 simp only[F_298]
 refine Ob ?_
 refine LNo H (by simp) ?_
 refine c_300 ?_
 simp only[F_300]
 refine NEWo (w:=w.drew) H fun t2 w H=>?_
 refine NEWo H fun t3 w H=>?_
 (repeat first |refine L1o H rfl ?_ |refine Oc ?_)
 refine PV_of (v:=entV x.ent x.v) rfl ?_
 refine SNo H rfl (by simp) (by simp[entV,svV,Value.oneCell']) fun w H=>?_
 refine LNo H (by simp[splice,entV]) ?_
 refine c_299 ?_
 simp only[F_299]
 refine NEWo H fun t4 w H=>?_
 (repeat first |refine L1o H rfl ?_ |refine Oc ?_)
 refine c_entry_check hv fun w he=>?_
 have H:=H.ex he
 rw[hz]
 (repeat first |refine L1o H rfl ?_ |refine Oc ?_)
 refine c_tick_Due ?_
 refine Ob ?_
 refine⟨L1o H rfl rfl,?_⟩
 rw[binB_bool,h7]
 have e:decide (((x.kind:Nat):Int)=1)=decide (x.kind=1):=by congr 1;apply propext;omega
 rw[e]
 refine Ob ?_
 exact h w H.drop.drop.drop.drop
theorem c_ev_own {x:Evt} [fi:Foc C (.v (svV x.v)) (imm (svV x.v) x.ent.val) u] (H:Own w.hp C) (hl:x.ent.val.length≤65536) (h:∀v' w',Own w'.hp (imm (svV v') x.ent.val::C)→R (.agg (evC {x with v:=v'}).toArray) w'):Call Pg 243 #[.agg (evC x).toArray] w R:=by
 refine c_243 ?_
 simp only[F_243,evC]
 refine NEWo H fun t1 w H=>?_
 refine NEWo H fun t2 w H=>?_
 (repeat first |refine L1o H rfl ?_ |refine Oc ?_)
 refine k_bytes_Clone (v:=x.v) H (by omega) fun v' w H=>?_
 refine Ob ?_
 refine S1o H rfl rfl fun w H=>?_
 refine LNo H (by simp) ?_
 refine SNo H rfl (by simp) (by simp[svV,Value.oneCell']) fun w H=>?_
 refine LNo H (by simp[splice]) ?_
 exact h v' w H.dp1.dp1
theorem ev_count {x:Evt} {t3:Nat} {L:List HP} (hk:1≤x.kind∧x.kind≤5) (hn:0≤n∧n≤1048576) (H:Own w.hp (pt t3 (evC x)::pt p (ecells f l k n)::L)) (h:∀k' w',Own w'.hp (pt t3 (evC x)::pt p (ecells f l k' (n+1))::L)→R (.int .i64 0) w'):
  PV (fldV 0 (ptrV t3)) fun t24=>
   L1 t24 (World.drew w) fun t25=>
   PV (nilV (ptrV p)) fun t26=>
   PV (fldV 2 t26) fun t27=>
   PV (fldV 0 t27) fun t28=>
   PV (idxA 6 1 t28 t25) fun t29=>
   L1 t29 (World.drew w) fun t30=>
   PV (binN .add t30 (.int .u64 1)) fun t31=>
   PV (nilV (ptrV p)) fun t32=>
   PV (fldV 2 t32) fun t33=>
   PV (fldV 0 t33) fun t34=>
   PV (idxA 6 1 t34 t25) fun t35=>
   S1 t35 t31 (World.drew w) fun w_6=>
   PV (nilV (ptrV p)) fun t37=>
   PV (fldV 2 t37) fun t38=>
   PV (fldV 6 t38) fun t39=>
   L1 t39 w_6 fun t40=>
   PV (binN .add t40 (.int .i64 1)) fun t41=>
   PV (nilV (ptrV p)) fun t42=>
   PV (fldV 2 t42) fun t43=>
   PV (fldV 6 t43) fun t44=>
   S1 t44 t41 w_6 fun w_7=>
   R (.int .i64 0) w_7:=by
 have hk6:x.kind=1∨x.kind=2∨x.kind=3∨x.kind=4∨x.kind=5:=by omega
 refine Ob ?_
 refine L1o H rfl ?_
 refine Ob ?_
 rw[Nat.mul_one]
 rcases hk6 with e |e |e |e |e
 all_goals
  rw[e]
  refine L1o H rfl ?_
  refine Ob ?_
  refine S1o (w:=w.drew) H rfl rfl fun w H=>?_
  (repeat first |refine L1o H rfl ?_ |refine Oc ?_)
  refine S1o H rfl rfl fun w H=>?_
 ·exact h (fun i=>if i=1 then IntKind.u64.wrap (k 1+1) else k i) w H
 ·exact h (fun i=>if i=2 then IntKind.u64.wrap (k 2+1) else k i) w H
 ·exact h (fun i=>if i=3 then IntKind.u64.wrap (k 3+1) else k i) w H
 ·exact h (fun i=>if i=4 then IntKind.u64.wrap (k 4+1) else k i) w H
 ·exact h (fun i=>if i=5 then IntKind.u64.wrap (k 5+1) else k i) w H
end
end Go.Cub
namespace Go.Cub
open Go Go.Proofs Go.IntWalk
section
variable {R:Value→World→Prop} {w:World} {C:List HP} {u:HP→List HP} {p:Nat} {xs:List Evt} {k:Nat→Int} {f l:Value} {n:Int}
attribute [local irreducible] PV CND GRD L1 LN S1 SN NEW NEWS MKS MKM LK MU DEL LENM APP CPY BTS Call CallV
theorem all_app {h:Hp} {M L1 L2:List HP}:Own h (.all (L1++L2)::M)↔Own h (.all L1:: .all L2::M):=by
 rw[own_all,own_all,List.append_assoc]
 constructor
 ·intro H
  have H:Own h (L2++(L1++M)):=H.perm (by rw[←List.append_assoc, ←List.append_assoc];exact List.perm_append_comm.append_right M)
  have H:=own_all.2 H
  exact H.perm (by exact List.perm_middle.symm)
 ·intro H
  have H:Own h (.all L2::(L1++M)):=H.perm (by exact List.perm_middle)
  have H:=own_all.1 H
  exact H.perm (by rw[←List.append_assoc, ←List.append_assoc];exact List.perm_append_comm.append_right M)
theorem lastP_snoc (ps:List Nat) (q:Nat):lastP (ps++[q])=ptrV q:=by simp[lastP]
def evP (p:Nat) (k:Nat→Int) (n:Int) (xs:List Evt):HP:=.ex fun ps=>.all [.pu (ps.length=xs.length),pt p (ecells (hdP nilP ps) (lastP ps) k n),.all (evN nilP ps xs)]
theorem evP_iff {h:Hp}:Own h (evP p k n xs::C)↔∃ps:List Nat,(ps.length=xs.length)∧Own h (pt p (ecells (hdP nilP ps) (lastP ps) k n):: .all (evN nilP ps xs)::C):=by
 simp only[evP,own_ex,all3,own_pu]
theorem c_ev_add {x:Evt} (H:Own w.hp (evP p k n xs::C)) (h:∀w',Own w'.hp (evP p k n (xs++[x])::C)→R (.tuple #[]) w'):Call Pg 242 #[ptrV p,.agg (evC x).toArray] w R:=by
 obtain⟨ps,hl,H⟩:=evP_iff.1 H
 have H:=tl2.1 H
 refine c_242 ?_
 simp only[F_242]
 refine NEWo H fun t4 w H=>?_
 have H:Own w.hp (pt t4 (evC x)::_):=H
 refine LNo H (by simp[evC]) ?_
 refine PV_of (v:=.agg #[.int .i64 x.kind,.string x.ent.key,svV x.v,.int .u64 x.ent.birth,.int .u64 x.ent.dl,.int .u64 x.at_,nilP]) (by simp[buildV,Instr.fill,evC,nilP]) ?_
 refine NEWo H fun q w H=>?_
 have H:Own w.hp (pt q (evC x++[nilP])::_):=H
 have hr:∀w',Own w'.hp [pt p (ecells (hdP nilP (ps++[q])) (ptrV q) k n),.all (evN (ptrV q) ps xs),pt q (evC x++[nilP]),.all C]→R (.tuple #[]) w':=by
  intro w' H
  refine h w' (evP_iff.2 ⟨ps++[q],by simp[hl],?_⟩)
  rw[lastP_snoc,evN_append _ _ _ _ _ hl]
  refine(all_app.2 ?_).mv1
  refine Own.bk2 ?_
  refine Own.bk2 ?_
  refine all1.2 ?_
  exact(tl3.2 H).mv2
 rcases List.eq_nil_or_concat ps with rfl |⟨ps0,p0,rfl⟩
 ·obtain rfl:=List.length_eq_zero_iff.1 hl.symm
  simp only[hdP,lastP,List.getLast?_nil,nilP] at H
  (repeat first |refine L1o H rfl ?_ |refine Oc ?_)
  refine S1o H rfl rfl fun w H=>?_
  (repeat first |refine L1o H rfl ?_ |refine Oc ?_)
  refine S1o H rfl rfl fun w H=>?_
  exact hr w H.mv4.mv1.mv4.mv4.dp4
 ·rcases List.eq_nil_or_concat xs with rfl |⟨xs0,x0,rfl⟩
  ·simp at hl
  rw[List.concat_eq_append] at hl H hr
  rw[List.concat_eq_append] at hl H hr
  simp only[List.length_append,List.length_singleton,Nat.add_right_cancel_iff] at hl
  rw[lastP_snoc,evN_append _ _ _ _ _ hl] at H
  rw[evN_append _ _ _ _ _ hl] at hr
  have H:=all_app.1 H.mv3
  have H:=all1.1 H.mv1
  have H:Own w.hp [pt p0 (evC x0++[nilP]),.all (evN (ptrV p0) ps0 xs0),pt q (evC x++[nilP]),pt t4 (evC x),pt p (ecells (hdP nilP (ps0++[p0])) (ptrV p0) k n),.all C]:=H
  (repeat first |refine L1o H rfl ?_ |refine Oc ?_)
  refine S1o H rfl rfl fun w H=>?_
  (repeat first |refine L1o H rfl ?_ |refine Oc ?_)
  refine S1o H rfl rfl fun w H=>?_
  refine hr w ?_
  have e:hdP nilP (ps0++[p0]++[q])=hdP nilP (ps0++[p0]):=by cases ps0<;>rfl
  rw[e]
  refine(all_app.2 ?_).mv1
  refine Own.bk2 ?_
  refine Own.bk2 ?_
  refine all1.2 ?_
  exact H.mv5.mv3.mv3.mv5.mv4.dp5
theorem k_ev_Add {x:Evt} {u2:HP→List HP} [fi:Foc C (.v (svV x.v)) (imm (svV x.v) x.ent.val) u] [fp:Foc C (.b p) (evs p xs) u2] (H:Own w.hp C) (hx:EvOk x) (hn:xs.length<1048576)
  (h:∀v' w',Own w'.hp (u2 (evs p (xs++[{x with v:=v'}])))→R (.int .i64 0) w'):Call Pg 180 #[ptrV p,.agg (evC x).toArray] w R:=by
 have H:=imdup (f:=fi) H
 have H:Own w.hp (evs p xs::imm (svV x.v) x.ent.val::fp.rest):=(fp.tail (B:=imm (svV x.v) x.ent.val)).get H
 have h:∀v' w',Own w'.hp (evs p (xs++[{x with v:=v'}])::fp.rest)→R (.int .i64 0) w':=fun v' w' H=>h v' w' (fp.put H)
 generalize fp.rest=C1 at H h
 obtain⟨ps,k,⟨hl,hl2⟩,H⟩:=evs_iff.1 H
 have H:Own w.hp [pt p (ecells (hdP nilP ps) (lastP ps) k xs.length),.all (evN nilP ps xs),imL (xs.map evB),imm (svV x.v) x.ent.val,.all C1]:=by
  have :=tl4.1 H
  exact this
 refine c_180 ?_
 simp only[F_180]
 refine NEWo H fun t3 w H=>?_
 have H:Own w.hp (pt t3 (evC x)::_):=H
 refine c_ev_none H ?_
 refine Ob ?_
 refine LNo H (by simp[evC]) ?_
 refine c_ev_Valid (x:=x) H hx fun w H=>?_
 have hd:decide ((xs.length:Int)≥1048576)=false:=by simp;omega
 (repeat first |refine L1o H rfl ?_ |refine Oc ?_)
 refine Ob ?_
 refine LNo H (by simp[evC]) ?_
 refine c_ev_own (x:=x) H hx.2.2.2.2.1 fun v' w H=>?_
 have hx':({x with v:=v'}:Evt).ent=x.ent:=rfl
 have H:Own w.hp (evP p k xs.length xs::[pt t3 (evC x),imm (svV v') x.ent.val,imL (xs.map evB),.all C1]):=evP_iff.2 ⟨ps,hl,H.mv6.mv5.mv2.mv3.mv5.mv5.dp6⟩
 refine c_ev_add H fun w H=>?_
 obtain⟨ps,hl,H⟩:=evP_iff.1 H
 have hc:=ev_count (R:=R) (x:=x) (L:=[.all (evN nilP ps (xs++[{x with v:=v'}])),imm (svV v') x.ent.val,imL (xs.map evB),.all C1]) ⟨hx.1,hx.2.1⟩ (by omega) H.mv5.mv5.mv5.mv4.mv4.mv5 fun k' w H=>by
  refine h v' w (evs_iff.2 ⟨ps,k',⟨hl,by simp;omega⟩,?_⟩)
  have H:=H.mv5.mv3.mv3.mv3.mv5.mv5
  have H:=imL_join (imL_one H).mv1
  have e:((xs++[({x with v:=v'}:Evt)]).length:Int)=(xs.length:Int)+1:=by simp
  rw[e,List.map_append]
  have H:Own w.hp [imL (xs.map evB++[(v',x.ent.val)]),pt t3 (evC x),pt p (ecells (hdP nilP ps) (lastP ps) k' (xs.length+1)),.all (evN nilP ps (xs++[{x with v:=v'}])),.all C1]:=H
  exact tl3.2 H.mv4.mv1.mv4.mv4.dp4
 simp only[wp] at hc
 exact hc
theorem ev_take {m:Int} {mV:Value} (hm:mV=.int .i64 m):∀(ys xs:List Evt) (ps:List Nat) (w:World) (s l:Value) (C:List HP),Own w.hp [pt p (ecells (hdP nilP ps) l k ys.length),.all (evN nilP ps ys),sle s evE xs,.all C]→
  ps.length=ys.length→(xs.length:Int)+ys.length≤m→xs.length+ys.length≤1048576→(∀s' w',Own w'.hp (sle s' evE (xs++ys)::evP p k 0 []::C)→R (.tuple #[s',.int .i64 0]) w')→B_43_6 R (ptrV p) mV s w:=by
 subst hm
 intro ys
 induction ys with
 |nil=>
  intro xs ps w s l C H hl hm hn h
  obtain rfl:=List.length_eq_zero_iff.1 hl
  refine B_43_6.intro ?_
  simp only[P_43_6]
  have hl:=leno (v:=s) H
  have fin:∀w',Own w'.hp [pt p (ecells nilP nilP k 0),.all [],sle s evE xs,.all C]→R (.tuple #[s,.int .i64 0]) w':=fun w' H=>
   h s w' (by rw[List.append_nil];exact(evP_iff.2 ⟨[],rfl,tl3.2 H⟩).mv1)
  have hfin:PV (nilV (ptrV p)) fun t54=>
   PV (fldV 0 t54) fun t55=>
   L1 t55 w fun t56=>
   PV (binB (.ptr 176) .eql t56 (.pointer none)) fun t57=>
   CND t57
   (PV (nilV (ptrV p)) fun t59=>
   PV (fldV 1 t59) fun t60=>
   S1 t60 (.pointer none) w fun w_10=>
   R (.tuple #[s,.int .i64 0]) w_10)
   (R (.tuple #[s,.int .i64 0]) w):=by
   simp only[hdP,nilP] at H
   (repeat first |refine L1o H rfl ?_ |refine Oc ?_)
   refine S1o H rfl rfl fun w H=>?_
   exact fin w H
  rw[hl]
  by_cases hlt:(xs.length:Int)<m
  ·have H1:=H
   simp only[hdP,nilP] at H1
   have hfin:=hfin
   simp only[wp] at hfin
   refine Ob ?_
   refine L1o H1 rfl ?_
   refine Ob ?_
   exact hfin
  ·have hfin:=hfin
   simp only[wp] at hfin
   refine Ob ?_
   exact hfin
 |cons y ys ih=>
  intro xs ps w s l C H hl hm hn h
  obtain⟨q,ps,rfl⟩:∃q qs,ps=q::qs:=by cases ps with |nil=>simp at hl |cons q qs=>exact⟨q,qs,rfl⟩
  simp only[List.length_cons,Nat.add_right_cancel_iff] at hl
  simp only[List.length_cons] at hm hn
  refine B_43_6.intro ?_
  simp only[P_43_6]
  have hls:=leno (v:=s) H
  rw[hls]
  simp only[hdP,evN] at H
  have H:=H.mv1
  have H:Own w.hp (.all ([pt q (evC y++[hdP nilP ps])]++evN nilP ps ys)::_):=H
  have H:=all1.1 (all_app.1 H)
  have hlt:(xs.length:Int)<m:=by omega
  (repeat first |refine L1o H rfl ?_ |refine Oc ?_)
  refine LNo H (by simp[evC]) ?_
  refine NEWSo evE [y] H (cs:=#[.int .i64 y.kind,.string y.ent.key,svV y.v,.int .u64 y.ent.birth,.int .u64 y.ent.dl,.int .u64 y.at_]) (by simp[buildS,buildSl,Instr.fill,evC,zeros]) rfl rfl fun tt w H=>?_
  refine APPo (E:=evE) (xs:=xs) (ys:=[y]) H rfl (by decide) (by simp;omega) fun s' w H=>?_
  have H:=H.drop
  (repeat first |refine L1o H rfl ?_ |refine Oc ?_)
  refine S1o H rfl (by cases ps<;>rfl) fun w H=>?_
  (repeat first |refine L1o H rfl ?_ |refine Oc ?_)
  refine S1o H rfl rfl fun w H=>?_
  have e:IntKind.i64.wrap (((y::ys).length:Int) - 1)=ys.length:=by
   simp only[List.length_cons]
   rw[i64_in _ (by omega)];omega
  rw[e] at H
  refine ih (xs++[y]) ps w s' l C H.mv4.mv4.mv3.mv4.dp4 hl (by simp;omega) (by simp;omega) ?_
  simpa using h
theorem k_ev_Take {m:Int} [f:Foc C (.b p) (evs p xs) u] (H:Own w.hp C) (hm:(xs.length:Int)≤m)
  (h:∀s' w',Own w'.hp (sle s' evE xs::imL (xs.map evB)::u (evs p []))→R (.tuple #[s',.int .i64 0]) w'):Call Pg 43 #[ptrV p,.int .i64 m] w R:=by
 obtain⟨ps,k,⟨hl,hl2⟩,H⟩:=evs_iff.1 (f.get H)
 refine c_43 ?_
 simp only[F_43]
 refine c_ev_none H ?_
 (repeat first |refine L1o H rfl ?_ |refine Oc ?_)
 have H:=tl3.1 (sl_nil evE H)
 refine ev_take rfl xs [] ps w _ _ _ H.mv2.mv2 hl (by simpa using hm) (by simpa using hl2) fun s' w H=>?_
 refine h s' w ?_
 obtain⟨ps',hl',H⟩:=evP_iff.1 H.mv1
 exact f.put2 (evs_iff.2 ⟨ps',k,⟨hl',by simp⟩,(imL_nil H).bk2⟩).bk2
end
end Go.Cub
namespace Go.Cub
open Go Go.Proofs Go.IntWalk
def IterX (P:Program) (A:HP) (f:Value) {α:Type} (items:List α) (I:α→List Value→HP):Prop:=
 ∃g first cap,f=.func (.func g) first cap∧(∀args w,(callFunc g args).run P w=.ok (.enter g args) w)∧
 ∀(J:Nat→HP) (S:World→Prop) (y:Value) (w:World),Own w.hp [A,J 0]→
  (∀i x,items[i]?=some x→∀xs w,Own w.hp [I x xs,A,J i]→CallV P y xs.toArray w fun v w'=>(v=.bool true∧Own w'.hp [A,J (i+1)])∨(v=.bool false∧S w'))→
  Call P g (first ++#[y]++cap) w fun _ w'=>Own w'.hp [A,J items.length]∨S w'
section
variable {P:Program} {w:World} {L:List HP} {u:HP→List HP}
variable {fid:FuncId} {n:Nat} {live:List (Nat×Value)} {fv:Value} {params:Array Tmp} {cAs body:Code} {A:HP} {α:Type} {items:List α} {I:α→List Value→HP}
theorem loopX {g:FuncId} {first cap:Array Value} (J:Nat→HP) (B:Code→HP) (X:HP) {l:Nat} {w:World} {r0:Loop} (hr0:Rd fid n live params cAs body r0∧r0.state=.ready∧r0.pending=none)
  (hf:∀(J:Nat→HP) (S:World→Prop) (y:Value) (w:World),Own w.hp [A,J 0]→
  (∀i x,items[i]?=some x→∀xs w,Own w.hp [I x xs,A,J i]→CallV P y xs.toArray w fun v w'=>(v=.bool true∧Own w'.hp [A,J (i+1)])∨(v=.bool false∧S w'))→
  Call P g (first ++#[y]++cap) w fun _ w'=>Own w'.hp [A,J items.length]∨S w')
  (H:Own w.hp [lp l r0,A,J 0,X])
  (hstep:∀i x,items[i]?=some x→∀xs r w X,Rd fid n live params cAs body r→r.state=.ready→Own w.hp [I x xs,lp l r,A,J i,X]→
   CallV P (.func (.yield l) #[] #[]) xs.toArray w (Rnd fid n live params cAs body l A (J (i+1)) X B))
  {K:Option Code→World→Prop} (hend:∀w r,Own w.hp [lp l r,A,J items.length,X]→K none w) (hbrk:∀j w r,Own w.hp [lp l r,B j,X]→K (some j) w):
  Call P g (first ++#[.func (.yield l) #[] #[]]++cap) w fun _ w'=>EL l w' K:=by
 have h1:=hf (fun i=>.ex fun r=>.all [.pu (Rd fid n live params cAs body r∧r.state=.ready∧r.pending=none),lp l r,J i,X])
  (fun w'=>∃r' j,r'.state=.done∧r'.pending=some j∧Own w'.hp [lp l r',B j,X]) (.func (.yield l) #[] #[]) w ?_ ?_
 ·refine h1.mono ?_
  rintro v w' (h2 |⟨r',j,h2,h3,h4⟩)
  ·have h2:=h2.perm (.swap _ _ _)
   obtain⟨r,h2⟩:=own_ex.1 h2
   obtain⟨⟨h3,h4,h5⟩,h2⟩:=own_pu.1 (own_all.1 h2)
   have h2:Own w'.hp [lp l r,A,J items.length,X]:=h2.perm (List.Perm.cons _ (by simpa using List.perm_append_comm (l₁:=[J items.length,X]) (l₂:=[A])))
   refine ELo (r:=r) h2 (by simp[h4]) fun w'' r' H=>?_
   rw[h5]
   exact hend _ r' H
  ·refine ELo (r:=r') h4 (by simp[h2]) fun w'' r' H=>?_
   rw[h3]
   exact hbrk _ _ r' H
 ·refine Own.perm (own_ex.2 ⟨r0,own_all.2 (own_pu.2 ⟨hr0,H.perm (L':=[lp l r0,J 0,X,A]) ?_⟩)⟩) (.swap _ _ _)
  exact List.Perm.cons _ (by simpa using List.perm_append_comm (l₁:=[A]) (l₂:=[J 0,X]))
 ·intro i x hx xs w' h2
  have h2:=h2.mv2
  obtain⟨r,h2⟩:=own_ex.1 h2
  obtain⟨⟨h3,h4,h5⟩,h2⟩:=own_pu.1 (own_all.1 h2)
  have h2:Own w'.hp [I x xs,lp l r,A,J i,X]:=by have H:=h2;exact H.mv2.mv2.mv4.mv3.mv4
  refine(hstep i x hx xs r w' X h3 h4 h2).mono ?_
  rintro v w'' ⟨r',a1,⟨a2,a3,a4,a5⟩ |⟨a2,a3,j,a4,a5⟩⟩
  ·refine .inl ⟨a2,Own.perm (own_ex.2 ⟨r',own_all.2 (own_pu.2 ⟨⟨a1,a3,a4⟩,a5.perm (L':=[lp l r',J (i+1),X,A]) ?_⟩)⟩) (.swap _ _ _)⟩
   exact List.Perm.cons _ (by simpa using List.perm_append_comm (l₁:=[A]) (l₂:=[J (i+1),X]))
  ·exact .inr ⟨a2,r',j,a3,a4,a5⟩
theorem RFx {df:List Deferred} {K:Option Code→List Deferred→World→Prop} (J:Nat→HP) (B:Code→HP) (hf:IterX P A fv items I) (H:Own w.hp [A,J 0])
  (hstep:∀l,∀i x,items[i]?=some x→∀xs r w X,Rd fid n live params cAs body r→r.state=.ready→Own w.hp [I x xs,lp l r,A,J i,X]→CallV P (.func (.yield l) #[] #[]) xs.toArray w (Rnd fid n live params cAs body l A (J (i+1)) X B))
  (hend:∀d w,Own w.hp [dfr d (some []),A,J items.length]→K none ({target:=.collected d,args:=#[]}::df) w)
  (hbrk:∀j d w,Own w.hp [dfr d (some []),B j]→K (some j) ({target:=.collected d,args:=#[]}::df) w):
  RF P fid none n live fv params cAs body df w K:=by
 obtain⟨g,first,cap,rfl,hc,hf⟩:=hf
 refine⟨hc,fun tm htm=>allEq_of fun hl=>?_⟩
 have hd:(w.alloc (.deferred (some []))).heap.size=w.heap.size+1:=by simp[heap_alloc]
 have H1:Own (w.alloc (.deferred (some []))).hp (dfr w.heap.size (some [])::[A,J 0]):=
  H.modNew (Ext.alloc _) (F':=[w.heap.size]) ⟨by show(w.alloc (.deferred (some []))).heap[w.heap.size]?=_;simp[heap_alloc],rfl,rfl⟩ (by simp)
 have e2:((w.alloc (.deferred (some []))).alloc (loopObj fid tm params cAs body w.heap.size)).heap[w.heap.size+1]?=some (loopObj fid tm params cAs body w.heap.size):=by
  rw[heap_alloc, ←hd];exact Array.getElem?_push_size
 have H2:Own ((w.alloc (.deferred (some []))).alloc (loopObj fid tm params cAs body w.heap.size)).hp (lp (w.heap.size+1) ⟨.ready,none,fid,tm,params,cAs,body,w.heap.size⟩::dfr w.heap.size (some [])::[A,J 0]):=
  H1.modNew (Ext.alloc _) (F':=[w.heap.size+1]) ⟨e2,rfl,rfl⟩ (by simp[heap_alloc])
 have hr0:Rd fid n live params cAs body ⟨.ready,none,fid,tm,params,cAs,body,w.heap.size⟩:=⟨rfl,rfl,rfl,rfl,htm,hl⟩
 have H4:Own ((w.alloc (.deferred (some []))).alloc (loopObj fid tm params cAs body w.heap.size)).hp [lp (w.heap.size+1) ⟨.ready,none,fid,tm,params,cAs,body,w.heap.size⟩,A,J 0,dfr w.heap.size (some [])]:=
  H2.perm (.cons _ (by simpa using(List.perm_append_comm (l₁:=[dfr w.heap.size (some [])]) (l₂:=[A,J 0]))))
 refine loopX J B (dfr w.heap.size (some [])) ⟨hr0,rfl,rfl⟩ hf H4 (hstep _) (fun w' r H=>hend _ _ ?_) (fun j w' r H=>hbrk _ _ _ ?_)
 ·exact(H.drop).perm (by simpa using(List.perm_append_comm (l₁:=[A,J items.length]) (l₂:=[dfr w.heap.size (some [])])))
 ·exact(H.drop).perm (.swap _ _ _)
end
end Go.Cub
namespace Go.Cub
open Go Go.Proofs Go.IntWalk
def ent0:Ent:=⟨⟨#[]⟩,[],0,0⟩
def EntOk (e:Ent):Prop:=(0<e.key.size∧e.key.size≤250)∧e.val.length≤65536∧e.birth≠0
def entE:Enc (Ent×SV):=⟨4,fun y=>[.string y.1.key,svV y.2,.int .u64 y.1.dl,.int .u64 y.1.birth],fun _=>rfl,fun x v h=>by simp at h;rcases h with rfl |rfl |rfl |rfl<;>rfl⟩
def live (xs:List Ent):Nat:=(xs.filter (·.birth≠0)).length
def logB (L:List (Ent×SV)):List (SV×List UInt8):=L.map fun y=>(y.2,y.1.val)
def LogOk (xs:List Ent) (L:List (Ent×SV)):Prop:=L.map (·.1)=xs∧xs.length≤4194304∧∀y∈L,y=(ent0,sv0)∨EntOk y.1
def elog (p:Nat) (xs:List Ent):HP:=.ex fun L=>.ex fun s=>.all [.pu (LogOk xs L),pt p [.bool true,s,.int .i64 (live xs)],sle s entE L,imL (logB L)]
instance {p:Nat} {xs:List Ent}:Keyed (elog p xs) (.b p):=⟨⟩
section
variable {R:Value→World→Prop} {w:World} {C:List HP} {u:HP→List HP} {p:Nat} {xs:List Ent} {L:List (Ent×SV)} {s:Value} {n:Int} {i:Nat} {e:Ent}
attribute [local irreducible] PV CND GRD L1 LN S1 SN NEW NEWS MKS MKM LK MU DEL LENM APP CPY BTS Call CallV
theorem elog_iff {h:Hp}:Own h (elog p xs::C)↔∃L s,LogOk xs L∧Own h (pt p [.bool true,s,.int .i64 (live xs)]::sle s entE L::imL (logB L)::C):=by
 simp only[elog,own_ex,all4,own_pu]
theorem LogOk.length (h:LogOk xs L):L.length=xs.length:=by rw[←h.1,List.length_map]
theorem LogOk.get (h:LogOk xs L) (hi:xs[i]?=some e):∃v,L[i]?=some (e,v):=by
 rw[←h.1,List.getElem?_map,Option.map_eq_some_iff] at hi
 obtain⟨⟨e',v⟩,h1,rfl⟩:=hi
 exact⟨v,h1⟩
theorem LogOk.ent (h:LogOk xs L) (hi:xs[i]?=some e) (hb:e.birth≠0):EntOk e:=by
 obtain⟨v,hv⟩:=h.get hi
 rcases h.2.2 _ (List.mem_of_getElem? hv) with h1 |h1
 ·simp only[Prod.mk.injEq] at h1
  rw[h1.1] at hb;simp[ent0] at hb
 ·exact h1
theorem c_el_zero [f:Foc C (.b p) (pt p [.bool true,s,.int .i64 n]) u] (H:Own w.hp C) (h:R (.bool false) w):Call Pg 156 #[ptrV p] w R:=by
 refine c_156 ?_
 simp only[F_156]
 (repeat first |refine L1o H rfl ?_ |refine Oc ?_)
 exact h
theorem k_el_New (H:Own w.hp C) (h:∀p w',Own w'.hp (elog p []::C)→R (ptrV p) w'):Call Pg 140 #[] w R:=by
 refine c_140 ?_
 simp only[F_140]
 refine PV_of (v:=.agg #[.bool true,.slice none 0 0,.int .i64 0]) rfl ?_
 refine NEWo H fun p w H=>?_
 refine h p w (elog_iff.2 ⟨[],.slice none 0 0,⟨rfl,by simp,by simp⟩,?_⟩)
 exact(sl_nil entE (imL_nil H)).mv1.mv1.mv2
theorem k_el_Len [f:Foc C (.b p) (elog p xs) u] (H:Own w.hp C) (h:R (.int .i64 xs.length) w):Call Pg 164 #[ptrV p] w R:=by
 obtain⟨L,s,hl,H⟩:=elog_iff.1 (f.get H)
 refine c_164 ?_
 simp only[F_164]
 refine c_el_zero H ?_
 (repeat first |refine L1o H rfl ?_ |refine Oc ?_)
 rw[leno (v:=s) H,hl.length]
 refine Ob ?_
 exact h
theorem k_el_Live [f:Foc C (.b p) (elog p xs) u] (H:Own w.hp C) (h:R (.int .i64 (live xs)) w):Call Pg 93 #[ptrV p] w R:=by
 obtain⟨L,s,hl,H⟩:=elog_iff.1 (f.get H)
 refine c_93 ?_
 simp only[F_93]
 refine c_el_zero H ?_
 (repeat first |refine L1o H rfl ?_ |refine Oc ?_)
 exact h
theorem c_el_at {v:SV} [f:Foc C (.b p) (pt p [.bool true,s,.int .i64 n]) u] {u2:HP→List HP} [g:Foc C (.v s) (sle s entE L) u2] (H:Own w.hp C) (hl:L.length≤4194304) (hi:L[i]?=some (e,v)) (hb:e.birth≠0)
  (h:R (.tuple #[elp 4 s i 0,.int .i64 0]) w):Call Pg 231 #[ptrV p,.int .u32 i] w R:=by
 refine c_231 ?_
 simp only[F_231]
 refine c_el_zero H ?_
 have hlt:=lt_of_get hi
 (repeat first |refine L1o H rfl ?_ |refine Oc ?_)
 rw[leno (v:=s) H]
 (repeat first |refine L1o H rfl ?_ |refine Oc ?_)
 refine idxo (E:=entE) H hlt ?_
 refine Ob ?_
 refine L1e (E:=entE) (j:=3) H hi rfl ?_
 (repeat first |refine L1o H rfl ?_ |refine Oc ?_)
 refine idxo (E:=entE) H hlt ?_
 exact h
theorem logB_mem {v:SV} (hi:L[i]?=some (e,v)):(v,e.val)∈logB L:=List.mem_map.2 ⟨(e,v),List.mem_of_getElem? hi,rfl⟩
theorem k_el_Get [f:Foc C (.b p) (elog p xs) u] (H:Own w.hp C) (hi:xs[i]?=some e) (hb:e.birth≠0) (h:∀v' w',Own w'.hp (imm (svV v') e.val::u (elog p xs))→R (.tuple #[entV e v',.int .i64 0]) w'):Call Pg 206 #[ptrV p,.int .u32 i] w R:=by
 obtain⟨L,s,hl,H⟩:=elog_iff.1 (f.get H)
 obtain⟨v,hv⟩:=hl.get hi
 have hok:=hl.ent hi hb
 refine c_206 ?_
 simp only[F_206]
 refine NEWo H fun t4 w H=>?_
 refine c_el_at (p:=p) (s:=s) H (by rw[hl.length];exact hl.2.1) hv hb ?_
 (repeat first |refine L1o H rfl ?_ |refine Oc ?_)
 refine LNe (E:=entE) H hv ?_
 have H:=imL_get H.mv3 (logB_mem hv)
 refine k_entry_Copy (e:=e) (v:=v) H (by have :=hok.2.1;omega) fun v' w H=>?_
 have H:Own w.hp [imm (svV v') e.val,pt t4 _,imm (svV v) e.val,imL (logB L),pt p [.bool true,s,.int .i64 (live xs)],sle s entE L,.all f.rest]:=tl6.1 H.mv5.mv5.mv4.mv4.mv5.mv5
 refine SNo H rfl (by simp) (by simp[entV,svV,Value.oneCell']) fun w H=>?_
 refine LNo H (by simp[splice,entV]) ?_
 refine h v' w (f.put1 ?_)
 have H:Own w.hp (pt p [.bool true,s,.int .i64 (live xs)]::sle s entE L::imL (logB L)::imm (svV v') e.val::f.rest):=tl4.2 H.mv6.mv1.mv4.mv6.mv6.dp5.dp5
 exact(elog_iff.2 ⟨L,s,hl,H⟩).mv1
theorem k_el_Key [f:Foc C (.b p) (elog p xs) u] (H:Own w.hp C) (hi:xs[i]?=some e) (hb:e.birth≠0) (h:R (.tuple #[.string e.key,.int .i64 0]) w):Call Pg 173 #[ptrV p,.int .u32 i] w R:=by
 obtain⟨L,s,hl,H⟩:=elog_iff.1 (f.get H)
 obtain⟨v,hv⟩:=hl.get hi
 refine c_173 ?_
 simp only[F_173]
 refine c_el_at (p:=p) (s:=s) H (by rw[hl.length];exact hl.2.1) hv hb ?_
 (repeat first |refine L1o H rfl ?_ |refine Oc ?_)
 refine L1e (E:=entE) (j:=0) H hv rfl ?_
 exact h
theorem imL_set {h:Hp} {v:SV} (H:Own h (imm (svV v) e.val::imL (logB L)::C)):Own h (imL (logB (L.set i (e,v)))::C):=by
 refine imL_mono (imL_add H) fun x hx=>?_
 obtain⟨y,hy,rfl⟩:=List.mem_map.1 hx
 rcases List.mem_or_eq_of_mem_set hy with hy |rfl
 ·exact List.mem_cons_of_mem _ (List.mem_map.2 ⟨y,hy,rfl⟩)
 ·exact List.mem_cons_self
theorem live_set {e':Ent} (hi:xs[i]?=some e):live (xs.set i e')+(if e.birth≠0 then 1 else 0)=live xs+(if e'.birth≠0 then 1 else 0):=by
 have hlt:=lt_of_get hi
 induction xs generalizing i with
 |nil=>simp at hi
 |cons x xs ih=>
  cases i with
  |zero=>
   simp only[List.getElem?_cons_zero,Option.some.injEq] at hi
   subst hi
   simp only[live,List.set_cons_zero,List.filter_cons]
   by_cases h1:x.birth=0<;>by_cases h2:e'.birth=0<;>simp[h1,h2]
  |succ i=>
   have :=ih (by simpa using hi) (by simpa using hlt)
   simp only[live,List.set_cons_succ,List.filter_cons] at this ⊢
   by_cases h1:x.birth=0<;>simp[h1] at this ⊢ <;>omega
theorem LogOk.set {e':Ent} {v:SV} (h:LogOk xs L) (he:(e',v)=(ent0,sv0)∨EntOk e'):LogOk (xs.set i e') (L.set i (e',v)):=by
 refine⟨by rw[List.map_set,h.1],by simpa using h.2.1,fun y hy=>?_⟩
 rcases List.mem_or_eq_of_mem_set hy with hy |rfl
 ·exact h.2.2 y hy
 ·exact he
theorem k_el_Remove [f:Foc C (.b p) (elog p xs) u] (H:Own w.hp C) (hi:xs[i]?=some e) (hb:e.birth≠0) (h:∀v' w',Own w'.hp (imm (svV v') e.val::u (elog p (xs.set i ent0)))→R (.tuple #[entV e v',.int .i64 0]) w'):
  Call Pg 176 #[ptrV p,.int .u32 i] w R:=by
 obtain⟨L,s,hl,H⟩:=elog_iff.1 (f.get H)
 obtain⟨v,hv⟩:=hl.get hi
 have hok:=hl.ent hi hb
 refine c_176 ?_
 simp only[F_176]
 refine NEWo H fun t4 w H=>?_
 refine c_el_at (p:=p) (s:=s) H (by rw[hl.length];exact hl.2.1) hv hb ?_
 (repeat first |refine L1o H rfl ?_ |refine Oc ?_)
 refine LNe (E:=entE) H hv ?_
 have H:=imL_get H.mv3 (logB_mem hv)
 refine k_entry_Copy (e:=e) (v:=v) H (by have :=hok.2.1;omega) fun v' w H=>?_
 have H:Own w.hp [imm (svV v') e.val,pt t4 _,imm (svV v) e.val,imL (logB L),pt p [.bool true,s,.int .i64 (live xs)],sle s entE L,.all f.rest]:=tl6.1 H.mv5.mv5.mv4.mv4.mv5.mv5
 refine NEWo H fun t8 w H=>?_
 refine SNo H rfl (by simp) (by simp[entV,svV,Value.oneCell']) fun w H=>?_
 refine PV_of (v:=.agg #[.string ⟨#[]⟩,.slice none 0 0,.int .u64 0,.int .u64 0]) rfl ?_
 refine Ob ?_
 refine SNe (E:=entE) (ent0,sv0) H hv rfl fun w H=>?_
 (repeat first |refine L1o H rfl ?_ |refine Oc ?_)
 have hlv:=live_set (e':=ent0) hi
 have hl2:live xs≤4194304:=Nat.le_trans (List.length_filter_le _ _) hl.2.1
 simp only[hb,ne_eq,not_false_eq_true,if_true,ent0,not_true,if_false] at hlv
 have e1:IntKind.i64.wrap ((live xs:Int) - 1)=(live (xs.set i ent0):Nat):=by
  rw[i64_in _ (by omega)];simp only[ent0] at hlv ⊢;omega
 refine S1o H rfl rfl fun w H=>?_
 first |rw[e1] at H |skip
 refine LNo H (by simp[splice,entV]) ?_
 refine SNo H rfl (by simp) (by simp[entV,svV,Value.oneCell',splice]) fun w H=>?_
 refine LNo H (by simp[splice,entV]) ?_
 refine h v' w (f.put1 ?_)
 have H:Own w.hp (pt p [.bool true,s,.int .i64 (live (xs.set i ent0))]::sle s entE (L.set i (ent0,sv0))::imL (logB L)::imm (svV v') e.val::f.rest):=tl4.2 H.mv7.mv2.mv5.mv7.mv7.dp5.dp5.dp5
 have H:=imL_set (i:=i) (e:=ent0) (v:=sv0) (imm_nil H.mv2)
 have H:=elog_iff.2 ⟨_,s,hl.set (.inl rfl),H.mv2.mv2⟩
 exact H.mv1
theorem k_el_Set {v0:SV} {bs:List UInt8} {dl:Nat} {u0:HP→List HP} [f0:Foc C (.v (svV v0)) (imm (svV v0) bs) u0] [f:Foc C (.b p) (elog p xs) u] (H:Own w.hp C) (hi:xs[i]?=some e) (hb:e.birth≠0) (hbs:bs.length≤65536) (h:∀w',Own w'.hp (u (elog p (xs.set i {e with val:=bs,dl:=dl})))→R (.int .i64 0) w'):
  Call Pg 208 #[ptrV p,.int .u32 i,svV v0,.int .u64 dl] w R:=by
 have H:=imdup (f:=f0) H
 have H:Own w.hp (elog p xs::imm (svV v0) bs::f.rest):=(f.tail (B:=imm (svV v0) bs)).get H
 obtain⟨L,s,hl,H⟩:=elog_iff.1 H
 obtain⟨v,hv⟩:=hl.get hi
 have hok:=hl.ent hi hb
 have hlen:lenS (svV v0)=some (.int .i64 bs.length):=imlen (bs:=bs) H
 refine c_208 ?_
 simp only[F_208]
 refine c_el_at (p:=p) (s:=s) H (by rw[hl.length];exact hl.2.1) hv hb ?_
 refine Ob ?_
 rw[hlen]
 refine Ob ?_
 refine k_bytes_Clone (v:=v0) (bs:=bs) H (by omega) fun v' w H=>?_
 refine Ob ?_
 have hc:({e with val:=bs}:Ent).birth≠0:=hb
 refine S1e (E:=entE) ({e with val:=bs},v') H hv (by decide) rfl rfl fun w H=>?_
 have hv2:(L.set i ({e with val:=bs},v'))[i]?=some ({e with val:=bs},v'):=by simp[lt_of_get hv]
 refine S1e (E:=entE) ({e with val:=bs,dl:=dl},v') H hv2 (by decide) rfl rfl fun w H=>?_
 rw[List.set_set] at H
 refine h w (f.put ?_)
 have H:=tl5.1 H
 have H:=imL_set (i:=i) (e:= {e with val:=bs,dl:=dl}) (v:=v') H.mv5.mv3.mv3.mv4.mv4.dp5
 have hlv:=live_set (e':= {e with val:=bs,dl:=dl}) hi
 have e1:live (xs.set i {e with val:=bs,dl:=dl})=live xs:=by simp only[hb,ne_eq,not_false_eq_true,if_true] at hlv;omega
 rw[←e1] at H
 exact elog_iff.2 ⟨_,s,hl.set (.inr ⟨hok.1,hbs,hb⟩),(tl3.2 H.mv3.mv1.mv3.mv3)⟩
theorem k_el_Append {v:SV} {u0:HP→List HP} [f0:Foc C (.v (svV v)) (imm (svV v) e.val) u0] [f:Foc C (.b p) (elog p xs) u] (H:Own w.hp C) (he:EntOk e) (hn:xs.length<4194304) (h:∀w',Own w'.hp (u (elog p (xs++[e])))→R (.tuple #[.int .u32 xs.length,.int .i64 0]) w'):
  Call Pg 249 #[ptrV p,entV e v] w R:=by
 have H:=imdup (f:=f0) H
 have H:Own w.hp (elog p xs::imm (svV v) e.val::f.rest):=(f.tail (B:=imm (svV v) e.val)).get H
 obtain⟨L,s,hl,H⟩:=elog_iff.1 H
 have H:=tl4.1 H
 refine c_249 ?_
 simp only[F_249,entV]
 refine NEWo H fun t3 w H=>?_
 refine c_el_zero H ?_
 (repeat first |refine L1o H rfl ?_ |refine Oc ?_)
 refine k_entry_New (e:=e) (v:=v) H he.1 he.2.1 he.2.2 fun v' w H=>?_
 refine Ob ?_
 refine NEWo H fun t6 w H=>?_
 refine SNo H rfl (by simp) (by simp[entV,svV,Value.oneCell']) fun w H=>?_
 (repeat first |refine L1o H rfl ?_ |refine Oc ?_)
 have hll:=leno (v:=s) H
 rw[hll,hl.length]
 (repeat first |refine L1o H rfl ?_ |refine Oc ?_)
 refine LNo H (by simp[splice,entV]) ?_
 refine NEWSo (w:=w.drew) entE [(e,v')] H (cs:=#[.string e.key,svV v',.int .u64 e.dl,.int .u64 e.birth]) (by simp[buildS,buildSl,Instr.fill,entE,splice,entV,zeros]) rfl rfl fun tt w H=>?_
 refine⟨L1o H rfl rfl,?_⟩
 refine APPo (E:=entE) (xs:=L) (ys:=[(e,v')]) H rfl (by decide) (by have :=hl.length;simp;omega) fun s' w H=>?_
 have H:=H.drop
 obtain⟨a1,a2,a3,rfl⟩:=sle_slice H.mv4
 (repeat first |refine L1o H rfl ?_ |refine Oc ?_)
 refine S1o H rfl rfl fun w H=>?_
 (repeat first |refine L1o H rfl ?_ |refine Oc ?_)
 refine S1o H rfl rfl fun w H=>?_
 have hl2:live xs≤4194304:=Nat.le_trans (List.length_filter_le _ _) hl.2.1
 have e1:IntKind.i64.wrap ((live xs:Int)+1)=(live (xs++[e]):Nat):=by
  rw[i64_in _ (by omega)]
  simp[live,he.2.2]
 rw[e1] at H
 have hll:=leno (v:=.slice a1 a2 a3) H
 have e2:(L++[(e,v')]).length=xs.length+1:=by simp[hl.length]
 rw[e2] at hll
 have ea:a2=xs.length+1:=by simp[lenS] at hll;omega
 subst ea
 (repeat first |refine L1o H rfl ?_ |refine Oc ?_)
 have e3:IntKind.i64.wrap (((xs.length+1:Nat):Int) - 1)=xs.length:=by rw[i64_in _ (by omega)];omega
 rw[show((xs.length+1:Nat):Int) - 1=xs.length by omega]
 refine h w (f.put ?_)
 have H:=imL_join (imL_one H.mv7.mv5.mv5.mv6.mv5.dp5.dp5.dp5).mv1
 have hlo:LogOk (xs++[e]) (L++[(e,v')]):=⟨by simp[hl.1],by simp;omega,fun y hy=>by
  rcases List.mem_append.1 hy with hy |hy
  ·exact hl.2.2 y hy
  ·simp at hy;subst hy;exact .inr he⟩
 have e4:logB (L++[(e,v')])=logB L++[(v',e.val)]:=by simp[logB]
 rw[←e4] at H
 exact elog_iff.2 ⟨_,_,hlo,tl3.2 H.mv3.mv1.mv3.mv3⟩
end
end Go.Cub
