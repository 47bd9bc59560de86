/-
  Part 5 of the proof that TopNested returns true and leaves what it was given as it was. CONDITIONS: those of the given row and card.
-/
import Derived.Test.YtpelalpajdpkgaaGreatDoorZ03
set_option linter.all false
namespace Go.Cub
open Go
def mkPm (ops:List Oper):List (List Nat):=
 ops.foldl (init:=[]) fun acc o=>acc++[o.after.toList.foldl (fun s e=>if Region.binds .any e then s++((e.on::acc.getD e.on []).filter fun x=> !s.contains x) else s) []]
def precOk (ops:List Oper) (pm:List (List Nat)):Bool:=
 (List.range ops.length).all fun j=>(pm.getD j []).all fun i=>match ops[j]? with
  |some o=>o.after.toList.any fun e=>Region.binds .any e&&decide (e.on<j)&&(Nat.beq e.on i||(pm.getD e.on []).contains i)
  |none=>false
def prec (pm:List (List Nat)) (i j:Nat):Bool:=(pm.getD j []).contains i
def apartAll (ops:Array Oper) (pm:List (List Nat)):Bool:=
 (List.range ops.size).all fun i=>(List.range ops.size).all fun j=>Nat.beq i j||prec pm i j||prec pm j i||(match ops.toList[i]?,ops.toList[j]? with
  |some x,some y=>x.apart ops y
  |_,_=>false)
def noDefer (ops:Array Oper):Bool:=ops.toList.all fun o=>match o.op with
 |.defer _=>false
 |_=>true
def drawOk (ops:Array Oper):Bool:=precOk ops.toList (mkPm ops.toList)&&apartAll ops (mkPm ops.toList)&&noDefer ops
abbrev Chk:=List (Nat×(World→Prop))
def keepL (pm:List (List Nat)) (j:Nat) (L:Chk):Chk:=L.filter fun x=> !prec pm x.1 j
section
variable (P:Program) (tt:TTab) (cal:Nat→Bool) (ops:Array Oper) (pm:List (List Nat))
def OpA (i:Nat) (a:Act) (w:World) (K:Act→World→Prop):Prop:=match ops[i]? with
 |none=>K a w
 |some o=>if Region.wanted o (yielded ops a.tmps) then OpK P o a.eval w (fun v w'=>K (a.put o.dst v) w') else K (a.put o.dst undef) w
def AnyR (Q:Act→World→Prop):Chk→Nat→Array Bool→Act→World→Prop
 |_,0,listed,a,w=>Region.ready .any ops listed=[]∧Q a w
 |L,f+1,listed,a,w=>(Region.ready .any ops listed=[]→Q a w)∧
  ∀j∈Region.ready .any ops listed,OpA P ops j a w fun a' w'=>(∀x∈keepL pm j L,x.2 w')∧AnyR Q (keepL pm j L) f (listed.setIfInBounds j true) a' w'
def quietB (i:Nat):Bool:=match ops.toList[i]? with
 |some o=>isPure tt o.op||isRead tt o.op
 |none=>false
def chkAll (L:Chk) (w:World) (R:Prop):Prop:=L.foldr (fun x acc=>x.2 w∧acc) R
def pl:Nat→Array Bool→Chk→Env→World→(Env→World→Prop)→Prop
 |0,listed,_,ρ,w,K=>(match Region.ready .any ops listed with
  |[]=>K ρ w
  |_=>False)
 |f+1,listed,L,ρ,w,K=>match (Region.ready .any ops listed).find? (quietB tt ops) with
  |some i=>(match ops.toList[i]? with
   |some o=>(match isPure tt o.op with
    |true=>opG P tt cal ops o ρ w fun v _=>pl f (listed.setIfInBounds i true) L (ρ.put o.dst v) w K
    |false=>opG P tt cal ops o ρ w fun v _=>
     pl f (listed.setIfInBounds i true) ((i,fun w'=>opG P tt cal ops o ρ w' fun u _=>u=v)::L) (ρ.put o.dst v) w K)
   |none=>False)
  |none=>(match Region.ready .any ops listed with
   |[]=>K ρ w
   |[e]=>(match ops.toList[e]? with
    |some o=>opG P tt cal ops o ρ w fun v w'=>chkAll (keepL pm e L) w' (pl f (listed.setIfInBounds e true) (keepL pm e L) (ρ.put o.dst v) w' K)
    |none=>False)
   |es=>(es.map fun e=>(match ops.toList[e]? with
    |some o=>opG P tt cal ops o ρ w fun v w'=>chkAll (keepL pm e L) w' (pl f (listed.setIfInBounds e true) (keepL pm e L) (ρ.put o.dst v) w' K)
    |none=>False)).foldr (· ∧ ·) True)
end
section
variable {P:Program} {tt:TTab} {cal:Nat→Bool} {C:Ctx} {n:Nat} {ops:Array Oper} {k:List Item} {pm:List (List Nat)}
theorem OpA.mono {i:Nat} {a:Act} {w:World} {K K':Act→World→Prop} (h:OpA P ops i a w K) (hk:∀a' w',K a' w'→K' a' w'):OpA P ops i a w K':=by
 unfold OpA at *
 split at h
 ·exact hk _ _ h
 ·split at h
  ·rename_i hw;rw[if_pos hw];exact OpK.mono h fun v w' h=>hk _ _ h
  ·rename_i hw;rw[if_neg hw];exact hk _ _ h
theorem any_sound (hk:C.kind≠ .early) (hnd:noDefer ops=true) {Q:Act→World→Prop} (hQ:∀a w,Q a w→Rch P C k a w):∀(fuel t:Nat) (L:Chk) (listed:Array Bool) (a:Act) (w:World),AnyR P ops pm Q L fuel listed a w→
  Rch P C (.inRegion ops (Region.linearise.go .any ops fuel t listed [])::k) a w
 |0,t,L,listed,a,w,h=>by
  simp only[Region.linearise.go,List.reverse_nil];exact rch_region_end (hQ _ _ h.2)
 |fuel+1,t,L,listed,a,w,h=>by
  obtain⟨h₀,h₁⟩:=h
  simp only[Region.linearise.go]
  change Rch P C (.inRegion ops (match (Region.ready .any ops listed)[t%(Region.ready .any ops listed).length]? with
   |some i=>Region.linearise.go .any ops fuel (t/(Region.ready .any ops listed).length) (listed.setIfInBounds i true) [i]
   |none=>[].reverse)::k) a w
  cases hi:(Region.ready .any ops listed)[t%(Region.ready .any ops listed).length]? with
  |none=>
   have hnil:Region.ready .any ops listed=[]:=by
    cases hr:Region.ready .any ops listed with
    |nil=>rfl
    |cons x xs=>
     rw[hr] at hi
     have hlt:t%(x::xs).length<(x::xs).length:=Nat.mod_lt _ (by simp)
     simp at hi
     simp at hlt
     omega
   exact rch_region_end (hQ _ _ (h₀ hnil))
  |some i=>
   simp only[]
   rw[linearise_go_acc,List.reverse_singleton,List.singleton_append]
   have hmem:=List.mem_of_getElem? hi
   have :=h₁ i hmem
   unfold OpA at this
   obtain⟨_,o,ho,_⟩:=mem_ready.1 hmem
   simp only[ho] at this
   have hnd':∀c,o.op≠ .defer c:=by
    intro c e
    have :=List.all_eq_true.1 hnd o (List.mem_of_getElem? (by simpa using ho))
    rw[e] at this;simp at this
   split at this
   ·rename_i hw
    exact rch_op ho hw hk hnd' (OpK.mono this fun v w' h=>any_sound hk hnd hQ fuel _ _ _ _ _ h.2)
   ·rename_i hw
    refine rch_op_skip (by rw[ho];simpa using hw) ?_
    rw[ho]
    exact any_sound hk hnd hQ fuel _ _ _ _ _ this.2
theorem any_weaken {Q:Act→World→Prop}:∀(fuel:Nat) (L L':Chk) (listed:Array Bool) (a:Act) (w:World),(∀x∈L',x∈L)→AnyR P ops pm Q L fuel listed a w→AnyR P ops pm Q L' fuel listed a w
 |0,L,L',listed,a,w,hs,h=>h
 |fuel+1,L,L',listed,a,w,hs,h=>by
  refine⟨h.1,fun j hj=>OpA.mono (h.2 j hj) fun a' w' hh=>?_⟩
  have hs':∀x∈keepL pm j L',x∈keepL pm j L:=fun x hx=>by
   simp only[keepL,List.mem_filter] at hx ⊢
   exact⟨hs x hx.1,hx.2⟩
  exact⟨fun x hx=>hh.1 x (hs' x hx),any_weaken fuel _ _ _ _ _ hs' hh.2⟩
theorem any_cons {Q:Act→World→Prop} {i:Nat}:∀ {fuel:Nat} {L:Chk} {listed:Array Bool} {a:Act} {w:World},AnyR P ops pm Q L fuel listed a w→AnyR P ops pm Q ((i,fun _=>True)::L) fuel listed a w
 |0,L,listed,a,w,h=>h
 |fuel+1,L,listed,a,w,h=>by
  refine⟨h.1,fun j hj=>OpA.mono (h.2 j hj) fun a' w' hh=>?_⟩
  by_cases hp:prec pm i j=true
  ·have :keepL pm j ((i,fun _=>True)::L)=keepL pm j L:=by simp[keepL,hp]
   rw[this];exact hh
  ·have :keepL pm j ((i,fun _=>True)::L)=(i,fun _=>True)::keepL pm j L:=by simp[keepL,hp]
   rw[this]
   refine⟨fun x hx=>?_,any_cons hh.2⟩
   rcases List.mem_cons.1 hx with rfl |hx
   ·trivial
   ·exact hh.1 x hx
theorem opG_true {o:Oper} {ρ:Env} {w:World} {K:Value→World→Prop} (h:wantE ops o ρ=true) (hk:opPT P tt cal o ρ w K):opG P tt cal ops o ρ w K:=by
 unfold wantE at h
 unfold opG
 cases hg:o.guard with
 |none=>exact hk
 |some jw=>
  obtain⟨j,want⟩:=jw
  simp only[hg] at h ⊢
  cases ht:(ops.toList[j]?).bind (·.dst) with
  |none=>simp only[ht] at h;cases h
  |some t=>
   simp only[ht] at h ⊢
   unfold GRD
   cases hv:ρ t<;>simp only[hv] at h ⊢ <;>first |(cases h;done) |skip
   rw[h];exact hk
theorem opG_false {o:Oper} {ρ:Env} {w:World} {K:Value→World→Prop} (h:wantE ops o ρ=false) (hk:K undef w):opG P tt cal ops o ρ w K:=by
 unfold wantE at h
 unfold opG
 cases hg:o.guard with
 |none=>simp only[hg] at h;cases h
 |some jw=>
  obtain⟨j,want⟩:=jw
  simp only[hg] at h ⊢
  cases ht:(ops.toList[j]?).bind (·.dst) with
  |none=>exact hk
  |some t=>
   simp only[ht] at h ⊢
   unfold GRD
   cases hv:ρ t<;>simp only[hv] at h ⊢ <;>first |exact hk |skip
   rw[h];exact hk
theorem LK_det {d:TD} {c:Bool} {z m x:Value} {w:World} {K:Value→Prop} (h:LK d c z m x w K):∃v,K v∧∀K':Value→Prop,K' v→LK d c z m x w K':=by
 obtain⟨h1,h⟩:=h
 cases he:ents m w with
 |none=>simp[he] at h
 |some es=>
  simp only[he] at h
  cases hf:findE x es 0 with
  |none=>simp[hf] at h
  |some r=>
   cases r with
   |none=>simp only[hf] at h;exact⟨_,h,fun K' hk=>⟨h1,by simp only[he,hf];exact hk⟩⟩
   |some iv=>simp only[hf] at h;exact⟨_,h,fun K' hk=>⟨h1,by simp only[he,hf];exact hk⟩⟩
theorem L1_det {p:Value} {w:World} {K:Value→Prop} (h:L1 p w K):∃v,K v∧∀K':Value→Prop,K' v→L1 p w K':=by
 unfold L1 at h
 split at h
 ·rename_i a
  cases hc:w.cell? a with
  |none=>simp[hc] at h
  |some v=>simp only[hc] at h;exact⟨v,h,fun K' hk=>by simp only[L1,hc];exact hk⟩
 ·exact h.elim
theorem LN_det {n:Nat} {p:Value} {w:World} {K:Value→Prop} (h:LN n p w K):∃v,K v∧∀K':Value→Prop,K' v→LN n p w K':=by
 unfold LN at h
 split at h
 ·rename_i a
  cases hc:w.cellsAt? a 0 n with
  |none=>simp[hc] at h
  |some v=>simp only[hc] at h;exact⟨_,h,fun K' hk=>by simp only[LN,hc];exact hk⟩
 ·exact h.elim
theorem LENM_det {m:Value} {w:World} {K:Value→Prop} (h:LENM m w K):∃v,K v∧∀K':Value→Prop,K' v→LENM m w K':=by
 unfold LENM at h
 cases hc:ents m w with
 |none=>simp[hc] at h
 |some v=>simp only[hc] at h;exact⟨_,h,fun K' hk=>by simp only[LENM,hc];exact hk⟩
theorem BTS_det {x:Value} {w:World} {K:Value→Prop} (h:BTS x w K):∃v,K v∧∀K':Value→Prop,K' v→BTS x w K':=by
 unfold BTS at h
 split at h
 ·exact⟨_,h,fun K' hk=>hk⟩
 ·rename_i a len c
  cases hc:(w.cellsAt? a 0 len).bind bytesOf with
  |none=>simp[hc] at h
  |some l=>simp only[hc] at h;exact⟨_,h,fun K' hk=>by simp only[BTS,hc];exact hk⟩
 ·exact h.elim
theorem read_det {o:Oper} {ρ:Env} {w:World} {K:Value→World→Prop} (hp:isRead tt o.op=true) (h:opPT P tt cal o ρ w K):
  ∃v,K v w∧∀K':Value→World→Prop,K' v w→opPT P tt cal o ρ w K':=by
 unfold opPT at h ⊢
 split at h<;>rename_i hop<;>(try (rw[hop] at hp;simp[isRead] at hp;done))
 ·rename_i t a
  split at h
  ·rename_i i hi
   split at h
   ·obtain⟨v,hk,hd⟩:=LN_det h
    exact⟨v,hk,fun K' hk'=>hd _ hk'⟩
   ·obtain⟨v,hk,hd⟩:=L1_det h
    exact⟨v,hk,fun K' hk'=>hd _ hk'⟩
  ·exact h.elim
 ·rename_i s d x
  rw[hop] at hp
  split at h
  ·rename_i i j hi hj
   split at h
   ·rename_i hdi hdj;simp[isRead,hi,hdi] at hp
   ·rename_i hdi hdj;simp[isRead,hi,hdi] at hp
   ·rename_i e hdi hdj
    split at h
    ·rename_i ei hei
     split at h
     ·obtain⟨v,hk,hd⟩:=BTS_det h
      exact⟨v,hk,fun K' hk'=>hd _ hk'⟩
     ·exact h.elim
    ·exact h.elim
   ·exact h.elim
  ·exact h.elim
 ·rename_i t m k c
  split at h
  ·rename_i i hi
   split at h
   ·rename_i kt et hd
    split at h
    ·obtain⟨v,hk,hd⟩:=LK_det h
     exact⟨v,hk,fun K' hk'=>hd _ hk'⟩
    ·exact h.elim
   ·exact h.elim
  ·exact h.elim
 ·rename_i c
  rw[hop] at hp
  simp only[isRead] at hp
  split at h
  ·rename_i f hc;simp[hc] at hp
  ·rename_i f hc hne;rw[hne] at hp;simp at hp
  ·rename_i b hc
   rw[hc] at hp
   unfold builtinPT at h ⊢
   split at h<;>(try (simp at hp;done))
   ·rename_i t x hts hargs
    simp only[hts] at hp
    split at h
    ·rename_i i hi
     rw[hi] at hp
     split at h
     ·obtain⟨v,hk,hd⟩:=LENM_det h
      exact⟨v,hk,fun K' hk'=>hd _ hk'⟩
     ·rename_i e hd;simp[hd,sliceOrStr] at hp
     ·rename_i hd;simp[hd,sliceOrStr] at hp
     ·exact h.elim
    ·exact h.elim
   ·exact h.elim
  ·rename_i hc;simp[hc] at hp
 ·exact h.elim
def DC (ops:Array Oper) (listed:Array Bool):Prop:=∀j o,ops[j]?=some o→listed.getD j false=true→∀e∈o.after,Region.binds .any e=true→listed.getD e.on false=true
theorem DC.add {listed:Array Bool} {j:Nat} (h:DC ops listed) (hj:j∈Region.ready .any ops listed):DC ops (listed.setIfInBounds j true):=by
 obtain⟨hj0,oj,hoj,hall⟩:=mem_ready.1 hj
 intro i o ho hi e he hb
 by_cases hij:i=j
 ·subst hij
  rw[hoj] at ho;simp only[Option.some.injEq] at ho;subst ho
  exact getD_set_true (hall e he hb)
 ·rw[getD_set_ne false (Ne.symm hij)] at hi
  exact getD_set_true (h i o ho hi e he hb)
theorem prec_listed (hp:precOk ops.toList pm=true) {listed:Array Bool} (hdc:DC ops listed):∀(j:Nat) (o:Oper),ops[j]?=some o→
  (∀e∈o.after,Region.binds .any e=true→listed.getD e.on false=true)→∀i,prec pm i j=true→listed.getD i false=true:=by
 intro j
 induction j using Nat.strongRecOn with
 |_ j ih=>
  intro o ho hall i hi
  have hjl:j<ops.toList.length:=by
   have :=(Array.getElem?_eq_some_iff.1 ho).1;simpa using this
  have hmem:i∈pm.getD j []:=by simpa[prec] using hi
  have h1:=List.all_eq_true.1 hp j (List.mem_range.2 hjl)
  have h2:=List.all_eq_true.1 h1 i hmem
  have ho':ops.toList[j]?=some o:=by simpa using ho
  rw[ho'] at h2
  simp only[List.any_eq_true,Bool.and_eq_true,decide_eq_true_eq,Bool.or_eq_true] at h2
  obtain⟨e,he,⟨hb,hlt⟩,hor⟩:=h2
  have hl:=hall e (by simpa using he) hb
  rcases hor with heq |hin
  ·rw[←Nat.eq_of_beq_eq_true heq];exact hl
  ·have hjs:j<ops.size:=by simpa using hjl
   have hlt':e.on<ops.size:=Nat.lt_trans hlt hjs
   have hoe:ops[e.on]?=some ops[e.on]:=Array.getElem?_eq_getElem hlt'
   exact ih e.on hlt ops[e.on] hoe (fun e' he' hb'=>hdc e.on _ hoe hl e' he' hb') i hin
def Yat (P:Program) (ops:Array Oper) (o:Oper) (v:Value) (a:Act) (w:World):Prop:=
 (Region.wanted o (yielded ops a.tmps)=true∧(execOp a.eval o).run P w=.ok (.value v) w)∨(Region.wanted o (yielded ops a.tmps)=false∧v=undef)
theorem Yat.put {o:Oper} {v:Value} {a:Act} {w:World} (h:Yat P ops o v a w) (hs:∀cs b,o.op≠ .select cs b) (dst:Option Tmp) (u:Value) (hd:∀d,dst=some d→d∉o.looksAt ops):Yat P ops o v (a.put dst u) w:=by
 unfold Yat at *
 rw[execOp_put o hs a dst u hd,wanted_put o a dst u hd]
 exact h
theorem OpA_put {j:Nat} {oi oj:Oper} {v:Value} (hj:ops[j]?=some oj) (hap:oi.apart ops oj=true) (hsj:∀cs b,oj.op≠ .select cs b) {K:Act→World→Prop} {a:Act} {w:World}
  (h:OpA P ops j (a.put oi.dst v) w K):OpA P ops j a w fun a' w'=>(∃u,a'=a.put oj.dst u)∧K (a'.put oi.dst v) w':=by
 obtain⟨h1,h2,h3⟩:=Oper.apart_spec hap
 unfold OpA at *
 simp only[hj] at *
 rw[wanted_put oj a oi.dst v h1] at h
 split
 ·rename_i hw
  rw[if_pos hw] at h
  unfold OpK at h ⊢
  rw[execOp_put oj hsj a oi.dst v h1] at h
  exact OpK.mono (o:=oj) (ev:=a.eval) h fun u w' hk=>⟨⟨u,rfl⟩,by rw[←Act.put_comm a v u h2];exact hk⟩
 ·rename_i hw
  rw[if_neg hw] at h
  exact⟨⟨_,rfl⟩,by rw[←Act.put_comm a v undef h2];exact h⟩
theorem apart_of (ha:apartAll ops pm=true) {i j:Nat} {oi oj:Oper} (hi:ops[i]?=some oi) (hj:ops[j]?=some oj) (hij:i≠j) (h1:prec pm i j=false) (h2:prec pm j i=false):oi.apart ops oj=true:=by
 have hil:i<ops.size:=(Array.getElem?_eq_some_iff.1 hi).1
 have hjl:j<ops.size:=(Array.getElem?_eq_some_iff.1 hj).1
 have h:=List.all_eq_true.1 (List.all_eq_true.1 ha i (List.mem_range.2 hil)) j (List.mem_range.2 hjl)
 have hb:Nat.beq i j=false:=by
  cases h:Nat.beq i j with
  |false=>rfl
  |true=>exact absurd (Nat.eq_of_beq_eq_true h) hij
 have hi':ops.toList[i]?=some oi:=by simpa using hi
 have hj':ops.toList[j]?=some oj:=by simpa using hj
 rw[hb,h1,h2,hi',hj'] at h
 simpa using h
theorem any_first (hp:precOk ops.toList pm=true) (ha:apartAll ops pm=true) (hsel:∀(j:Nat) (o:Oper) cs b,ops[j]?=some o→o.op≠ .select cs b) {Q:Act→World→Prop} {i:Nat} {oi:Oper} {v:Value} {p:World→Prop} (hi:ops[i]?=some oi):
  ∀(fuel:Nat) (L:Chk) (listed:Array Bool) (a:Act) (w:World),i∈Region.ready .any ops listed→DC ops listed→(∀w',p w'→Yat P ops oi v a w')→p w→(∀x∈L,x.2 w)→
   AnyR P ops pm Q ((i,p)::L) fuel (listed.setIfInBounds i true) (a.put oi.dst v) w→AnyR P ops pm Q L (fuel+1) listed a w:=by
 intro fuel
 induction fuel with
 |zero=>
  intro L listed a w hr hdc hy hpw hL H
  refine⟨fun h=>(by rw[h] at hr;cases hr),fun j hj=>?_⟩
  by_cases hji:j=i
  ·subst hji
   have :OpA P ops j a w fun a' w'=>a'=a.put oi.dst v∧w'=w:=by
    unfold OpA;simp only[hi]
    rcases hy w hpw with ⟨hw,hrun⟩ |⟨hw,rfl⟩
    ·rw[if_pos hw];unfold OpK;rw[hrun];simp
    ·rw[if_neg (by simp[hw])];simp
   refine this.mono ?_
   rintro a' w' ⟨rfl,rfl⟩
   exact⟨fun x hx=>hL x (List.mem_filter.1 hx).1,any_weaken 0 _ _ _ _ _ (fun x hx=>List.mem_cons_of_mem _ (List.mem_filter.1 hx).1) H⟩
  ·have :=ready_mono hj hji
   rw[H.1] at this;cases this
 |succ fuel ih=>
  intro L listed a w hr hdc hy hpw hL H
  refine⟨fun h=>(by rw[h] at hr;cases hr),fun j hj=>?_⟩
  by_cases hji:j=i
  ·subst hji
   have :OpA P ops j a w fun a' w'=>a'=a.put oi.dst v∧w'=w:=by
    unfold OpA;simp only[hi]
    rcases hy w hpw with ⟨hw,hrun⟩ |⟨hw,rfl⟩
    ·rw[if_pos hw];unfold OpK;rw[hrun];simp
    ·rw[if_neg (by simp[hw])];simp
   refine this.mono ?_
   rintro a' w' ⟨rfl,rfl⟩
   exact⟨fun x hx=>hL x (List.mem_filter.1 hx).1,any_weaken (fuel+1) _ _ _ _ _ (fun x hx=>List.mem_cons_of_mem _ (List.mem_filter.1 hx).1) H⟩
  ·have h1:=H.2 j (ready_mono hj hji)
   obtain⟨hjun,oj,hoj,hall⟩:=mem_ready.1 hj
   obtain⟨hiun,oi',hoi',halli⟩:=mem_ready.1 hr
   have unl:∀ {x:Nat},listed.getD x true=false→listed.getD x false=true→False:=by
    intro x hx1 hx2
    rcases Nat.lt_or_ge x listed.size with h' |h'
    ·simp[h'] at hx1 hx2;rw[hx1] at hx2;cases hx2
    ·simp[Array.getElem?_eq_none h'] at hx1
   have hpij:prec pm i j=false:=by
    cases h:prec pm i j with
    |false=>rfl
    |true=>exact(unl hiun (prec_listed hp hdc j oj hoj hall i h)).elim
   have hpji:prec pm j i=false:=by
    cases h:prec pm j i with
    |false=>rfl
    |true=>exact(unl hjun (prec_listed hp hdc i oi' hoi' halli j h)).elim
   have hap:=apart_of ha hi hoj (Ne.symm hji) hpij hpji
   have h2:=OpA_put hoj hap (fun cs b=>hsel j oj cs b hoj) h1
   obtain⟨_,_,hlook⟩:=Oper.apart_spec hap
   refine OpA.mono h2 ?_
   rintro a' w' ⟨⟨u,rfl⟩,hchk,hany⟩
   have hk:keepL pm j ((i,p)::L)=(i,p)::keepL pm j L:=by simp[keepL,hpij]
   rw[hk] at hchk hany
   refine⟨fun x hx=>hchk x (List.mem_cons_of_mem _ hx),?_⟩
   refine ih (keepL pm j L) (listed.setIfInBounds j true) _ w' (ready_mono hr (Ne.symm hji)) (hdc.add hj) ?_ (hchk (i,p) (List.mem_cons_self ..)) (fun x hx=>hchk x (List.mem_cons_of_mem _ hx)) ?_
   ·intro w'' hpw''
    exact(hy w'' hpw'').put (fun cs b=>hsel i oi cs b hi) _ _ hlook
   ·rw[Array.setIfInBounds_comm _ _ hji]
    exact hany
theorem chkAll_elim {L:Chk} {w:World} {R:Prop} (h:chkAll L w R):(∀x∈L,x.2 w)∧R:=by
 unfold chkAll at h
 induction L with
 |nil=>exact⟨by simp,h⟩
 |cons x L ih=>
  simp only[List.foldr_cons] at h
  obtain⟨h1,h2⟩:=ih h.2
  refine⟨fun y hy=>?_,h2⟩
  rcases List.mem_cons.1 hy with rfl |hy
  ·exact h.1
  ·exact h1 y hy
theorem put_defers (a:Act) (dst:Option Tmp) (v:Value):(a.put dst v).defers=a.defers:=by cases dst<;>rfl
theorem pl_ok (ok:TabOk P tt) (hcal:CalOk P cal) (hops:opsLt n ops=true) (hp:precOk ops.toList pm=true) (ha:apartAll ops pm=true) {K:Env→World→Prop} {df:List Deferred}:
  ∀(f:Nat) (listed:Array Bool) (L:Chk) (ρ:Env) (a:Act) (w:World),pl P tt cal ops pm f listed L ρ w K→Rel n a ρ→a.defers=df→DC ops listed→(∀x∈L,x.2 w)→
   AnyR P ops pm (fun a w=>∃ρ,Rel n a ρ∧a.defers=df∧K ρ w) L f listed a w
 |0,listed,L,ρ,a,w,h,hr,hdf,hdc,hL=>by
  simp only[pl] at h
  split at h
  ·rename_i hnil;exact⟨hnil,ρ,hr,hdf,h⟩
  ·exact h.elim
 |f+1,listed,L,ρ,a,w,h,hr,hdf,hdc,hL=>by
  have hsel:∀(j:Nat) (o:Oper) cs b,ops[j]?=some o→o.op≠ .select cs b:=by
   intro j o cs b ho e
   have hlt:operLt n o=true:=List.all_eq_true.1 hops o (List.mem_of_getElem? (by simpa using ho))
   simp only[operLt,Bool.and_eq_true] at hlt
   rw[e] at hlt;simp at hlt
  have eff:∀e o,e∈Region.ready .any ops listed→ops.toList[e]?=some o→
    opG P tt cal ops o ρ w (fun v w'=>chkAll (keepL pm e L) w' (pl P tt cal ops pm f (listed.setIfInBounds e true) (keepL pm e L) (ρ.put o.dst v) w' K))→
    OpA P ops e a w fun a' w'=>(∀x∈keepL pm e L,x.2 w')∧AnyR P ops pm (fun a w=>∃ρ,Rel n a ρ∧a.defers=df∧K ρ w) (keepL pm e L) f (listed.setIfInBounds e true) a' w':=by
   intro e o he ho hg
   have ho':ops[e]?=some o:=by simpa using ho
   have hlt:operLt n o=true:=List.all_eq_true.1 hops o (List.mem_of_getElem? ho)
   have hw:=hr.wanted (o:=o) hops
   have fin:∀v w',chkAll (keepL pm e L) w' (pl P tt cal ops pm f (listed.setIfInBounds e true) (keepL pm e L) (ρ.put o.dst v) w' K)→
     (∀x∈keepL pm e L,x.2 w')∧AnyR P ops pm (fun a w=>∃ρ,Rel n a ρ∧a.defers=df∧K ρ w) (keepL pm e L) f (listed.setIfInBounds e true) (a.put o.dst v) w':=by
    intro v w' hc
    obtain⟨h1,h2⟩:=chkAll_elim hc
    exact⟨h1,pl_ok ok hcal hops hp ha f _ _ _ _ _ h2 (hr.put o.dst v (operLt_dst hlt)) ((put_defers _ _ _).trans hdf) (hdc.add he) h1⟩
   unfold OpA
   simp only[ho']
   rcases opG_cases hg with ⟨h1,h2⟩ |⟨h1,h2⟩
   ·rw[if_pos (by rw[hw,h1])]
    have :=opPT_ok ok hcal h2
    unfold OpK at this ⊢
    rw[hr.exec hlt]
    exact OpK.mono (o:=o) (ev:=evO ρ) this fin
   ·rw[if_neg (by rw[hw,h1];simp)]
    exact fin _ _ h2
  simp only[pl] at h
  split at h
  ·
   rename_i i hfind
   have hmem:i∈Region.ready .any ops listed:=List.mem_of_find?_eq_some hfind
   have hq:quietB tt ops i=true:=List.find?_some hfind
   split at h
   ·rename_i o ho
    have ho':ops[i]?=some o:=by simpa using ho
    have hlt:operLt n o=true:=List.all_eq_true.1 hops o (List.mem_of_getElem? ho)
    have hw:=hr.wanted (o:=o) hops
    split at h
    ·rename_i hpure
     have next:∀v,(∀w',Yat P ops o v a w')→pl P tt cal ops pm f (listed.setIfInBounds i true) L (ρ.put o.dst v) w K→AnyR P ops pm (fun a w=>∃ρ,Rel n a ρ∧a.defers=df∧K ρ w) L (f+1) listed a w:=by
      intro v hy hk
      refine any_first hp ha hsel (p:=fun _=>True) ho' f L listed a w hmem hdc (fun w' _=>hy w') trivial hL ?_
      have :=pl_ok ok hcal hops hp ha f _ _ _ (a.put o.dst v) _ hk (hr.put o.dst v (operLt_dst hlt)) ((put_defers _ _ _).trans hdf) (hdc.add hmem) hL
      exact any_cons this
     rcases opG_cases h with ⟨h1,h2⟩ |⟨h1,h2⟩
     ·obtain⟨v,hk,hrun⟩:=pure_any ok hpure h2
      exact next v (fun w'=>.inl ⟨by rw[hw,h1],by rw[hr.exec hlt];exact hrun w'⟩) hk
     ·exact next undef (fun w'=>.inr ⟨by rw[hw,h1],rfl⟩) h2
    ·rename_i hpure
     have hread:isRead tt o.op=true:=by
      unfold quietB at hq
      rw[ho] at hq
      simpa[hpure] using hq
     have next:∀v (p:World→Prop),(∀w',p w'→Yat P ops o v a w')→p w→pl P tt cal ops pm f (listed.setIfInBounds i true) ((i,p)::L) (ρ.put o.dst v) w K→AnyR P ops pm (fun a w=>∃ρ,Rel n a ρ∧a.defers=df∧K ρ w) L (f+1) listed a w:=by
      intro v p hy hpw hk
      refine any_first hp ha hsel (p:=p) ho' f L listed a w hmem hdc hy hpw hL ?_
      exact pl_ok ok hcal hops hp ha f _ _ _ (a.put o.dst v) _ hk (hr.put o.dst v (operLt_dst hlt)) ((put_defers _ _ _).trans hdf) (hdc.add hmem) (fun x hx=>by
       rcases List.mem_cons.1 hx with rfl |hx
       ·exact hpw
       ·exact hL x hx)
     rcases opG_cases h with ⟨h1,h2⟩ |⟨h1,h2⟩
     ·obtain⟨v,hk,hdet⟩:=read_det hread h2
      have hself:=hdet (fun u _=>u=v) rfl
      refine next v _ ?_ (opG_true h1 hself) hk
      intro w' hp'
      rcases opG_cases hp' with ⟨g1,g2⟩ |⟨g1,g2⟩
      ·obtain⟨u,hu,hrun'⟩:=read_at ok hread g2
       subst hu
       exact .inl ⟨by rw[hw,h1],by rw[hr.exec hlt];exact hrun'⟩
      ·rw[h1] at g1;cases g1
     ·refine next undef _ ?_ (opG_false (K:=fun u _=>u=undef) h1 rfl) h2
      intro w' hp'
      exact .inr ⟨by rw[hw,h1],rfl⟩
   ·exact h.elim
  ·split at h
   ·rename_i hnil
    refine⟨fun _=>⟨ρ,hr,hdf,h⟩,fun j hj=>?_⟩
    rw[hnil] at hj;cases hj
   ·rename_i e hes
    split at h
    ·rename_i o ho
     refine⟨fun hnil=>(by rw[hes] at hnil;cases hnil),fun j hj=>?_⟩
     have :j=e:=by rw[hes] at hj;simpa using hj
     subst this
     exact eff j o hj ho h
    ·exact h.elim
   ·rename_i es hne1 hne2
    refine⟨fun hnil=>absurd hnil (fun e=>hne1 e),fun j hj=>?_⟩
    have key:∀(l:List Nat),(l.map fun e=>(match ops.toList[e]? with
      |some o=>opG P tt cal ops o ρ w fun v w'=>chkAll (keepL pm e L) w' (pl P tt cal ops pm f (listed.setIfInBounds e true) (keepL pm e L) (ρ.put o.dst v) w' K)
      |none=>False)).foldr (· ∧ ·) True→∀e∈l,(match ops.toList[e]? with
      |some o=>opG P tt cal ops o ρ w fun v w'=>chkAll (keepL pm e L) w' (pl P tt cal ops pm f (listed.setIfInBounds e true) (keepL pm e L) (ρ.put o.dst v) w' K)
      |none=>False):=by
     intro l
     induction l with
     |nil=>intro _ e he;cases he
     |cons x l ih=>
      intro hh e he
      simp only[List.map_cons,List.foldr_cons] at hh
      rcases List.mem_cons.1 he with rfl |he
      ·exact hh.1
      ·exact ih hh.2 e he
    have hj':=key _ h j hj
    split at hj'
    ·rename_i o ho
     exact eff j o hj ho hj'
    ·exact hj'.elim
def drawPT (P:Program) (tt:TTab) (cal:Nat→Bool) (ops:Array Oper) (ρ:Env) (df:List Deferred) (w:World) (K:Env→List Deferred→World→Prop):Prop:=
 pl P tt cal ops (mkPm ops.toList) ops.toList.length (List.replicate ops.toList.length false).toArray [] ρ w.drew fun ρ w=>K ρ df w
theorem drawRegion_ok (ok:TabOk P tt) (hcal:CalOk P cal) (hk:C.kind≠ .early) (hm:P.follows .mixedOrders=true) (hops:opsLt n ops=true) (hd:drawOk ops=true)
  {id:Nat} {a:Act} {ρ:Env} {df:List Deferred} {w:World} {K:Env→List Deferred→World→Prop}
  (h:drawPT P tt cal ops ρ df w K) (hr:Rel n a ρ) (hdf:a.defers=df) (hK:∀ρ df a w,K ρ df w→Rel n a ρ→a.defers=df→Rch P C k a w):
  Rch P C (.code (.region id ops true)::k) a w:=by
 simp only[drawOk,Bool.and_eq_true] at hd
 obtain⟨⟨hp,ha⟩,hnd⟩:=hd
 refine rch_region_draw fun t=>?_
 simp only[Region.schedule,hm,Bool.true_or,if_true]
 have hz:(List.replicate ops.toList.length false).toArray=Array.replicate ops.size false:=by apply Array.ext';simp
 unfold drawPT at h
 rw[hz] at h
 have hdc:DC ops (Array.replicate ops.size false):=by
  intro j o ho hj
  simp[Array.getElem?_replicate] at hj
  split at hj<;>simp at hj
 have :=pl_ok ok hcal hops hp ha (df:=df) _ _ _ ρ a _ h hr hdf hdc (by simp)
 have hfin:=any_sound (P:=P) (C:=C) (k:=k) hk hnd (Q:=fun a w=>∃ρ,Rel n a ρ∧a.defers=df∧K ρ df w) (fun a w ⟨ρ,h1,h2,h3⟩=>hK ρ df a w h3 h1 h2) _ t _ _ _ _ this
 simpa[Region.linearise] using hfin
end
end Go.Cub
namespace Go.Cub
open Go
abbrev St:=Env→List Deferred→World→Prop
def CND (v:Value) (A B:Prop):Prop:=match v with
 |.bool true=>A
 |.bool false=>B
 |_=>False
def exM (j id:Nat) (A B:Prop):Prop:=match Nat.beq j id with
 |true=>A
 |false=>B
def firstReg:Code→Option Nat
 |.region id _ _=>some id
 |.seq x _=>firstReg x
 |.block _ b=>firstReg b
 |.loop b=>firstReg b
 |_=>none
def EL (l:Nat) (w:World) (K:Option Code→World→Prop):Prop:=match w.heap[l]? with
 |some (.loop r)=>r.state≠ .busy∧K r.pending (w.putObj' l (.loop {r with state:=.exhausted}))
 |_=>False
def JMP (j:Option Code) (kn:Prop) (ke:Nat→Prop) (kr:Prop):Prop:=match j with
 |none=>kn
 |some .ret=>kr
 |some (.exit id)=>ke id
 |_=>False
def loopObj (fid:FuncId) (tm:Array Value) (params:Array Tmp) (aq body:Code) (defers:Nat):Obj:=
 .loop {state:=.ready,pending:=none,fn:=fid,tmps:=tm,params,assign:=aq,body,defers}
def allEq (tm:Array Value):List (Nat×Value)→Prop→Prop
 |[],R=>R
 |t::ts,R=>tm.getD t.1 undef=t.2→allEq tm ts R
def RF (P:Program) (fid:FuncId) (rd:Option Nat) (n:Nat) (live:List (Nat×Value)) (fv:Value) (params:Array Tmp) (aq body:Code) (df:List Deferred) (w:World)
  (K:Option Code→List Deferred→World→Prop):Prop:=match fv with
 |.func (.func g) first cap=>(∀args w,(callFunc g args).run P w=.ok (.enter g args) w)∧∀tm:Array Value,tm.size=n→allEq tm live
  (match rd with
  |none=>Call P g (first ++#[.func (.yield (w.heap.size+1)) #[] #[]]++cap) ((w.alloc (.deferred (some []))).alloc (loopObj fid tm params aq body w.heap.size))
    fun _ w'=>EL (w.heap.size+1) w' fun j w''=>K j ({target:=.collected w.heap.size,args:=#[]}::df) w''
  |some l0=>(match w.heap[l0]? with
   |some (.loop r0)=>Call P g (first ++#[.func (.yield w.heap.size) #[] #[]]++cap) (w.alloc (loopObj fid tm params aq body r0.defers))
     fun _ w'=>EL w.heap.size w' fun j w''=>K j df w''
   |_=>False))
 |_=>False
section
variable (P:Program) (tt:TTab) (cal:Nat→Bool) (fid:FuncId) (rd:Option Nat) (n:Nat) (stops:List Nat) (lv:Nat→List Nat) (blk:Nat→St)
def regPT (ops:Array Oper) (draw:Bool) (K:St):St:=fun ρ df w=>match draw with
 |true=>drawPT P tt cal ops ρ df w K
 |false=>seqPT P tt cal ops ops.toList ρ df w K
def den:Code→St→(Nat→St)→St→St
 |.skip,kn,_,_=>kn
 |.label _,kn,_,_=>kn
 |.region id ops draw,kn,_,_=>(match stops.contains id with
  |true=>blk id
  |false=>regPT P tt cal ops draw kn)
 |.seq x y,kn,ke,kr=>den x (den y kn ke kr) ke kr
 |.cond c x y,kn,ke,kr=>fun ρ df w=>CND (evO ρ c) (den x kn ke kr ρ df w) (den y kn ke kr ρ df w)
 |.block id b,kn,ke,kr=>den b kn (fun j ρ df w=>exM j id (kn ρ df w) (ke j ρ df w)) kr
 |.loop b,_,_,_=>(match firstReg b with
  |some r=>blk r
  |none=>fun _ _ _=>False)
 |.exit id,_,ke,_=>ke id
 |.ret,_,_,kr=>kr
 |.rangeFunc f params aq body,kn,ke,kr=>fun ρ df w=>RF P fid rd n ((match firstReg body with |some r=>lv r |none=>[]).map fun t=>(t,ρ t)) (evO ρ f) params aq body df w
   fun j df w=>JMP j (kn ρ df w) (fun id=>ke id ρ df w) (kr ρ df w)
 |_,_,_,_=>fun _ _ _=>False
def denAt (r:Nat):Code→St→(Nat→St)→St→Option St
 |.region id ops draw,kn,_,_=>(match Nat.beq id r with
  |true=>some (regPT P tt cal ops draw kn)
  |false=>none)
 |.seq x y,kn,ke,kr=>(match denAt r x (den P tt cal fid rd n stops lv blk y kn ke kr) ke kr with
  |some f=>some f
  |none=>denAt r y kn ke kr)
 |.cond _ x y,kn,ke,kr=>(match denAt r x kn ke kr with
  |some f=>some f
  |none=>denAt r y kn ke kr)
 |.block id b,kn,ke,kr=>denAt r b kn (fun j ρ df w=>exM j id (kn ρ df w) (ke j ρ df w)) kr
 |.loop b,_,ke,kr=>denAt r b (match firstReg b with
  |some r=>blk r
  |none=>fun _ _ _=>False) ke kr
 |_,_,_,_=>none
end
def todoAt (r:Nat):Code→List Item→Option (List Item)
 |.region id ops d,k=>(match Nat.beq id r with
  |true=>some (.code (.region id ops d)::k)
  |false=>none)
 |.seq x y,k=>(match todoAt r x (.code y::k) with
  |some t=>some t
  |none=>todoAt r y k)
 |.cond _ x y,k=>(match todoAt r x k with
  |some t=>some t
  |none=>todoAt r y k)
 |.block id b,k=>todoAt r b (.inBlock id::k)
 |.loop b,k=>todoAt r b (.inLoop b::k)
 |_,_=>none
def ids:Code→List Nat
 |.region id _ _=>[id]
 |.seq x y=>ids x++ids y
 |.cond _ x y=>ids x++ids y
 |.block _ b=>ids b
 |.loop b=>ids b
 |_=>[]
def uniq:Code→Bool
 |.seq x y=>uniq x&&uniq y&&((ids x).all fun i=> !(ids y).contains i)
 |.cond _ x y=>uniq x&&uniq y&&((ids x).all fun i=> !(ids y).contains i)
 |.block _ b=>uniq b
 |.loop b=>uniq b
 |_=>true
def stat (n:Nat) (rd:Bool):Code→Bool
 |.region _ ops draw=>opsLt n ops&&(!draw||drawOk ops)&&(!rd||noDefer ops)
 |.seq x y=>stat n rd x&&stat n rd y
 |.cond c x y=>opdLt n c&&stat n rd x&&stat n rd y
 |.block _ b=>stat n rd b
 |.loop b=>stat n rd b
 |.rangeFunc f _ _ _=>opdLt n f
 |_=>true
theorem todoAt_none {r:Nat}:∀(c:Code) (k:List Item),r∉ids c→todoAt r c k=none
 |.region id ops d,k,h=>by
  have :Nat.beq id r=false:=by
   cases hb:Nat.beq id r with
   |false=>rfl
   |true=>exact absurd (Nat.eq_of_beq_eq_true hb) (fun e=>h (by simp[ids,e]))
  simp[todoAt,this]
 |.seq x y,k,h=>by
  simp only[ids,List.mem_append,not_or] at h
  simp[todoAt,todoAt_none x _ h.1,todoAt_none y _ h.2]
 |.cond _ x y,k,h=>by
  simp only[ids,List.mem_append,not_or] at h
  simp[todoAt,todoAt_none x _ h.1,todoAt_none y _ h.2]
 |.block _ b,k,h=>todoAt_none b _ h
 |.loop b,k,h=>todoAt_none b _ h
 |.skip,_,_ |.label _,_,_ |.rangeFunc ..,_,_ |.exit _,_,_ |.scope _,_,_ |.goto _,_,_ |.ret,_,_ |.refuse _,_,_=>rfl
theorem todoAt_mem {r:Nat} {c:Code} {k td:List Item} (h:todoAt r c k=some td):r∈ids c:=by
 by_cases hm:r∈ids c
 ·exact hm
 ·rw[todoAt_none c k hm] at h;cases h
section
variable {P:Program} {tt:TTab} {cal:Nat→Bool} {C:Ctx} {n:Nat} {stops:List Nat} {lv:Nat→List Nat} {blk:Nat→St}
def RT (P:Program) (C:Ctx) (a:Act) (w:World):Prop:=∀k,Rch P C (.code .ret::k) a w
def XT (P:Program) (C:Ctx) (id:Nat) (a:Act) (w:World):Prop:=∀k,exitTo id k=none→Rch P C (.code (.exit id)::k) a w
def EX (P:Program) (C:Ctx) (id:Nat) (k:List Item) (a:Act) (w:World):Prop:=(∃k',exitTo id k=some k'∧Rch P C k' a w)∨(exitTo id k=none∧XT P C id a w)
theorem EX.rch {id:Nat} {k:List Item} {a:Act} {w:World} (h:EX P C id k a w):Rch P C (.code (.exit id)::k) a w:=by
 rcases h with ⟨k',h1,h2⟩ |⟨h1,h2⟩
 ·exact rch_exit h1 h2
 ·exact h2 k h1
def Right (n:Nat) (S:St) (R:Act→World→Prop):Prop:=∀ρ df a w,S ρ df w→Rel n a ρ→a.defers=df→R a w
def HBlk (P:Program) (C:Ctx) (n:Nat) (blk:Nat→St) (c:Code) (k:List Item):Prop:=∀r td,todoAt r c k=some td→Right n (blk r) fun a w=>Rch P C td a w
theorem desc (C:Ctx) {r:Nat}:∀(b:Code) (k:List Item),firstReg b=some r→∃td,todoAt r b k=some td∧∀a w,Rch P C td a w→Rch P C (.code b::k) a w
 |.region id ops d,k,h=>by
  simp only[firstReg,Option.some.injEq] at h;subst h
  exact⟨_,by simp[todoAt],fun a w h=>h⟩
 |.seq x y,k,h=>by
  obtain⟨td,h1,h2⟩:=desc C x (.code y::k) h
  exact⟨td,by simp[todoAt,h1],fun a w h=>rch_seq (h2 a w h)⟩
 |.block id b,k,h=>by
  obtain⟨td,h1,h2⟩:=desc C b (.inBlock id::k) h
  exact⟨td,h1,fun a w h=>rch_block (h2 a w h)⟩
 |.loop b,k,h=>by
  obtain⟨td,h1,h2⟩:=desc C b (.inLoop b::k) h
  exact⟨td,h1,fun a w h=>rch_loop (h2 a w h)⟩
 |.skip,_,h |.label _,_,h |.rangeFunc ..,_,h |.exit _,_,h |.scope _,_,h |.goto _,_,h |.ret,_,h |.refuse _,_,h |.cond ..,_,h=>by simp[firstReg] at h
theorem EX.code {id:Nat} {k:List Item} {a:Act} {w:World} {y:Code} (h:EX P C id k a w):EX P C id (.code y::k) a w:=h
theorem EX.inLoop {id:Nat} {k:List Item} {a:Act} {w:World} {y:Code} (h:EX P C id k a w):EX P C id (.inLoop y::k) a w:=h
theorem EX.block {id id':Nat} {k:List Item} {a:Act} {w:World} (h:exM id id' (Rch P C k a w) (EX P C id k a w)):EX P C id (.inBlock id'::k) a w:=by
 unfold exM at h
 cases hb:Nat.beq id id' with
 |true=>
  rw[hb] at h
  have :=Nat.eq_of_beq_eq_true hb
  subst this
  exact .inl ⟨k,by simp[exitTo],h⟩
 |false=>
  rw[hb] at h
  have hne:=Nat.ne_of_beq_eq_false hb
  have he:exitTo id (.inBlock id'::k)=exitTo id k:=by simp[exitTo,Ne.symm hne]
  unfold EX at h ⊢
  rw[he];exact h
end
end Go.Cub
