/-
  Part 4 of the proof that TopNested returns true and leaves what it was given as it was. CONDITIONS: those of the given row and card.
-/
import Derived.Test.YtpelalpajdpkgaaGreatDoorZ02
import Derived.Orders
set_option linter.all false
namespace Go.Cub
open Go
def sliceOrStr:TD→Bool
 |.slice _ |.string=>true
 |_=>false
def isPure (tt:TTab):Op→Bool
 |.move _ |.assign _ |.pick .. |.nilCheck _ |.binOp .. |.unOp .. |.makeFunc .. |.fieldAddr .. |.field .. |.indexAddr .. |.index .. |.extract .. |.slice .. |.build .. |.makeInterface .. =>true
 |.convert s _ _=>(match tt s with
  |some i=>(match i.d with
   |.slice _=>false
   |_=>true)
  |none=>false)
 |.call c=>(match c.callee with
  |.builtin .len=>(match c.argTypes.toList with
   |[t]=>(match tt t with
    |some i=>sliceOrStr i.d
    |none=>false)
   |_=>false)
  |.builtin .cap |.builtin .min |.builtin .max=>true
  |_=>false)
 |_=>false
def isRead (tt:TTab):Op→Bool
 |.load .. |.lookup .. =>true
 |.convert s _ _=>(match tt s with
  |some i=>(match i.d with
   |.slice _=>true
   |_=>false)
  |none=>false)
 |.call c=>(match c.callee with
  |.builtin .len=>(match c.argTypes.toList with
   |[t]=>(match tt t with
    |some i=> !sliceOrStr i.d
    |none=>false)
   |_=>false)
  |_=>false)
 |_=>false
section
variable {P:Program} {tt:TTab} {cal:Nat→Bool}
theorem pure_any (ok:TabOk P tt) {o:Oper} {ρ:Env} {w:World} {K:Value→World→Prop} (hp:isPure tt o.op=true) (h:opPT P tt cal o ρ w K):
  ∃v,K v w∧∀w',(execOp (evO ρ) o).run P w'=.ok (.value v) w':=by
 have val:∀ {v:Value} {s:Sem Value},execOp (evO ρ) o=(do pure (.value (←s)))→(∀w',s.run P w'=.ok v w')→K v w→∃v,K v w∧∀w',(execOp (evO ρ) o).run P w'=.ok (.value v) w':=by
  intro v s hb hr hk
  exact⟨v,hk,fun w'=>by rw[hb];simp[hr]⟩
 unfold opPT at h
 split at h<;>rename_i hop<;>(try (rw[hop] at hp;simp[isPure] at hp;done))
 ·exact⟨_,h,fun w'=>by simp[execOp,hop]⟩
 ·exact⟨_,h,fun w'=>by simp[execOp,hop]⟩
 ·obtain⟨v,hv,hk⟩:=PV_elim h
  rename_i c a b
  unfold pickV at hv
  split at hv
  ·rename_i bb hc
   simp only[Option.some.injEq] at hv;subst hv
   exact⟨_,hk,fun w'=>by simp[execOp,hop,hc,asBool]⟩
  ·simp at hv
 ·rename_i t parts
  split at h
  ·rename_i i hi
   have hp:(parts.map fun(p:Nat×Operand)=>(p.1,evO ρ p.2)).toList=parts.toList.map fun p=>(p.1,evO ρ p.2):=by simp
   split at h
   ·rename_i fs hd
    split at h
    ·rename_i pl hpl
     obtain⟨v,hv,hk⟩:=PV_elim h
     rw[←hp] at hv
     exact val (by simp[execOp,hop]) (fun w'=>run_buildS ok hi hd hpl hv) hk
    ·exact h.elim
   ·rename_i n e hd
    split at h
    ·rename_i j hj
     obtain⟨v,hv,hk⟩:=PV_elim h
     rw[←hp] at hv
     exact val (by simp[execOp,hop]) (fun w'=>run_buildA ok hi hd hj hv) hk
    ·exact h.elim
   ·exact h.elim
  ·exact h.elim
 ·obtain⟨v,hv,hk⟩:=PV_elim h
  exact⟨_,hk,fun w'=>run_nil hop hv⟩
 ·rename_i op t x y yt
  split at h
  ·rename_i i hi
   split at h
   ·obtain⟨v,hv,hk⟩:=PV_elim h
    exact val (by simp[execOp,hop]) (fun w'=>run_binV ok hi x y (binN_binV hv i)) hk
   ·split at h
    ·rename_i he
     obtain⟨v,hv,hk⟩:=PV_elim h
     exact val (by simp[execOp,hop]) (fun w'=>run_binV ok hi x y (eqA_binV he hv)) hk
    ·exact h.elim
   ·obtain⟨v,hv,hk⟩:=PV_elim h
    exact val (by simp[execOp,hop]) (fun w'=>run_binV ok hi x y (binB_binV hv)) hk
  ·exact h.elim
 ·obtain⟨v,hv,hk⟩:=PV_elim h
  exact val (by simp[execOp,hop]) (fun w'=>run_un hv) hk
 ·rename_i s d x
  split at h
  ·rename_i i j hi hj
   split at h
   ·rename_i hdi hdj
    obtain⟨v,hv,hk⟩:=PV_elim h
    exact val (by simp[execOp,hop]) (fun w'=>run_convI ok hi hj hdj hdi hv) hk
   ·rename_i hdi hdj
    obtain⟨v,hv,hk⟩:=PV_elim h
    exact val (by simp[execOp,hop]) (fun w'=>run_convS ok hi hj hdj hdi hv) hk
   ·rename_i e hdi hdj
    rw[hop] at hp
    simp[isPure,hi,hdi] at hp
   ·exact h.elim
  ·exact h.elim
 ·rename_i fn first cap
  refine⟨_,h,fun w'=>?_⟩
  simp[execOp,hop,Instr.makeFunc]
  exact⟨(map_arr _ _).symm,(map_arr _ _).symm⟩
 ·rename_i t x lo hi' mx
  split at h
  ·rename_i i hi
   split at h
   ·rename_i e hd
    split at h
    ·rename_i j hj
     obtain⟨v,hv,hk⟩:=PV_elim h
     exact val (by simp[execOp,hop]) (fun w'=>run_slc ok hi hd hj hv) hk
    ·exact h.elim
   ·rename_i n e hd
    split at h
    ·rename_i j hj
     obtain⟨v,hv,hk⟩:=PV_elim h
     exact val (by simp[execOp,hop]) (fun w'=>run_slcA ok hi hd hj hv) hk
    ·exact h.elim
   ·exact h.elim
  ·exact h.elim
 ·rename_i t x n
  split at h
  ·rename_i i hi
   split at h
   ·rename_i fs hd
    split at h
    ·rename_i off ft hf
     split at h
     ·rename_i j hj
      cases hsz:Nat.beq j.size 0 with
      |true=>rw[hsz] at h;exact h.elim
      |false=>
      rw[hsz] at h
      obtain⟨v,hv,hk⟩:=PV_elim h
      exact val (by simp[execOp,hop]) (fun w'=>run_fieldAt ok hi hd hf hj (Nat.ne_of_beq_eq_false hsz) hv) hk
     ·exact h.elim
    ·exact h.elim
   ·exact h.elim
  ·exact h.elim
 ·rename_i t x n
  split at h
  ·rename_i i hi
   split at h
   ·rename_i fs hd
    split at h
    ·rename_i off ft hf
     split at h
     ·rename_i j hj
      obtain⟨v,hv,hk⟩:=PV_elim h
      exact val (by simp[execOp,hop]) (fun w'=>run_field ok hi hd hf hj hv) hk
     ·exact h.elim
    ·exact h.elim
   ·exact h.elim
  ·exact h.elim
 ·rename_i t x ix
  split at h
  ·rename_i i hi
   split at h
   ·rename_i e hd
    split at h
    ·rename_i j hj
     obtain⟨v,hv,hk⟩:=PV_elim h
     exact val (by simp[execOp,hop]) (fun w'=>run_idxS ok hi hd hj hv) hk
    ·exact h.elim
   ·rename_i n e hd
    split at h
    ·rename_i j hj
     obtain⟨v,hv,hk⟩:=PV_elim h
     exact val (by simp[execOp,hop]) (fun w'=>run_idxA ok hi hd hj hv) hk
    ·exact h.elim
   ·exact h.elim
  ·exact h.elim
 ·rename_i t x ix
  split at h
  ·rename_i i hi
   split at h
   ·rename_i hd
    obtain⟨v,hv,hk⟩:=PV_elim h
    exact val (by simp[execOp,hop]) (fun w'=>run_idxStr ok hi hd hv) hk
   ·exact h.elim
  ·exact h.elim
 ·obtain⟨v,hv,hk⟩:=PV_elim h
  exact val (by simp[execOp,hop]) (fun w'=>run_ext hv) hk
 ·rename_i t x
  split at h
  ·rename_i i hi
   have hu:=ok.und t i hi
   split at h
   ·exact h.elim
   ·rename_i hne
    refine val (s:=Instr.makeInterface t (evO ρ x)) (by simp[execOp,hop]) (fun w'=>?_) h
    cases hd:i.d<;>rw[hd] at hu<;>unfold TD.fits at hu<;>split at hu<;>(try (simp at *;done))<;>rename_i hq<;>
     first |exact absurd hd hne |simp[Instr.makeInterface,run_underlying hq]
  ·exact h.elim
 ·rename_i c
  rw[hop] at hp
  simp only[isPure] at hp
  split at h
  ·rename_i f hc;simp[hc] at hp
  ·rename_i f hc hne;rw[hne] at hp;simp at hp
  ·rename_i b hc
   have hex:execOp (evO ρ) o=builtin b c.argTypes o.type (c.args.map fun |.const _=>true |_=>false) (c.args.map (evO ρ)):=by
    simp only[execOp,hop,resolve,hc];rfl
   generalize hA:c.args.map (evO ρ)=A at hex
   have hA':c.args.toList.map (evO ρ)=A.toList:=by rw[←hA];simp
   rw[hA'] at h
   generalize hT:c.argTypes=T at hex h hp
   obtain⟨A⟩:=A
   obtain⟨T⟩:=T
   simp only at h hp
   have lift:∀ {v:Value} {s:Sem Value},builtin b ⟨T⟩ o.type (c.args.map fun |.const _=>true |_=>false) ⟨A⟩=(do pure (.value (←s)))→(∀w',s.run P w'=.ok v w')→K v w→∃v,K v w∧∀w',(execOp (evO ρ) o).run P w'=.ok (.value v) w':=by
    intro v s hb hr hk
    exact val (hex.trans hb) hr hk
   rw[hc] at hp
   unfold builtinPT at h
   split at h<;>(try (simp at hp;done))
   ·rename_i t x
    simp only at hp
    split at h
    ·rename_i i hi
     have hu:=ok.und t i hi
     rw[hi] at hp
     split at h
     ·rename_i kt et hd;simp[hd,sliceOrStr] at hp
     ·rename_i e hd
      rw[hd] at hu
      have hu:=fits_slice hu
      obtain⟨v,hv,hk⟩:=PV_elim h
      unfold lenS at hv
      split at hv
      ·simp only[Option.some.injEq] at hv;subst hv
       exact lift rfl (fun w'=>by simp[Builtin.len_,run_underlying hu,goInt]) hk
      ·simp at hv
     ·rename_i hd
      rw[hd] at hu
      have hu:=fits_string hu
      obtain⟨v,hv,hk⟩:=PV_elim h
      unfold lenStr at hv
      split at hv
      ·simp only[Option.some.injEq] at hv;subst hv
       exact lift rfl (fun w'=>by simp[Builtin.len_,run_underlying hu,goInt]) hk
      ·simp at hv
     ·exact h.elim
    ·exact h.elim
   ·rename_i t x
    split at h
    ·rename_i i hi
     have hu:=ok.und t i hi
     split at h
     ·rename_i e hd
      rw[hd] at hu
      have hu:=fits_slice hu
      obtain⟨v,hv,hk⟩:=PV_elim h
      unfold capV at hv
      split at hv
      ·simp only[Option.some.injEq] at hv;subst hv
       exact lift rfl (fun w'=>by simp[Builtin.cap_,run_underlying hu,goInt]) hk
      ·simp at hv
     ·exact h.elim
    ·exact h.elim
   ·rename_i x y
    obtain⟨v,hv,hk⟩:=PV_elim h
    unfold minV at hv
    split at hv
    ·simp only[Option.some.injEq] at hv;subst hv
     exact lift rfl (fun w'=>by simp[Builtin.min_,Builtin.min2]) hk
    ·simp at hv
   ·rename_i x y
    obtain⟨v,hv,hk⟩:=PV_elim h
    unfold maxV at hv
    split at hv
    ·simp only[Option.some.injEq] at hv;subst hv
     exact lift rfl (fun w'=>by simp[Builtin.max_,Builtin.max2]) hk
    ·simp at hv
   ·exact h.elim
  ·rename_i hc;simp[hc] at hp
 ·exact h.elim
theorem read_at (ok:TabOk P tt) {o:Oper} {ρ:Env} {w:World} {K:Value→World→Prop} (hp:isRead tt o.op=true) (h:opPT P tt cal o ρ w K):
  ∃v,K v w∧(execOp (evO ρ) o).run P w=.ok (.value v) w:=by
 have val:∀ {v:Value} {s:Sem Value},execOp (evO ρ) o=(do pure (.value (←s)))→(s.run P w=.ok v w)→K v w→∃v,K v w∧(execOp (evO ρ) o).run P w=.ok (.value v) w:=by
  intro v s hb hr hk
  exact⟨v,hk,by rw[hb];simp[hr]⟩
 unfold opPT at h
 split at h<;>rename_i hop<;>(try (rw[hop] at hp;simp[isRead] at hp;done))
 ·rename_i t a
  split at h
  ·rename_i i hi
   split at h
   ·rename_i hg
    unfold LN at h
    split at h
    ·rename_i ad ha
     split at h
     ·rename_i cs hcs
      exact val (s:=Instr.loadAt t (.pointer (some ad))) (by simp[execOp,hop,ha]) (run_loadAtN ok hi hg hcs) h
     ·exact h.elim
    ·exact h.elim
   ·rename_i hg
    unfold L1 at h
    split at h
    ·rename_i ad ha
     split at h
     ·rename_i v hv
      exact val (s:=Instr.loadAt t (evO ρ a)) (by simp[execOp,hop]) (run_loadAt1 ok hi hg ha hv) h
     ·exact h.elim
    ·exact h.elim
  ·exact h.elim
 ·rename_i s d x
  rw[hop] at hp
  split at h
  ·rename_i i j hi hj
   split at h
   ·rename_i hdi hdj;simp[isRead,hi,hdi] at hp
   ·rename_i hdi hdj;simp[isRead,hi,hdi] at hp
   ·rename_i e hdi hdj
    split at h
    ·rename_i ei hei
     split at h
     ·rename_i hek
      obtain⟨v,hk,hr⟩:=run_bts ok hi hdi hei hek hj hdj h
      exact val (by simp[execOp,hop]) hr hk
     ·exact h.elim
    ·exact h.elim
   ·exact h.elim
  ·exact h.elim
 ·rename_i t m k c
  split at h
  ·rename_i i hi
   split at h
   ·rename_i kt et hd
    split at h
    ·rename_i ki ei hki hei
     obtain⟨v,hk,hr⟩:=run_lookup' ok hi hd hki hei h
     exact val (by simp[execOp,hop]) hr hk
    ·exact h.elim
   ·exact h.elim
  ·exact h.elim
 ·rename_i c
  rw[hop] at hp
  simp only[isRead] at hp
  split at h
  ·rename_i f hc;simp[hc] at hp
  ·rename_i f hc hne;rw[hne] at hp;simp at hp
  ·rename_i b hc
   have hex:execOp (evO ρ) o=builtin b c.argTypes o.type (c.args.map fun |.const _=>true |_=>false) (c.args.map (evO ρ)):=by
    simp only[execOp,hop,resolve,hc];rfl
   generalize hA:c.args.map (evO ρ)=A at hex
   have hA':c.args.toList.map (evO ρ)=A.toList:=by rw[←hA];simp
   rw[hA'] at h
   generalize hT:c.argTypes=T at hex h hp
   obtain⟨A⟩:=A
   obtain⟨T⟩:=T
   simp only at h hp
   rw[hc] at hp
   unfold builtinPT at h
   split at h<;>(try (simp at hp;done))
   ·rename_i t x
    simp only at hp
    split at h
    ·rename_i i hi
     have hu:=ok.und t i hi
     rw[hi] at hp
     split at h
     ·rename_i kt et hd
      rw[hd] at hu
      have hu:=fits_map hu
      unfold LENM at h
      split at h
      ·rename_i es hes
       refine val (v:=.int .i64 es.length) hex ?_ h
       unfold ents at hes
       split at hes
       ·simp only[Option.some.injEq] at hes;subst hes
        simp[Builtin.len_,run_underlying hu,goInt]
       ·split at hes
        ·rename_i hb
         simp only[Option.some.injEq] at hes;subst hes
         simp[Builtin.len_,run_underlying hu,MapKept.run_getObj_map hb,goInt]
        ·simp at hes
       ·simp at hes
      ·exact h.elim
     ·rename_i e hd;simp[hd,sliceOrStr] at hp
     ·rename_i hd;simp[hd,sliceOrStr] at hp
     ·exact h.elim
    ·exact h.elim
   ·exact h.elim
  ·rename_i hc;simp[hc] at hp
 ·exact h.elim
end
end Go.Cub
namespace Go.Cub
open Go
structure Rel (n:Nat) (a:Act) (ρ:Env):Prop where
 size:a.tmps.size=n
 eq:∀t,t<n→a.tmps.getD t undef=ρ t
def opdLt (n:Nat):Operand→Bool
 |.tmp t=>decide (t<n)
 |_=>true
def operLt (n:Nat) (o:Oper):Bool:=
 (o.op.operands.toList.all (opdLt n))&&(match o.dst with |some d=>decide (d<n) |none=>true)&&(match o.op with |.select .. =>false |_=>true)
def opsLt (n:Nat) (ops:Array Oper):Bool:=ops.toList.all (operLt n)
section
variable {n:Nat} {a:Act} {ρ:Env}
theorem Rel.eval (h:Rel n a ρ) {x:Operand} (hx:opdLt n x=true):a.eval x=evO ρ x:=by
 cases x with
 |tmp t=>
  have :t<n:=by simpa[opdLt] using hx
  simpa[Act.eval,evO] using h.eq t this
 |_=>rfl
theorem beq_eq (u t:Nat):Nat.beq u t=decide (u=t):=by
 cases h:Nat.beq u t with
 |true=>simp[Nat.eq_of_beq_eq_true h]
 |false=>simp[Nat.ne_of_beq_eq_false h]
theorem Env.set_same (ρ:Env) (t:Nat) (v:Value):ρ.set t v t=v:=by simp[Env.set]
theorem Env.set_ne (ρ:Env) {t u:Nat} (v:Value) (h:u≠t):ρ.set t v u=ρ u:=by simp[Env.set,beq_eq,h]
theorem Rel.put (h:Rel n a ρ) (dst:Option Tmp) (v:Value) (hd:∀d,dst=some d→d<n):Rel n (a.put dst v) (ρ.put dst v):=by
 cases dst with
 |none=>exact h
 |some d=>
  refine⟨by simp[Act.put,h.size],fun t ht=>?_⟩
  have hdn:=hd d rfl
  by_cases e:t=d
  ·subst e
   rw[show(ρ.put (some t) v) t=v from Env.set_same _ _ _]
   simp[Act.put,h.size,hdn]
  ·rw[show(ρ.put (some d) v) t=ρ t from Env.set_ne _ _ e, ←h.eq t ht]
   simp[Act.put,Array.getElem?_setIfInBounds_ne (Ne.symm e)]
theorem Rel.exec (h:Rel n a ρ) {o:Oper} (ho:operLt n o=true):execOp a.eval o=execOp (evO ρ) o:=by
 simp only[operLt,Bool.and_eq_true,List.all_eq_true] at ho
 refine execOp_congr o (fun cs b e=>by rw[e] at ho;simp at ho) (fun x hx=>h.eval (ho.1.1 x (by simpa using hx)))
theorem operLt_dst {o:Oper} (ho:operLt n o=true):∀d,o.dst=some d→d<n:=by
 intro d hd
 simp only[operLt,Bool.and_eq_true] at ho
 have :=ho.1.2
 rw[hd] at this
 simpa using this
end
def GRD (g:Value) (want:Bool) (w:World) (ex:(Value→World→Prop)→Prop) (K:Value→World→Prop):Prop:=match g with
 |.bool b=>(match b==want with
  |true=>ex K
  |false=>K undef w)
 |_=>K undef w
def opG (P:Program) (tt:TTab) (cal:Nat→Bool) (ops:Array Oper) (o:Oper) (ρ:Env) (w:World) (K:Value→World→Prop):Prop:=match o.guard with
 |none=>opPT P tt cal o ρ w K
 |some (j,want)=>(match (ops.toList[j]?).bind (·.dst) with
  |some t=>GRD (ρ t) want w (fun K=>opPT P tt cal o ρ w K) K
  |none=>K undef w)
def wantE (ops:Array Oper) (o:Oper) (ρ:Env):Bool:=match o.guard with
 |none=>true
 |some (j,want)=>(match (ops.toList[j]?).bind (·.dst) with
  |some t=>(match ρ t with |.bool b=>b==want |_=>false)
  |none=>false)
theorem opG_cases {P:Program} {tt:TTab} {cal:Nat→Bool} {ops:Array Oper} {o:Oper} {ρ:Env} {w:World} {K:Value→World→Prop} (h:opG P tt cal ops o ρ w K):
  (wantE ops o ρ=true∧opPT P tt cal o ρ w K)∨(wantE ops o ρ=false∧K undef w):=by
 unfold opG at h
 unfold wantE
 cases hg:o.guard with
 |none=>simp only[hg] at h;exact .inl ⟨by trivial,h⟩
 |some jw=>
  obtain⟨j,want⟩:=jw
  simp only[hg] at h ⊢
  cases ht:(ops.toList[j]?).bind (·.dst) with
  |none=>simp only[ht] at h ⊢;exact .inr ⟨by trivial,h⟩
  |some t=>
   simp only[ht] at h ⊢
   unfold GRD at h
   cases hv:ρ t<;>simp only[hv] at h ⊢ <;>first |exact .inr ⟨by trivial,h⟩ |skip
   rename_i b
   cases hb:b==want with
   |true=>simp only[hb] at h;exact .inl ⟨by trivial,h⟩
   |false=>simp only[hb] at h;exact .inr ⟨by trivial,h⟩
theorem Rel.wanted {n:Nat} {a:Act} {ρ:Env} (h:Rel n a ρ) {ops:Array Oper} {o:Oper} (hops:opsLt n ops=true):Region.wanted o (yielded ops a.tmps)=wantE ops o ρ:=by
 unfold Region.wanted wantE
 cases hg:o.guard with
 |none=>rfl
 |some jw=>
  obtain⟨j,want⟩:=jw
  simp only
  have hj:ops[j]?=ops.toList[j]?:=by simp
  unfold yielded
  rw[hj]
  cases ht:(ops.toList[j]?).bind (·.dst) with
  |none=>simp
  |some t=>
   have htn:t<n:=by
    cases ho:ops.toList[j]? with
    |none=>rw[ho] at ht;simp at ht
    |some oj=>
     rw[ho] at ht
     have hmem:oj∈ops.toList:=List.mem_of_getElem? ho
     exact operLt_dst (List.all_eq_true.1 hops oj hmem) t (by simpa using ht)
   have he:=h.eq t htn
   have hs:a.tmps[t]?=some (ρ t):=by
    have :t<a.tmps.size:=by rw[h.size];exact htn
    rw[Array.getElem?_eq_getElem this]
    simpa[Array.getD,this] using he
   simp only[Option.bind_some,hs]
   cases hv:ρ t<;>simp
def deferV (fv:Value) (args:List Value):Option Deferred:=match fv with
 |.func fn first cap=>some {target:=.fn fn cap,args:=first ++args.toArray}
 |_=>none
def gNone (g:Option (Nat×Bool)) (A:Prop):Prop:=match g with
 |none=>A
 |some _=>False
theorem gNone_elim {g:Option (Nat×Bool)} {A:Prop} (h:gNone g A):g=none∧A:=by
 cases g with
 |none=>exact⟨rfl,h⟩
 |some _=>exact h.elim
def seqPT (P:Program) (tt:TTab) (cal:Nat→Bool) (ops:Array Oper):List Oper→Env→List Deferred→World→(Env→List Deferred→World→Prop)→Prop
 |[],ρ,df,w,K=>K ρ df w
 |o::rest,ρ,df,w,K=>match o.op with
  |.defer c=>(match c.callee with
   |.value f=>(match deferV (evO ρ f) (c.args.toList.map (evO ρ)) with
    |some d=>gNone o.guard (seqPT P tt cal ops rest (ρ.put o.dst undef) (d::df) w K)
    |none=>False)
   |_=>False)
  |_=>opG P tt cal ops o ρ w fun v w=>seqPT P tt cal ops rest (ρ.put o.dst v) df w K
section
variable {P:Program} {tt:TTab} {cal:Nat→Bool} {C:Ctx} {n:Nat} {ops:Array Oper} {k:List Item}
theorem rch_want {i:Nat} {rest:List Nat} {o:Oper} {a:Act} {ρ:Env} {w:World} (ok:TabOk P tt) (hcal:CalOk P cal) (hk:C.kind≠ .early) (hr:Rel n a ρ) (hops:opsLt n ops=true) (ho:ops[i]?=some o) (hd:∀c,o.op≠ .defer c)
  {K:Value→World→Prop} (h:opG P tt cal ops o ρ w K) (next:∀v w',K v w'→Rch P C (.inRegion ops rest::k) (a.put o.dst v) w'):
  Rch P C (.inRegion ops (i::rest)::k) a w:=by
 have hlt:operLt n o=true:=List.all_eq_true.1 hops o (List.mem_of_getElem? (by simpa using ho))
 have hw:=hr.wanted (o:=o) hops
 rcases opG_cases h with ⟨h1,h2⟩ |⟨h1,h2⟩
 ·refine rch_op ho (by rw[hw,h1]) hk hd ?_
  have :=opPT_ok ok hcal h2
  unfold OpK at this ⊢
  rw[hr.exec hlt]
  exact OpK.mono (o:=o) (ev:=evO ρ) this next
 ·refine rch_op_skip (by rw[ho];simp[hw,h1]) ?_
  rw[ho]
  exact next _ _ h2
theorem seq_ok (ok:TabOk P tt) (hcal:CalOk P cal) (hk:C.kind≠ .early) (hops:opsLt n ops=true) (hround:C.round=none∨ops.toList.all (fun o=>match o.op with |.defer _=>false |_=>true)=true):
  ∀(l:List Oper) (i:Nat) (a:Act) (ρ:Env) (df:List Deferred) (w:World) (K:Env→List Deferred→World→Prop),(∀j,l[j]?=ops[i+j]?)→
  seqPT P tt cal ops l ρ df w K→Rel n a ρ→a.defers=df→(∀ρ df a w,K ρ df w→Rel n a ρ→a.defers=df→Rch P C k a w)→
  Rch P C (.inRegion ops (List.range' i l.length)::k) a w
 |[],i,a,ρ,df,w,K,hl,h,hr,hdf,hK=>rch_region_end (hK ρ df a w h hr hdf)
 |o::l,i,a,ρ,df,w,K,hl,h,hr,hdf,hK=>by
  have ho:ops[i]?=some o:=by have :=hl 0;simpa using this.symm
  have hl':∀j,l[j]?=ops[i+1+j]?:=fun j=>by have :=hl (j+1);simpa[Nat.add_assoc,Nat.add_comm 1 j] using this
  have hlt:operLt n o=true:=List.all_eq_true.1 hops o (List.mem_of_getElem? (by simpa using ho))
  simp only[List.length_cons,List.range'_succ]
  have other:(∀c,o.op≠ .defer c)→opG P tt cal ops o ρ w (fun v w=>seqPT P tt cal ops l (ρ.put o.dst v) df w K)→Rch P C (.inRegion ops (i::List.range' (i+1) l.length)::k) a w:=by
   intro hnd h
   exact rch_want ok hcal hk hr hops ho hnd h fun v w' h'=>
    seq_ok ok hcal hk hops hround l (i+1) _ _ df w' K hl' h' (hr.put o.dst v (operLt_dst hlt)) (by cases hdst:o.dst<;>simp[Act.put,hdf]) hK
  simp only[seqPT] at h
  split at h
  ·rename_i c hop
   split at h
   ·rename_i f hf
    split at h
    ·rename_i d hd
     obtain⟨hg,h⟩:=gNone_elim h
     have hr0:C.round=none:=by
      rcases hround with hr0 |hall
      ·exact hr0
      ·have :=List.all_eq_true.1 hall o (List.mem_of_getElem? (by simpa using ho))
       rw[hop] at this;simp at this
     have hw:Region.wanted o (yielded ops a.tmps)=true:=by simp[Region.wanted,hg]
     have hex:(execOp a.eval o).run P w=.ok (.defer d) w:=by
      rw[hr.exec hlt]
      unfold deferV at hd
      split at hd
      ·rename_i fn first cap hfv
       simp only[Option.some.injEq] at hd;subst hd
       have hm:(c.args.toList.map (evO ρ)).toArray=c.args.map (evO ρ):=map_arr _ _
       simp[execOp,hop,resolve,hf,Deferred.ofValue,hfv, ←hm]
      ·simp at hd
     refine rch_defer ho hw hr0 hex ?_
     refine seq_ok ok hcal hk hops hround l (i+1) _ _ (d::df) w K hl' h ?_ ?_ hK
     ·have :=hr.put o.dst undef (operLt_dst hlt)
      cases hdst:o.dst<;>simp only[hdst,Act.put] at this ⊢ <;>exact⟨this.size,this.eq⟩
     ·cases hdst:o.dst<;>simp[Act.put,hdf]
    ·exact h.elim
   ·exact h.elim
  ·rename_i hnd
   exact other (fun c e=>hnd c e) h
theorem seqRegion_ok (ok:TabOk P tt) (hcal:CalOk P cal) (hk:C.kind≠ .early) (hops:opsLt n ops=true) (hround:C.round=none∨ops.toList.all (fun o=>match o.op with |.defer _=>false |_=>true)=true)
  {id:Nat} {a:Act} {ρ:Env} {df:List Deferred} {w:World} {K:Env→List Deferred→World→Prop}
  (h:seqPT P tt cal ops ops.toList ρ df w K) (hr:Rel n a ρ) (hdf:a.defers=df) (hK:∀ρ df a w,K ρ df w→Rel n a ρ→a.defers=df→Rch P C k a w):
  Rch P C (.code (.region id ops false)::k) a w:=by
 refine rch_region ?_
 have :=seq_ok ok hcal hk hops hround ops.toList 0 a ρ df w K (by simp) h hr hdf hK
 rw[List.range_eq_range']
 simpa using this
end
end Go.Cub
