/-
  Part 15 of the proof that TopNested returns true and leaves what it was given as it was. CONDITIONS: those of the given row and card.
-/
import Derived.Test.YtpelalpajdpkgaaGreatDoorZ07
import Derived.Test.YtpelalpajdpkgaaGreatDoorZ09
import Derived.Test.YtpelalpajdpkgaaGreatDoorZ10
import Derived.Test.YtpelalpajdpkgaaGreatDoorZ11
import Derived.Test.YtpelalpajdpkgaaGreatDoorZ12
import Derived.Test.YtpelalpajdpkgaaGreatDoorZ13
set_option linter.all false
namespace Go.Cub
open Go Go.Proofs Go.IntWalk
variable {R:Value→World→Prop} {w:World}
def addT (t d:Nat):Nat:=if 18446744073709551615 - t≤d then 18446744073709551615 else t+d
theorem c_tick_Add {t d:Nat} (ht:t<18446744073709551616) (h:R (.int .u64 (addT t d)) w):Call Pg 24 #[.int .u64 t,.int .u64 d] w R:=by
 refine c_24 ?_
 simp only[F_24,binN_sub,PV_some,binN_leq,binN_add]
 rw[u64_in _ (by omega)]
 refine CND_dec (fun hp=>?_) (fun hp=>?_)
 ·rw[show addT t d=18446744073709551615 by unfold addT;rw[if_pos (by omega)]] at h
  exact h
 ·rw[u64_in _ (by omega)]
  rw[show addT t d=t+d by unfold addT;rw[if_neg (by omega)]] at h
  simpa using h
theorem c_tick_Effective {a b:Nat} (h:R (.int .u64 (max a b:Nat)) w):Call Pg 158 #[.int .u64 a,.int .u64 b] w R:=by
 refine c_158 ?_
 simp only[F_158,maxV_eq,PV_some]
 rw[show(if (b:Int)>a then(b:Int) else a)=(max a b:Nat) by split<;>omega]
 exact h
def dueT (d t:Nat):Bool:=decide (d≠18446744073709551615∧d≤t)
theorem c_tick_Due {d t:Nat} (h:R (.bool (dueT d t)) w):Call Pg 199 #[.int .u64 d,.int .u64 t] w R:=by
 refine c_199 ?_
 unfold dueT at h
 simp only[F_199,binN_neq,PV_some]
 by_cases hd:d=18446744073709551615
 ·subst hd
  simpa using h
 ·have :(d:Int)≠18446744073709551615:=by omega
  simp only[ne_eq,this,not_false_eq_true,decide_true,GRD_tt,binN_leq,PV_some,pickV_true]
  simpa[hd] using h
theorem c_config_between {n a b:Int} (h:R (.bool (decide (a≤n∧n≤b))) w):Call Pg 72 #[.int .i64 n,.int .i64 a,.int .i64 b] w R:=by
 refine c_72 ?_
 simp only[F_72,binN_geq,PV_some]
 by_cases hd:a≤n
 ·simpa[hd] using h
 ·simpa[hd] using h
def cfgV (count bytes prot:Int) (seed:Nat) (same:Bool):Value:=.agg #[.int .i64 count,.int .i64 bytes,.int .i64 prot,.int .u64 seed,.bool same]
theorem c_config_Check {c b p:Int} {s:Nat} {m:Bool} (hc:1≤c∧c≤1048576) (hb:1≤b∧b≤1099511627776) (hp:0≤p∧p≤99) (h:∀w',Ext w w'→R (.int .i64 0) w'):Call Pg 33 #[cfgV c b p s m] w R:=by
 refine c_33 ?_
 simp only[F_33,cfgV,cells_agg]
 refine NEW_of fun x w1 hx hr he hs=>?_
 simp only[fldV_some,PV_some]
 refine L1_of hr rfl ?_
 refine c_config_between ?_
 simp only[hc,and_self,decide_true,unV_not,Bool.not_true,PV_some,CND_false,fldV_some]
 refine L1_of hr rfl ?_
 refine c_config_between ?_
 simp only[hb,and_self,decide_true,unV_not,Bool.not_true,PV_some,CND_false,fldV_some]
 refine L1_of hr rfl ?_
 refine c_config_between ?_
 simp only[hp,and_self,decide_true,unV_not,Bool.not_true,PV_some,CND_false,fldV_some]
 exact h _ he
theorem c_config_Part {c b:Int} {s:Nat} {m:Bool} (hc:1≤c∧c≤1048576) (hb:1≤b∧b≤1099511627776) (h:∀w',Ext w w'→R (.tuple #[.int .i64 (-1),.int .i64 0]) w'):Call Pg 55 #[cfgV c b 0 s m] w R:=by
 refine c_55 ?_
 simp only[F_55,cfgV,cells_agg]
 refine NEW_of fun x w1 hx hr he hs=>?_
 refine LN_of hr (by simp) ?_
 refine c_config_Check hc hb (by decide) fun w2 he2=>?_
 simp only[binN_neq,PV_some,ne_eq,not_true_eq_false,decide_false,CND_false,fldV_some]
 have hr2:=he2.row hr (by simp)
 refine L1_of hr2 rfl ?_
 simp only[binN_eql,PV_some,decide_true,CND_true]
 exact h _ (he.ext_trans he2)
theorem c_entry_ValidKey {s:ByteArray} (h:R (.bool (decide (0<s.size∧s.size≤250))) w):Call Pg 204 #[.string s] w R:=by
 refine c_204 ?_
 simp only[F_204,lenStr_eq,PV_some,binN_gtr]
 by_cases hd:0<s.size
 ·have :(s.size:Int)>0:=by omega
  simp only[this,decide_true,GRD_tt,lenStr_eq,PV_some,binN_leq,pickV_true]
  have e:decide ((s.size:Int)≤250)=decide (0<s.size∧s.size≤250):=by simp[hd];omega
  rw[e];exact h
 ·have :¬(s.size:Int)>0:=by omega
  simp only[this,decide_false,GRD_ft,PV_some,pickV_false]
  simpa[hd] using h
theorem c_entry_first {v:Value} {x y:Bool} {e1 e2:Int} {F:List Nat} (hs:Sl w v 2 2 [.bool x,.int .i64 e1,.bool y,.int .i64 e2] F) (h:∀w',Ext w w'→R (.int .i64 (if x then e1 else if y then e2 else 0)) w'):Call Pg 307 #[v] w R:=by
 refine c_307 ?_
 simp only[F_307,hs.len,PV_some]
 refine B_307_2.intro ?_
 simp only[P_307_2,binN_lss,PV_some]
 rw[show decide ((0:Int)<((2:Nat):Int))=true from rfl,CND_true]
 refine hs.loadN (i:=0) (by decide) ?_
 refine NEW_of fun b1 w1 hb1 hr1 he1 hz1=>?_
 refine SN_of hr1 rfl (by simp) (by simp[Value.oneCell']) fun w2 hr2 hm2 hz2=>?_
 have hr2':row w2 b1=some [.bool x,.int .i64 e1]:=hr2
 have hx2:Ext w w2:=he1.trans hm2 (by simp[hb1])
 simp only[fldV_some,PV_some]
 refine L1_of hr2' rfl ?_
 cases x with
 |true=>
  simp only[CND_true]
  refine L1_of hr2' rfl ?_
  exact h _ hx2
 |false=>
  simp only[CND_false,binN_add,PV_some]
  rw[i64_in _ (by decide)]
  refine B_307_2.intro ?_
  simp only[P_307_2,binN_lss,PV_some]
  rw[show decide ((0:Int)+1<((2:Nat):Int))=true from rfl,CND_true]
  refine(hs.ext hx2).loadN (i:=1) (by decide) ?_
  refine NEW_of fun b3 w3 hb3 hr3 he3 hz3=>?_
  refine SN_of hr3 rfl (by simp) (by simp[Value.oneCell']) fun w4 hr4 hm4 hz4=>?_
  have hr4':row w4 b3=some [.bool y,.int .i64 e2]:=hr4
  have hx4:Ext w w4:=hx2.ext_trans (he3.trans hm4 (by simp[hb3]))
  simp only[fldV_some,PV_some]
  refine L1_of hr4' rfl ?_
  cases y with
  |true=>
   simp only[CND_true]
   refine L1_of hr4' rfl ?_
   exact h _ hx4
  |false=>
   simp only[CND_false,binN_add,PV_some]
   rw[i64_in _ (by decide)]
   refine B_307_2.intro ?_
   simp only[P_307_2,binN_lss,PV_some]
   rw[show decide ((0:Int)+1+1<((2:Nat):Int))=false from rfl,CND_false]
   exact h _ hx4
def chkE (s:ByteArray) (n birth:Nat):Int:=if ¬(0<s.size∧s.size≤250)∨birth=0 then 2 else if n>65536 then 5 else 0
theorem c_entry_check {s:ByteArray} {v:Value} {n birth:Nat} (hv:lenS v=some (.int .i64 n)) (h:∀w',Ext w w'→R (.int .i64 (chkE s n birth)) w'):Call Pg 257 #[.string s,v,.int .u64 birth] w R:=by
 refine c_257 ?_
 simp only[F_257]
 refine c_entry_ValidKey ?_
 simp only[unV_not,PV_some]
 have fin:∀(x:Bool),x=decide (¬(0<s.size∧s.size≤250)∨birth=0)→PV (buildV [(0,1),(1,1)] (.agg #[.bool false,.int .i64 0]) [(0,.bool x),(1,.int .i64 2)]) (fun t14=>
   PV (lenS v) fun t16=>
   PV (binN .gtr t16 (.int .i64 65536)) fun t17=>
   PV (buildV [(0,1),(1,1)] (.agg #[.bool false,.int .i64 0]) [(0,t17),(1,.int .i64 5)]) fun t18=>
   NEWS 396 2 (buildS 2 (.agg #[.bool false,.int .i64 0]) 2 [(0,t14),(1,t18)]) w fun t19 w_4=>
   Call Pg 307 #[t19] w_4 fun t20 w_5=>
   R t20 w_5):=by
  intro x hx
  refine PV_of (v:=.agg #[.bool x,.int .i64 2]) rfl ?_
  simp only[hv,PV_some,binN_gtr]
  refine PV_of (v:=.agg #[.bool (decide ((n:Int)>65536)),.int .i64 5]) rfl ?_
  refine NEWS_of (cs:=#[.bool x,.int .i64 2,.bool (decide ((n:Int)>65536)),.int .i64 5]) 2 rfl rfl fun v' w' F' hs he hf=>?_
  refine c_entry_first hs fun w2 he2=>?_
  have :(if x then(2:Int) else if decide ((n:Int)>65536) then 5 else 0)=chkE s n birth:=by
   rw[hx]
   unfold chkE
   have e:((n:Int)>65536)=(n>65536):=by apply propext;omega
   simp only[e,decide_eq_true_eq]
  rw[this]
  exact h _ (he.ext_trans he2)
 by_cases hd:0<s.size∧s.size≤250
 ·simp only[hd,and_self,decide_true,Bool.not_true,GRD_ff,binN_eql,PV_some,pickV_false]
  refine fin _ ?_
  simp only[hd,and_self,not_true_eq_false,false_or]
  congr 1
  apply propext;omega
 ·simp only[hd,decide_false,Bool.not_false,GRD_tf,PV_some,pickV_true]
  refine fin _ ?_
  simp[hd]
theorem c_entry_Cost {s:ByteArray} {v:Value} {n:Nat} (hv:lenS v=some (.int .i64 n)) (hs:0<s.size∧s.size≤250) (hn:n≤65536) (h:∀w',Ext w w'→R (.tuple #[.int .i64 (s.size+n+48:Nat),.int .i64 0]) w'):Call Pg 196 #[.string s,v] w R:=by
 refine c_196 ?_
 simp only[F_196]
 refine c_entry_check (birth:=1) hv fun w1 he=>?_
 have :chkE s n 1=0:=by unfold chkE;rw[if_neg (by simp[hs]),if_neg (by omega)]
 simp only[this,binN_neq,PV_some,ne_eq,not_true_eq_false,decide_false,CND_false,lenStr_eq,hv,binN_add]
 simp(disch:=omega) only[i64_in]
 have :=h _ he
 simpa using this
theorem c_entry_Cost_err {s:ByteArray} {v:Value} {n:Nat} (hv:lenS v=some (.int .i64 n)) (hs:chkE s n 1≠0) (h:∀w',Ext w w'→R (.tuple #[.int .i64 0,.int .i64 (chkE s n 1)]) w'):Call Pg 196 #[.string s,v] w R:=by
 refine c_196 ?_
 simp only[F_196]
 refine c_entry_check (birth:=1) hv fun w1 he=>?_
 simp only[binN_neq,PV_some,ne_eq,hs,not_false_eq_true,decide_true,CND_true]
 exact h _ he
theorem c_bytes_Clone {v:Value} {bs:List UInt8} {F:List Nat} (hv:Bs w v bs F) (hn:bs.length≤68719476736) (h:∀v' w' F',Sl w' v' 1 bs.length (bs.map u8V) F'→Ext w w'→(∀b∈F',w.heap.size≤b)→R v' w'):Call Pg 19 #[v] w R:=by
 refine c_19 ?_
 simp only[F_19]
 have go:NEWS 5 0 (buildS 1 (.int .u8 0) 0 []) w (fun t5 w_1=>APP 5 1 1 (.int .u8 0) t5 v w_1 fun t7 w_2=>R t7 w_2):=by
  refine NEWS_of (cs:=#[]) 1 rfl rfl fun v' w' F' hs he hf=>?_
  have hv':=hv.ext he
  refine APP_of hs hv'.srcLen hv'.src (by simp) (oneCell_u8 bs) (by decide) rfl (by omega) fun s2 w2 F2 hs2 hm2 hf2=>?_
  refine h _ _ F2 ?_ (he.trans hm2 (fun b hb=>.inr (hf b hb))) ?_
  ·have :=hs2
   rw[Nat.zero_add] at this
   exact this
  ·intro b hb
   rcases hf2 b hb with h1 |h1
   ·exact hf b h1
   ·have :=he.size;omega
 rcases hv with ⟨⟨a,c,rfl,hac⟩,rfl,h3⟩ |⟨b,off,cap,cs,rfl,_⟩
 ·cases a with
  |none=>
   rw[hac rfl]
   simp only[binB_slice_eql,Option.isNone_none,PV_some,CND_true]
   exact h _ _ [] (Sl.nil w 1) (Mod.refl _ _) (by simp)
  |some a=>
   simp only[binB_slice_eql,Option.isNone_some,PV_some,CND_false]
   exact go
 ·simp only[binB_slice_eql,Option.isNone_some,PV_some,CND_false]
  exact go
structure Ent where
 key:ByteArray
 val:List UInt8
 dl:Nat
 birth:Nat
end Go.Cub
namespace Go.Cub
open Go Go.Proofs Go.IntWalk
structure Lk where
 nodes:Nat
 heads:Nat
 pv:Nat→Nat
 nx:Nat→Nat
 of:Nat→Nat
 ln:Nat→Nat
def lkF (pv nx of:Nat→Nat):Nat→Nat→Value:=fun i j=>.int .u32 (if j=0 then pv i else if j=1 then nx i else of i:Nat)
def Lk.Fits (L:Lk):Prop:=1≤L.nodes∧L.nodes≤4194304∧1≤L.heads∧L.heads≤4096
structure LkAt (w:World) (p:Nat) (L:Lk) (F:List Nat) (fv lv:Value) (Ff Fl:List Nat):Prop where
 row:row w p=some [fv,.int .i64 L.nodes,lv]
 field:Tb w fv 3 (L.nodes+L.heads) (lkF L.pv L.nx L.of) Ff
 lens:Tb w lv 1 L.heads (fun i _=>.int .i64 (L.ln i:Nat)) Fl
 own:F=p::(Ff++Fl)
 nodup:F.Nodup
 fits:L.Fits
def LkR (w:World) (p:Nat) (L:Lk) (F:List Nat):Prop:=∃fv lv Ff Fl,LkAt w p L F fv lv Ff Fl
section
variable {w w':World} {p:Nat} {L:Lk} {F S Ff Fl:List Nat} {fv lv:Value}
theorem LkAt.keep (h:LkAt w p L F fv lv Ff Fl) (hm:Mod S w w') (hd:∀b∈F,b∉S):LkAt w' p L F fv lv Ff Fl:=by
 have h1:=h.own
 exact⟨hm.row h.row (hd p (by simp[h1])),h.field.keep hm (fun b hb=>hd b (by simp[h1,hb])),h.lens.keep hm (fun b hb=>hd b (by simp[h1,hb])),h1,h.nodup,h.fits⟩
theorem LkR.keep (h:LkR w p L F) (hm:Mod S w w') (hd:∀b∈F,b∉S):LkR w' p L F:=by
 obtain⟨fv,lv,Ff,Fl,h⟩:=h
 exact⟨fv,lv,Ff,Fl,h.keep hm hd⟩
theorem LkR.ext (h:LkR w p L F) (hm:Ext w w'):LkR w' p L F:=h.keep hm (by simp)
theorem LkR.lt (h:LkR w p L F):∀b∈F,b<w.heap.size:=by
 obtain⟨fv,lv,Ff,Fl,h⟩:=h
 intro b hb
 rw[h.own] at hb
 rcases List.mem_cons.1 hb with rfl |hb
 ·exact row_lt h.row
 ·rcases List.mem_append.1 hb with hb |hb
  ·exact h.field.lt b hb
  ·exact h.lens.lt b hb
theorem LkAt.slice (h:LkAt w p L F fv lv Ff Fl):∃a n c,fv=.slice (some a) n c:=by
 rcases (show Sl _ _ _ _ _ _ from h.field).2 with ⟨_,h0,_⟩ |⟨b,off,cap,cs,h1,_⟩
 ·have :=h.fits.1;omega
 ·exact⟨_,_,_,h1⟩
end
section
variable {R:Value→World→Prop} {w:World} {p:Nat} {L:Lk} {F Ff Fl:List Nat} {fv lv:Value}
theorem c_links_none (hl:LkAt w p L F fv lv Ff Fl) (h:R (.bool false) w):Call Pg 337 #[ptrV p] w R:=by
 refine c_337 ?_
 simp only[F_337,binB_ptr_eql,Option.isNone_some,PV_some,GRD_ff,nilV_some,fldV_some]
 refine L1_of hl.row rfl ?_
 obtain⟨a,n,c,rfl⟩:=hl.slice
 simp only[binB_slice_eql,Option.isNone_some,PV_some,GRD_ff,pickV_false]
 exact h
theorem c_links_list (hl:LkAt w p L F fv lv Ff Fl) {k:Nat} (hk:k<L.heads) (h:R (.int .i64 0) w):Call Pg 301 #[ptrV p,.int .i64 k] w R:=by
 refine c_301 ?_
 simp only[F_301]
 refine c_links_none hl ?_
 have h1:¬((k:Int)<0):=by omega
 simp only[CND_false,binN_lss,PV_some,h1,decide_false,GRD_ff,nilV_some,fldV_some]
 refine L1_of hl.row rfl ?_
 have h2:¬((k:Int)≥L.heads):=by omega
 simp only[hl.lens.len,PV_some,binN_geq,h2,decide_false,GRD_ff,pickV_false,CND_false]
 exact h
theorem c_links_node (hl:LkAt w p L F fv lv Ff Fl) {n:Nat} (hn:n<4294967296) (h:R (.int .i64 (if n<L.nodes then 0 else 2)) w):Call Pg 350 #[ptrV p,.int .u32 n] w R:=by
 refine c_350 ?_
 simp only[F_350]
 refine c_links_none hl ?_
 simp only[CND_false,convI_eq,PV_some,nilV_some,fldV_some]
 refine L1_of hl.row rfl ?_
 simp(disch:=omega) only[i64_in]
 simp only[binN_geq,PV_some]
 refine CND_dec (fun hp=>?_) (fun hp=>?_)
 ·rw[if_neg (by omega)] at h;exact h
 ·rw[if_pos (by omega)] at h;exact h
theorem c_links_ring (hl:LkAt w p L F fv lv Ff Fl) {k:Nat} (hk:k<L.heads) (h:R (.int .u32 (L.nodes+k:Nat)) w):Call Pg 264 #[.int .i64 k,ptrV p] w R:=by
 refine c_264 ?_
 simp only[F_264,nilV_some,PV_some,fldV_some]
 refine L1_of hl.row rfl ?_
 have :=hl.fits
 unfold Lk.Fits at this
 simp only[binN_add,PV_some,convI_eq]
 simp(disch:=omega) only[i64_in,u32_in]
 simpa using h
theorem c_links_in (hl:LkAt w p L F fv lv Ff Fl) {n:Nat} (hn:n<4294967296) (h:R (.int .i64 (if n<L.nodes then(if L.of n=0 then 9 else 0) else 2)) w):Call Pg 326 #[ptrV p,.int .u32 n] w R:=by
 refine c_326 ?_
 simp only[F_326]
 refine c_links_node hl hn ?_
 by_cases hlt:n<L.nodes
 ·rw[if_pos hlt] at h
  simp only[hlt,if_true,binN_neq,PV_some,ne_eq,not_true_eq_false,decide_false,CND_false,nilV_some,fldV_some]
  refine L1_of hl.row rfl ?_
  obtain⟨b,o,hi,hF,hld,_⟩:=hl.field.at (kd:=.u32) (i:=n) (by omega)
  simp only[hi,PV_some,fldV_some]
  refine hld 2 (by decide) _ ?_
  simp only[lkF,binN_eql,PV_some]
  refine CND_dec (fun hp=>?_) (fun hp=>?_)
  ·simp at hp
   rw[if_pos hp] at h;exact h
  ·simp at hp
   rw[if_neg hp] at h;exact h
 ·rw[if_neg hlt] at h
  simp only[hlt,if_false,binN_neq,PV_some,ne_eq]
  exact h
theorem c_links_Of (hl:LkAt w p L F fv lv Ff Fl) {n:Nat} (hn:n<4294967296) (ho:L.of n<4294967296)
  (h:R (if n<L.nodes then(if L.of n=0 then .tuple #[.int .i64 0,.int .i64 9] else .tuple #[.int .i64 (L.of n - 1:Nat),.int .i64 0]) else .tuple #[.int .i64 0,.int .i64 2]) w):Call Pg 282 #[ptrV p,.int .u32 n] w R:=by
 refine c_282 ?_
 simp only[F_282]
 refine c_links_in hl hn ?_
 by_cases hlt:n<L.nodes
 ·rw[if_pos hlt] at h
  rw[if_pos hlt]
  by_cases h0:L.of n=0
  ·rw[if_pos h0] at h
   rw[if_pos h0]
   exact h
  ·rw[if_neg h0] at h
   simp only[h0,if_false,binN_neq,PV_some,ne_eq,not_true_eq_false,decide_false,CND_false,nilV_some,fldV_some]
   refine L1_of hl.row rfl ?_
   obtain⟨b,o,hi,hF,hld,_⟩:=hl.field.at (kd:=.u32) (i:=n) (by omega)
   simp only[hi,PV_some,fldV_some]
   refine hld 2 (by decide) _ ?_
   simp only[lkF,convI_eq,PV_some,binN_sub]
   simp(disch:=(simp;omega)) only[i64_in]
   have :((L.of n - 1:Nat):Int)=(L.of n:Int) - 1:=by omega
   rw[this] at h
   simpa using h
 ·rw[if_neg hlt] at h
  rw[if_neg hlt]
  exact h
theorem c_links_Nodes (hl:LkAt w p L F fv lv Ff Fl) (h:R (.int .i64 L.nodes) w):Call Pg 338 #[ptrV p] w R:=by
 refine c_338 ?_
 simp only[F_338]
 refine c_links_none hl ?_
 simp only[CND_false,PV_some,nilV_some,fldV_some]
 exact L1_of hl.row rfl h
theorem c_links_Len (hl:LkAt w p L F fv lv Ff Fl) {k:Nat} (hk:k<L.heads) (h:R (.int .i64 (L.ln k:Nat)) w):Call Pg 244 #[ptrV p,.int .i64 k] w R:=by
 refine c_244 ?_
 simp only[F_244]
 refine c_links_list hl hk ?_
 simp only[binN_neq,PV_some,ne_eq,not_true_eq_false,decide_false,CND_false,nilV_some,fldV_some]
 refine L1_of hl.row rfl ?_
 obtain⟨b,o,hi,hF,hld,_⟩:=hl.lens.at (kd:=.i64) (i:=k) hk
 simp only[hi,PV_some]
 exact hld 0 (by decide) _ h
def upd {α:Type} (f:Nat→α) (i:Nat) (x:α):Nat→α:=fun j=>if j=i then x else f j
def Lk.put (L:Lk) (n other:Nat):Lk:= {L with
 pv:=upd (upd L.pv n (L.pv other)) other n
 nx:=upd (upd L.nx n other) (L.pv other) n
 of:=upd L.of n (L.of other)
 ln:=upd L.ln (L.of other - 1) (L.ln (L.of other - 1)+1)}
theorem c_links_put (hl:LkAt w p L F fv lv Ff Fl) {n o:Nat} (hn:n<L.nodes+L.heads) (ho:o<L.nodes+L.heads) (hb:L.pv o<L.nodes+L.heads) (h1:n≠o) (h2:n≠L.pv o) (h3:1≤L.of o∧L.of o≤L.heads) (h4:L.ln (L.of o - 1)<9223372036854775807)
  (h:∀w',LkAt w' p (L.put n o) F fv lv Ff Fl→Mod F w w'→w'.heap.size=w.heap.size→R (.tuple #[]) w'):Call Pg 352 #[ptrV p,.int .u32 n,.int .u32 o] w R:=by
 have hfit:=hl.fits
 unfold Lk.Fits at hfit
 refine c_352 ?_
 simp only[F_352,nilV_some,PV_some,fldV_some]
 refine L1_of hl.row rfl ?_
 obtain⟨b,q,hi,hF,hld,_⟩:=hl.field.at (kd:=.u32) (i:=o) ho
 simp only[hi,PV_some,fldV_some]
 refine hld 0 (by decide) _ ?_
 refine L1_of (w:=w.drew) hl.row rfl ?_
 refine L1_of (w:=w.drew) hl.row rfl ?_
 simp only[hi,PV_some,fldV_some]
 refine hld 2 (by decide) _ ?_
 simp only[lkF]
 refine PV_of (v:=.agg #[.int .u32 (L.pv o),.int .u32 o,.int .u32 (L.of o)]) rfl ?_
 have hd:Ext w w.drew:=Ext.drew
 have hld':=hl.field.ext hd
 obtain⟨b1,q1,hi1,hF1,_,_,_,hsn⟩:=hld'.at (kd:=.u32) (i:=n) hn
 simp only[hi1,PV_some]
 refine hsn _ rfl (by simp[Value.oneCell']) _ fun w1 ht1 hm1 hz1=>?_
 have hp:p∉Ff:=by
  have :=hl.nodup;rw[hl.own] at this
  simp only[List.nodup_cons,List.mem_append,not_or] at this
  exact this.1.1
 have hfl:∀b∈Fl,b∉Ff:=by
  have :=hl.nodup;rw[hl.own] at this
  simp only[List.nodup_cons,List.nodup_append] at this
  intro b hb hb'
  exact this.2.2.2 b hb' b hb rfl
 have hr1:=hm1.row (hd.row hl.row (by simp)) hp
 refine L1_of (w:=w1.drew) hr1 rfl ?_
 refine L1_of (w:=w1.drew) hr1 rfl ?_
 have ht1':=ht1.ext (Ext.drew (w:=w1))
 obtain⟨b2,q2,hi2,hF2,_,_,hs2,_⟩:=ht1'.at (kd:=.u32) (i:=L.pv o) hb
 simp only[hi2,PV_some,fldV_some,if_true]
 refine hs2 1 _ (by decide) rfl _ fun w2 ht2 hm2 hz2=>?_
 obtain⟨b3,q3,hi3,hF3,_,_,hs3,_⟩:=ht2.at (kd:=.u32) (i:=o) ho
 simp only[hi3,PV_some,fldV_some]
 refine hs3 0 _ (by decide) rfl _ fun w3 ht3 hm3 hz3=>?_
 have hm03:Mod Ff w w3:=(((Mod.of_ext hd).trans hm1 (fun b hb=>.inl hb)).trans ((Mod.of_ext Ext.drew).trans hm2 (fun b hb=>.inl hb)) (fun b hb=>.inl hb)).trans hm3 (fun b hb=>.inl hb)
 have hr3:=hm03.row hl.row hp
 refine L1_of (w:=w3.drew) hr3 rfl ?_
 refine L1_of (w:=w3.drew) hr3 rfl ?_
 have ht3':=ht3.ext (Ext.drew (w:=w3))
 obtain⟨b4,q4,hi4,hF4,hl4,_⟩:=ht3'.at (kd:=.u32) (i:=n) hn
 simp only[hi4,PV_some,fldV_some]
 refine hl4 2 (by decide) _ ?_
 have hof:setRow (setRow (setRow (lkF L.pv L.nx L.of) n 0 (Value.agg #[.int .u32 (L.pv o),.int .u32 o,.int .u32 (L.of o)]).cells.toList) (L.pv o) 1 [.int .u32 n]) o 0 [.int .u32 n] n 2=.int .u32 (L.of o):=by
  simp[setRow,lkF,h1,h2]
 rw[hof]
 simp only[binN_sub,PV_some]
 simp(disch:=omega) only[u32_in]
 have e5:((L.of o:Int) - 1)=((L.of o - 1:Nat):Int):=by omega
 rw[e5]
 have hln3:=(hl.lens.keep hm03 hfl).ext (Ext.drew (w:=w3))
 obtain⟨b5,q5,hi5,hF5,hl5,_,hs5,_⟩:=hln3.at (kd:=.u32) (i:=L.of o - 1) (by omega)
 simp only[hi5,PV_some]
 refine hl5 0 (by decide) _ ?_
 simp only[binN_add,PV_some]
 rw[i64_in _ (by omega)]
 refine hs5 0 _ (by decide) rfl _ fun w4 ht4 hm4 hz4=>?_
 have hff:∀b∈Ff,b∉Fl:=fun b hb hb'=>hfl b hb' hb
 have hpl:p∉Fl:=by
  have :=hl.nodup;rw[hl.own] at this
  simp only[List.nodup_cons,List.mem_append,not_or] at this
  exact this.1.2
 have hm34:Mod Fl w3 w4:=(Mod.of_ext Ext.drew).trans hm4 (fun b hb=>.inl hb)
 have hmF:Mod F w w4:=by
  refine(hm03.mono (T:=F) ?_).trans (hm34.mono (T:=F) ?_) (fun b hb=>.inl hb)
  ·intro b hb;rw[hl.own];simp[hb]
  ·intro b hb;rw[hl.own];simp[hb]
 refine h w4 ⟨hm34.row hr3 hpl,?_,?_,hl.own,hl.nodup,hl.fits⟩ hmF ?_
 ·refine(ht3.keep hm34 hff).congr ?_
  intro i hi j hj
  have hj':j=0∨j=1∨j=2:=by omega
  simp only[setRow,lkF,Lk.put,upd]
  rcases hj' with rfl |rfl |rfl
  ·by_cases e1:i=o
   ·simp[e1]
   ·by_cases e2:i=n
    ·subst e2;simp[e1,h2]
    ·simp[e1,e2]
  ·by_cases e2:i=n
   ·subst e2;simp[h1,h2]
   ·by_cases e1:i=L.pv o
    ·simp[e1]
    ·simp[e1,e2]
  ·by_cases e2:i=n
   ·subst e2;simp[h1,h2]
   ·simp[e2]
 ·refine ht4.congr ?_
  intro i hi j hj
  have hj':j=0:=by omega
  subst hj'
  simp only[setRow,Lk.put,upd]
  by_cases e1:i=L.of o - 1
  ·simp[e1]
  ·simp[e1]
 ·rw[hz4,show w3.drew.heap.size=w3.heap.size from rfl,hz3,hz2,show w1.drew.heap.size=w1.heap.size from rfl,hz1]
  rfl
theorem LkAt.p_not (hl:LkAt w p L F fv lv Ff Fl):p∉Ff∧p∉Fl∧(∀b∈Fl,b∉Ff)∧(∀b∈Ff,b∉Fl):=by
 have :=hl.nodup
 rw[hl.own] at this
 simp only[List.nodup_cons,List.mem_append,not_or,List.nodup_append] at this
 exact⟨this.1.1,this.1.2,fun b hb hb'=>this.2.2.2 b hb' b hb rfl,fun b hb hb'=>this.2.2.2 b hb b hb' rfl⟩
theorem c_links_add (hl:LkAt w p L F fv lv Ff Fl) {k n:Nat} (hk:k<L.heads) (hn:n<L.nodes) (h0:L.of n=0) (hr:L.of (L.nodes+k)=k+1) (hb:L.pv (L.nodes+k)<L.nodes+L.heads) (h2:n≠L.pv (L.nodes+k)) (h4:L.ln k<9223372036854775807)
  (h:∀w',LkAt w' p (L.put n (L.nodes+k)) F fv lv Ff Fl→Mod F w w'→w'.heap.size=w.heap.size→R (.int .i64 0) w'):Call Pg 304 #[ptrV p,.int .i64 k,.int .u32 n] w R:=by
 have hfit:=hl.fits
 unfold Lk.Fits at hfit
 refine c_304 ?_
 simp only[F_304]
 refine c_341 ?_
 simp only[F_341]
 refine c_links_list hl hk ?_
 simp only[binN_neq,PV_some,ne_eq,not_true_eq_false,decide_false,CND_false]
 refine c_links_node hl (by omega) ?_
 simp only[hn,if_true,binN_neq,PV_some,ne_eq,not_true_eq_false,decide_false,CND_false,nilV_some,fldV_some]
 refine L1_of hl.row rfl ?_
 obtain⟨b,q,hi,hF,hld,_⟩:=hl.field.at (kd:=.u32) (i:=n) (by omega)
 simp only[hi,PV_some,fldV_some]
 refine hld 2 (by decide) _ ?_
 have e:lkF L.pv L.nx L.of n 2=.int .u32 0:=by simp[lkF,h0]
 simp only[e,binN_neq,PV_some,ne_eq,not_true_eq_false,decide_false,CND_false]
 refine c_links_ring hl hk ?_
 refine c_links_put hl (by omega) (by omega) hb (by omega) h2 (by rw[hr];omega) (by rw[hr];simpa using h4) fun w' h1 hm hz=>?_
 exact h w' h1 hm hz
def Lk.rem (L:Lk) (n:Nat):Lk:= {L with
 pv:=upd (upd L.pv (L.nx n) (L.pv n)) n 0
 nx:=upd (upd L.nx (L.pv n) (L.nx n)) n 0
 of:=upd L.of n 0
 ln:=upd L.ln (L.of n - 1) (L.ln (L.of n - 1) - 1)}
theorem c_links_Remove (hl:LkAt w p L F fv lv Ff Fl) {n:Nat} (hn:n<L.nodes) (hp:L.pv n<L.nodes+L.heads) (hx:L.nx n<L.nodes+L.heads) (h1:L.pv n≠n) (h2:L.nx n≠n) (h3:1≤L.of n∧L.of n≤L.heads) (h4:1≤L.ln (L.of n - 1)∧L.ln (L.of n - 1)<9223372036854775807)
  (h:∀w',LkAt w' p (L.rem n) F fv lv Ff Fl→Mod F w w'→R (.int .i64 0) w'):Call Pg 283 #[ptrV p,.int .u32 n] w R:=by
 have hfit:=hl.fits
 unfold Lk.Fits at hfit
 obtain⟨hpF,hpl,hfl,hff⟩:=hl.p_not
 have hofn:L.of n≠0:=by omega
 refine c_283 ?_
 simp only[F_283]
 refine c_links_in hl (by omega) ?_
 simp only[hn,if_true,hofn,if_false,binN_neq,PV_some,ne_eq,not_true_eq_false,decide_false,CND_false,nilV_some,fldV_some]
 refine L1_of hl.row rfl ?_
 obtain⟨b,q,hi,hF,_,hln,_⟩:=hl.field.at (kd:=.u32) (i:=n) (by omega)
 simp only[hi,PV_some,fldV_some]
 refine hln _ ?_
 refine NEW_of fun b1 w1 hb1 hr1 he1 hz1=>?_
 refine SN_of hr1 rfl (by simp) (by simp[lkF,List.range_succ,Value.oneCell']) fun w2 hr2 hm2 hz2=>?_
 have hr2':row w2 b1=some [.int .u32 (L.pv n),.int .u32 (L.nx n),.int .u32 (L.of n)]:=by
  rw[hr2];simp[splice,lkF,List.range_succ]
 have hx2:Ext w w2:=he1.trans hm2 (by simp[hb1])
 have hl2:=(hl.keep hx2 (by simp)).keep (Ext.drew (w:=w2)) (by simp)
 refine L1_of hl2.row rfl ?_
 refine L1_of (w:=w2.drew) hr2' rfl ?_
 refine L1_of hl2.row rfl ?_
 refine L1_of (w:=w2.drew) hr2' rfl ?_
 refine L1_of (w:=w2.drew) hr2' rfl ?_
 refine L1_of (w:=w2.drew) hr2' rfl ?_
 obtain⟨b3,q3,hi3,hF3,_,_,hs3,_⟩:=hl2.field.at (kd:=.u32) (i:=L.pv n) hp
 simp only[hi3,PV_some,fldV_some]
 refine hs3 1 _ (by decide) rfl _ fun w3 ht3 hm3 hz3=>?_
 have hb1F:b1∉Ff:=fun hb=>by have :=hl.field.lt b1 hb;omega
 have hr3:=hm3.row (show row w2.drew b1=_ from hr2') hb1F
 refine⟨L1_of hr3 rfl rfl,L1_of hr3 rfl rfl,?_⟩
 obtain⟨b4,q4,hi4,hF4,_,_,hs4,_⟩:=ht3.at (kd:=.u32) (i:=L.nx n) hx
 simp only[hi4,PV_some,fldV_some]
 refine hs4 0 _ (by decide) rfl _ fun w4 ht4 hm4 hz4=>?_
 have hm24:Mod Ff w2 w4:=((Mod.of_ext Ext.drew).trans hm3 (fun b hb=>.inl hb)).trans hm4 (fun b hb=>.inl hb)
 have hm04:Mod Ff w w4:=(Mod.of_ext hx2).trans hm24 (fun b hb=>.inl hb)
 have hrp4:=hm04.row hl.row hpF
 have hr4:=hm4.row hr3 hb1F
 refine L1_of (w:=w4.drew) hrp4 rfl ?_
 refine L1_of (w:=w4.drew) hr4 rfl ?_
 simp only[binN_sub,PV_some]
 have e5:((L.of n:Int) - 1)=((L.of n - 1:Nat):Int):=by omega
 rw[u32_in _ (by omega),e5]
 have hln4:=(hl.lens.keep hm04 hfl).ext (Ext.drew (w:=w4))
 obtain⟨b5,q5,hi5,hF5,hl5,_,hs5,_⟩:=hln4.at (kd:=.u32) (i:=L.of n - 1) (by omega)
 simp only[hi5,PV_some]
 refine hl5 0 (by decide) _ ?_
 simp only[binN_sub,PV_some]
 rw[i64_in _ (by omega)]
 refine hs5 0 _ (by decide) rfl _ fun w5 ht5 hm5 hz5=>?_
 have hm45:Mod Fl w4 w5:=(Mod.of_ext Ext.drew).trans hm5 (fun b hb=>.inl hb)
 have hrp5:=hm45.row hrp4 hpl
 refine L1_of hrp5 rfl ?_
 refine PV_of (v:=.agg #[.int .u32 0,.int .u32 0,.int .u32 0]) rfl ?_
 have ht45:=ht4.keep hm45 hff
 obtain⟨b6,q6,hi6,hF6,_,_,_,hs6⟩:=ht45.at (kd:=.u32) (i:=n) (by omega)
 simp only[hi6,PV_some]
 refine hs6 _ rfl (by simp[Value.oneCell']) _ fun w6 ht6 hm6 hz6=>?_
 have hmF:Mod F w w6:=by
  refine((hm04.mono (T:=F) ?_).trans (hm45.mono (T:=F) ?_) (fun b hb=>.inl hb)).trans (hm6.mono (T:=F) ?_) (fun b hb=>.inl hb)
  all_goals (intro b hb;rw[hl.own];simp[hb])
 refine h w6 ⟨hm6.row hrp5 hpF,?_,?_,hl.own,hl.nodup,hl.fits⟩ hmF
 ·refine ht6.congr ?_
  intro i hi j hj
  have hj':j=0∨j=1∨j=2:=by omega
  simp only[setRow,lkF,Lk.rem,upd]
  rcases hj' with rfl |rfl |rfl
  ·by_cases e1:i=n
   ·simp[e1]
   ·by_cases e2:i=L.nx n
    ·simp[e1,e2,h2]
    ·simp[e1,e2]
  ·by_cases e1:i=n
   ·simp[e1]
   ·by_cases e2:i=L.pv n
    ·simp[e1,e2,h1]
    ·simp[e1,e2]
  ·by_cases e1:i=n
   ·simp[e1]
   ·simp[e1]
 ·refine(ht5.keep hm6 hfl).congr ?_
  intro i hi j hj
  have hj':j=0:=by omega
  subst hj'
  simp only[setRow,Lk.rem,upd]
  by_cases e1:i=L.of n - 1
  ·simp[e1];omega
  ·simp[e1]
end
end Go.Cub
namespace Go.Cub
open Go Go.Proofs Go.IntWalk
def Chain (nx pv:Nat→Nat):Nat→List Nat→Nat→Prop
 |a,[],z=>nx a=z∧pv z=a
 |a,x::l,z=>nx a=x∧pv x=a∧Chain nx pv x l z
theorem Chain.congr {nx pv nx' pv':Nat→Nat}:∀ {l:List Nat} {a z:Nat},Chain nx pv a l z→(∀x∈a::l,nx' x=nx x)→(∀x∈z::l,pv' x=pv x)→Chain nx' pv' a l z
 |[],a,z,h,h1,h2=>⟨(h1 a (by simp)).trans h.1,(h2 z (by simp)).trans h.2⟩
 |x::l,a,z,h,h1,h2=>⟨(h1 a (by simp)).trans h.1,(h2 x (by simp)).trans h.2.1,h.2.2.congr (fun y hy=>h1 y (List.mem_cons_of_mem _ hy)) (fun y hy=>h2 y (by
   rcases List.mem_cons.1 hy with rfl |hy
   ·simp
   ·exact List.mem_cons_of_mem _ (List.mem_cons_of_mem _ hy)))⟩
theorem Chain.last {nx pv:Nat→Nat}:∀ {l:List Nat} {a z:Nat},Chain nx pv a l z→pv z=(a::l).getLast (by simp)∧nx ((a::l).getLast (by simp))=z
 |[],a,z,h=>⟨h.2,h.1⟩
 |x::l,a,z,h=>by
  have :=h.2.2.last
  simpa using this
theorem Chain.append {nx pv:Nat→Nat}:∀ {l l':List Nat} {a z x:Nat},Chain nx pv a (l++x::l') z↔Chain nx pv a l x∧Chain nx pv x l' z
 |[],l',a,z,x=>by simp[Chain,and_assoc]
 |y::l,l',a,z,x=>by
  simp only[List.cons_append,Chain,Chain.append (l:=l)]
  simp only[and_assoc]
theorem Chain.redirect {nx pv nx' pv':Nat→Nat} {z':Nat}:∀ {l:List Nat} {a z:Nat},Chain nx pv a l z→(a::l).Nodup→(∀x∈a::l,x≠(a::l).getLast (by simp)→nx' x=nx x)→(∀x∈l,pv' x=pv x)→
  nx' ((a::l).getLast (by simp))=z'→pv' z'=(a::l).getLast (by simp)→Chain nx' pv' a l z'
 |[],a,z,h,hn,h1,h2,h3,h4=>⟨h3,h4⟩
 |x::l,a,z,h,hn,h1,h2,h3,h4=>by
  simp only[List.getLast_cons_cons] at h1 h3 h4
  have hn':=List.nodup_cons.1 hn
  refine⟨(h1 a (by simp) ?_).trans h.1,(h2 x (by simp)).trans h.2.1,h.2.2.redirect hn'.2 (fun y hy=>h1 y (List.mem_cons_of_mem _ hy)) (fun y hy=>h2 y (List.mem_cons_of_mem _ hy)) h3 h4⟩
  intro e
  exact hn'.1 (e ▸ List.getLast_mem _)
structure Good (L:Lk) (ls:Nat→List Nat):Prop where
 chain:∀h,h<L.heads→Chain L.nx L.pv (L.nodes+h) (ls h) (L.nodes+h)
 of:∀h,h<L.heads→∀x∈ls h,x<L.nodes∧L.of x=h+1
 ring:∀h,h<L.heads→L.of (L.nodes+h)=h+1
 len:∀h,h<L.heads→L.ln h=(ls h).length
 nodup:∀h,h<L.heads→(ls h).Nodup
 all:∀x,x<L.nodes→L.of x≠0→∃h,h<L.heads∧x∈ls h
section
variable {L:Lk} {ls:Nat→List Nat} {n k:Nat}
theorem Good.ring_not (g:Good L ls) (hk:k<L.heads):((L.nodes+k)::ls k).Nodup:=by
 refine List.nodup_cons.2 ⟨fun h=>?_,g.nodup k hk⟩
 have :=(g.of k hk _ h).1
 omega
theorem Good.ofC (g:Good L ls) (hk:k<L.heads):∀x∈(L.nodes+k)::ls k,L.of x=k+1:=by
 intro x hx
 rcases List.mem_cons.1 hx with rfl |hx
 ·exact g.ring k hk
 ·exact(g.of k hk x hx).2
theorem Good.lt (g:Good L ls) (hk:k<L.heads):∀x∈(L.nodes+k)::ls k,x<L.nodes+L.heads:=by
 intro x hx
 rcases List.mem_cons.1 hx with rfl |hx
 ·omega
 ·have :=(g.of k hk x hx).1;omega
theorem Good.last (g:Good L ls) (hk:k<L.heads):L.pv (L.nodes+k)=((L.nodes+k)::ls k).getLast (by simp):=(g.chain k hk).last.1
theorem Good.put (g:Good L ls) (hk:k<L.heads) (hn:n<L.nodes) (h0:L.of n=0):Good (L.put n (L.nodes+k)) (upd ls k (ls k++[n])):=by
 have hlast:=g.last hk
 have hmem:L.pv (L.nodes+k)∈(L.nodes+k)::ls k:=hlast ▸ List.getLast_mem _
 have hofa:=g.ofC hk _ hmem
 have hna:n≠L.pv (L.nodes+k):=fun e=>by rw[←e,h0] at hofa;omega
 refine⟨?_,?_,?_,?_,?_,?_⟩
 ·intro h hh
  by_cases e:h=k
  ·subst e
   show Chain _ _ _ (upd ls h (ls h++[n]) h) _
   rw[show upd ls h (ls h++[n]) h=ls h++n::[] by simp[upd],Chain.append]
   refine⟨?_,?_⟩
   ·refine(g.chain h hk).redirect (g.ring_not hk) ?_ ?_ ?_ ?_
    ·intro x hx hxl
     have hx1:x≠n:=fun e=>by have :=g.ofC hk x hx;rw[e,h0] at this;omega
     rw[←hlast] at hxl
     simp[Lk.put,upd,hx1,hxl]
    ·intro x hx
     have hx1:x≠n:=fun e=>by have :=(g.of h hk x hx).2;rw[e,h0] at this;omega
     have hx2:x≠L.nodes+h:=fun e=>by have :=(g.of h hk x hx).1;omega
     simp[Lk.put,upd,hx1,hx2]
    ·rw[←hlast];simp[Lk.put,upd]
    ·rw[←hlast]
     have :n≠L.nodes+h:=by omega
     simp[Lk.put,upd,this]
   ·have :n≠L.nodes+h:=by omega
    refine⟨?_,?_⟩
    ·simp[Lk.put,upd,hna]
    ·simp[Lk.put,upd]
  ·show Chain _ _ _ (upd ls k (ls k++[n]) h) _
   rw[show upd ls k (ls k++[n]) h=ls h by simp[upd,e]]
   refine(g.chain h hh).congr ?_ ?_
   ·intro x hx
    have :=g.ofC hh x hx
    have hx1:x≠n:=fun e=>by rw[e,h0] at this;omega
    have hx2:x≠L.pv (L.nodes+k):=fun e'=>by rw[e',hofa] at this;omega
    simp[Lk.put,upd,hx1,hx2]
   ·intro x hx
    have :=g.ofC hh x hx
    have hx1:x≠n:=fun e=>by rw[e,h0] at this;omega
    have hx2:x≠L.nodes+k:=fun e'=>by rw[e',g.ring k hk] at this;omega
    simp[Lk.put,upd,hx1,hx2]
 ·intro h hh x hx
  have hring:=g.ring k hk
  by_cases e:h=k
  ·subst e
   rw[show upd ls h (ls h++[n]) h=ls h++[n] by simp[upd]] at hx
   rcases List.mem_append.1 hx with hx |hx
   ·have :=g.of h hh x hx
    have hx1:x≠n:=fun e=>by rw[e,h0] at this;omega
    simpa[Lk.put,upd,hx1] using this
   ·simp only[List.mem_singleton] at hx
    subst hx
    simp[Lk.put,upd,hn,hring]
  ·rw[show upd ls k (ls k++[n]) h=ls h by simp[upd,e]] at hx
   have :=g.of h hh x hx
   have hx1:x≠n:=fun e=>by rw[e,h0] at this;omega
   simpa[Lk.put,upd,hx1] using this
 ·intro h hh
  have :L.nodes+h≠n:=by omega
  simpa[Lk.put,upd,this] using g.ring h hh
 ·intro h hh
  have hr:=g.ring k hk
  by_cases e:h=k
  ·subst e
   simp[Lk.put,upd,hr,g.len h hh]
  ·simp[Lk.put,upd,hr,e,g.len h hh]
 ·intro h hh
  by_cases e:h=k
  ·subst e
   simp only[upd,if_true]
   rw[List.nodup_append]
   refine⟨g.nodup h hh,by simp,?_⟩
   intro a ha b hb e
   simp only[List.mem_singleton] at hb
   have :=(g.of h hh a ha).2
   rw[e,hb,h0] at this;omega
  ·simp only[upd,if_neg e];exact g.nodup h hh
 ·intro x hx hox
  by_cases e:x=n
  ·subst e
   exact⟨k,hk,by simp[upd]⟩
  ·have :L.of x≠0:=by simpa[Lk.put,upd,e] using hox
   obtain⟨h,hh,hm⟩:=g.all x hx this
   refine⟨h,hh,?_⟩
   by_cases e':h=k
   ·subst e';simp[upd,hm]
   ·simp[upd,e',hm]
end
end Go.Cub
namespace Go.Cub
open Go Go.Proofs Go.IntWalk
section
variable {L:Lk} {ls:Nat→List Nat} {n k:Nat}
theorem Good.last_mem (g:Good L ls) (hk:k<L.heads):L.pv (L.nodes+k)∈(L.nodes+k)::ls k:=g.last hk ▸ List.getLast_mem _
theorem Good.split (g:Good L ls) (hk:k<L.heads) {l1 l2:List Nat} (e:ls k=l1++n::l2):Chain L.nx L.pv (L.nodes+k) l1 n∧Chain L.nx L.pv n l2 (L.nodes+k)∧L.pv n=((L.nodes+k)::l1).getLast (by simp)∧
  n∉l1∧n∉l2∧(∀x∈l1,x∉l2)∧l1.Nodup∧l2.Nodup∧n<L.nodes∧L.of n=k+1:=by
 have h1:=g.chain k hk
 have h2:=g.nodup k hk
 rw[e] at h1 h2
 rw[Chain.append] at h1
 simp only[List.nodup_append,List.nodup_cons,List.mem_cons] at h2
 obtain⟨a1,⟨a2,a3⟩,a4⟩:=h2
 have h3:=g.of k hk n (by rw[e];simp)
 exact⟨h1.1,h1.2,h1.1.last.1,fun h=>a4 n h n (.inl rfl) rfl,a2,fun x hx hx'=>a4 x hx x (.inr hx') rfl,a1,a3,h3⟩
theorem Good.nbrs (g:Good L ls) (hk:k<L.heads) (hn:n∈ls k):L.pv n<L.nodes+L.heads∧L.nx n<L.nodes+L.heads∧L.pv n≠n∧L.nx n≠n∧L.pv n∈(L.nodes+k)::ls k∧L.nx n∈(L.nodes+k)::ls k:=by
 obtain⟨l1,l2,e⟩:=List.append_of_mem hn
 obtain⟨c1,c2,c3,c4,c5,c6,c7,c8,c9,c10⟩:=g.split hk e
 have hm1:L.pv n∈(L.nodes+k)::l1:=c3 ▸ List.getLast_mem _
 have hp:L.pv n∈(L.nodes+k)::ls k:=by
  rw[e]
  rcases List.mem_cons.1 hm1 with h |h
  ·simp[h]
  ·simp[h]
 have hx:L.nx n=L.nodes+k∨L.nx n∈l2:=by
  cases l2 with
  |nil=>exact .inl c2.1
  |cons y l3=>exact .inr (by rw[c2.1];simp)
 have hx':L.nx n∈(L.nodes+k)::ls k:=by
  rw[e]
  rcases hx with h |h
  ·simp[h]
  ·simp[h]
 refine⟨g.lt hk _ hp,g.lt hk _ hx',fun h=>?_,fun h=>?_,hp,hx'⟩
 ·rw[h] at hm1
  rcases List.mem_cons.1 hm1 with h |h
  ·omega
  ·exact c4 h
 ·rcases hx with h' |h'
  ·omega
  ·rw[h] at h';exact c5 h'
theorem erase_mid {l1 l2:List Nat} (h:n∉l1):(l1++n::l2).erase n=l1++l2:=by
 rw[List.erase_append_right _ h];simp
theorem Good.rem (g:Good L ls) (hk:k<L.heads) (hn:n∈ls k):Good (L.rem n) (upd ls k ((ls k).erase n)):=by
 obtain⟨l1,l2,e⟩:=List.append_of_mem hn
 obtain⟨c1,c2,c3,c4,c5,c6,c7,c8,c9,c10⟩:=g.split hk e
 obtain⟨d1,d2,d3,d4,d5,d6⟩:=g.nbrs hk hn
 have er:(ls k).erase n=l1++l2:=by rw[e,erase_mid c4]
 have hring:∀h,L.nodes+h≠n:=fun h=>by omega
 have hofp:=g.ofC hk _ d5
 have hofx:=g.ofC hk _ d6
 refine⟨?_,?_,?_,?_,?_,?_⟩
 ·intro h hh
  by_cases eh:h=k
  ·subst eh
   show Chain _ _ _ (upd ls h ((ls h).erase n) h) _
   rw[show upd ls h ((ls h).erase n) h=l1++l2 by simp[upd,er]]
   have hl1:∀x∈l1,x<L.nodes:=fun x hx=>(g.of h hh x (by rw[e];simp[hx])).1
   have hl2:∀x∈l2,x<L.nodes:=fun x hx=>(g.of h hh x (by rw[e];simp[hx])).1
   have key:∀z,z=L.nx n→(z=L.nodes+h∨z∈l2)→Chain (L.rem n).nx (L.rem n).pv (L.nodes+h) l1 z:=by
    intro z hz hz2
    refine c1.redirect (List.nodup_cons.2 ⟨fun hm=>by have :=hl1 _ hm;omega,c7⟩) ?_ ?_ ?_ ?_
    ·intro x hx hxl
     rw[←c3] at hxl
     have :x≠n:=by
      rcases List.mem_cons.1 hx with hx |hx
      ·rw[hx];exact hring h
      ·exact fun h=>c4 (h ▸ hx)
     simp[Lk.rem,upd,this,hxl]
    ·intro x hx
     have h1:x≠n:=fun h=>c4 (h ▸ hx)
     have h2:x≠L.nx n:=by
      rw[←hz]
      rcases hz2 with h3 |h3
      ·rw[h3];have :=hl1 x hx;omega
      ·exact fun h4=>c6 x hx (h4 ▸ h3)
     simp[Lk.rem,upd,h1,h2]
    ·rw[←c3];simp[Lk.rem,upd,d3,hz]
    ·rw[←c3,hz];simp[Lk.rem,upd,d4]
   cases l2 with
   |nil=>
    rw[List.append_nil]
    exact key _ c2.1.symm (.inl rfl)
   |cons y l3=>
    rw[Chain.append]
    refine⟨key y c2.1.symm (.inr (by simp)),?_⟩
    refine c2.2.2.congr ?_ ?_
    ·intro x hx
     have h1:x≠n:=fun h=>c5 (h ▸ hx)
     have h2:x≠L.pv n:=by
      intro h3
      have h4:L.pv n∈(L.nodes+h)::l1:=c3 ▸ List.getLast_mem _
      rw[←h3] at h4
      rcases List.mem_cons.1 h4 with h4 |h4
      ·have :=hl2 x hx;omega
      ·exact c6 x h4 hx
     simp[Lk.rem,upd,h1,h2]
    ·intro x hx
     have h1:x≠n:=by
      rcases List.mem_cons.1 hx with hx |hx
      ·rw[hx];exact hring h
      ·exact fun h=>c5 (h ▸ List.mem_cons_of_mem _ hx)
     have h2:x≠L.nx n:=by
      rw[c2.1]
      rcases List.mem_cons.1 hx with hx |hx
      ·rw[hx];have :=hl2 y (by simp);omega
      ·rintro rfl
       simp only[List.nodup_cons] at c8
       exact c8.1 hx
     simp[Lk.rem,upd,h1,h2]
  ·show Chain _ _ _ (upd ls k ((ls k).erase n) h) _
   rw[show upd ls k ((ls k).erase n) h=ls h by simp[upd,eh]]
   refine(g.chain h hh).congr ?_ ?_
   all_goals
    intro x hx
    have hox:=g.ofC hh x hx
    have h1:x≠n:=fun h'=>by rw[h',c10] at hox;omega
    have h2:x≠L.pv n:=fun h'=>by rw[h',hofp] at hox;omega
    have h3:x≠L.nx n:=fun h'=>by rw[h',hofx] at hox;omega
    simp[Lk.rem,upd,h1,h2,h3]
 ·intro h hh x hx
  by_cases eh:h=k
  ·subst eh
   rw[show upd ls h ((ls h).erase n) h=l1++l2 by simp[upd,er]] at hx
   have hx':x∈ls h:=by
    rw[e]
    rcases List.mem_append.1 hx with h |h<;>simp[h]
   have h1:x≠n:=by
    rcases List.mem_append.1 hx with h |h
    ·exact fun h'=>c4 (h' ▸ h)
    ·exact fun h'=>c5 (h' ▸ h)
   have :=g.of h hh x hx'
   simpa[Lk.rem,upd,h1] using this
  ·rw[show upd ls k ((ls k).erase n) h=ls h by simp[upd,eh]] at hx
   have :=g.of h hh x hx
   have h1:x≠n:=fun h'=>by rw[h',c10] at this;omega
   simpa[Lk.rem,upd,h1] using this
 ·intro h hh
  simpa[Lk.rem,upd,hring h] using g.ring h hh
 ·intro h hh
  by_cases eh:h=k
  ·subst eh
   have h1:=g.len h hh
   have h2:(ls h).length=((ls h).erase n).length+1:=by rw[er,e];simp;omega
   simp only[Lk.rem,upd,c10,Nat.add_sub_cancel,if_true]
   omega
  ·have :h≠L.of n - 1:=by omega
   simp[Lk.rem,upd,this,eh,g.len h hh]
 ·intro h hh
  by_cases eh:h=k
  ·subst eh
   simp only[upd,if_true]
   exact(g.nodup h hh).erase n
  ·simp only[upd,if_neg eh];exact g.nodup h hh
 ·intro x hx hox
  by_cases ex:x=n
  ·subst ex
   simp[Lk.rem,upd] at hox
  ·have :L.of x≠0:=by simpa[Lk.rem,upd,ex] using hox
   obtain⟨h,hh,hm⟩:=g.all x hx this
   refine⟨h,hh,?_⟩
   by_cases eh:h=k
   ·subst eh
    simp only[upd,if_true]
    exact(List.mem_erase_of_ne ex).2 hm
   ·simp[upd,eh,hm]
end
theorem nodup_le:∀(n:Nat) (l:List Nat),l.Nodup→(∀x∈l,x<n)→l.length≤n
 |0,[],_,_=>by simp
 |0,x::l,_,h=>by have :=h x (by simp);omega
 |n+1,l,hd,h=>by
  by_cases hm:n∈l
  ·have h1:=nodup_le n (l.erase n) (hd.erase n) fun x hx=>by
    have h2:=(hd.mem_erase_iff.1 hx)
    have :=h x h2.2
    omega
   rw[List.length_erase_of_mem hm] at h1
   omega
  ·have :=nodup_le n l hd fun x hx=>by
    have :=h x hx
    have :x≠n:=fun e=>hm (e ▸ hx)
    omega
   omega
theorem LkAt.get {h h':Hp} {p:Nat} {L:Lk} {F Ff Fl:List Nat} {fv lv:Value} (a:LkAt (wh h) p L F fv lv Ff Fl) (hk:∀b∈F,h'.o[b]?=h.o[b]?):LkAt (wh h') p L F fv lv Ff Fl:=
 ⟨by rw[row_get (hk p (by rw[a.own];simp))];exact a.row,Sl.get a.field fun b hb=>hk b (by rw[a.own];simp[hb]),Sl.get a.lens fun b hb=>hk b (by rw[a.own];simp[hb]),a.own,a.nodup,a.fits⟩
def lk (p N M:Nat) (ls:Nat→List Nat):HP:=⟨fun h F G=>(∃L fv lv Ff Fl,L.nodes=N∧L.heads=M∧Good L ls∧LkAt (wh h) p L F fv lv Ff Fl)∧G=[],
 fun a hk _=>by
  obtain⟨⟨L,fv,lv,Ff,Fl,h1,h2,h3,h4⟩,h5⟩:=a
  exact⟨⟨L,fv,lv,Ff,Fl,h1,h2,h3,h4.get fun b hb=>hk b (.inl hb)⟩,h5⟩,
 fun a b hb=>by
  obtain⟨⟨L,fv,lv,Ff,Fl,h1,h2,h3,h4⟩,h5⟩:=a
  subst h5
  simp at hb
  exact LkR.lt ⟨fv,lv,Ff,Fl,h4⟩ b hb,
 fun h b hb=>by rw[h.2];simp⟩
instance {p N M:Nat} {ls:Nat→List Nat}:Keyed (lk p N M ls) (.b p):=⟨⟩
section
variable {R:Value→World→Prop} {w:World} {p N M k n:Nat} {ls ls':Nat→List Nat} {C:List HP} {u:HP→List HP}
theorem Own.lk (H:Own w.hp (lk p N M ls::C)):∃L F fv lv Ff Fl,L.nodes=N∧L.heads=M∧Good L ls∧LkAt w p L F fv lv Ff Fl:=by
 obtain⟨F,G,F1,F2,G1,G2,e1,e2,a,o,d⟩:=H
 obtain⟨⟨L,fv,lv,Ff,Fl,h1,h2,h3,h4⟩,h5⟩:=a
 exact⟨L,_,fv,lv,Ff,Fl,h1,h2,h3,⟨h4.row,h4.field,h4.lens,h4.own,h4.nodup,h4.fits⟩⟩
theorem own_lk {N':Nat} (H:Own w.hp (Go.Cub.lk p N M ls::C)):∃L F fv lv Ff Fl,L.nodes=N∧L.heads=M∧Good L ls∧LkAt w p L F fv lv Ff Fl∧∀w' L' fv' lv' Ff' Fl',L'.nodes=N'→L'.heads=M→Good L' ls'→LkAt w' p L' F fv' lv' Ff' Fl'→Mod F w w'→Own w'.hp (Go.Cub.lk p N' M ls'::C):=by
 obtain⟨F,G,a,hu⟩:=H.upd
 obtain⟨⟨L,fv,lv,Ff,Fl,h1,h2,h3,h4⟩,h5⟩:=a
 refine⟨L,_,fv,lv,Ff,Fl,h1,h2,h3,⟨h4.row,h4.field,h4.lens,h4.own,h4.nodup,h4.fits⟩,?_⟩
 intro w' L' fv' lv' Ff' Fl' e1 e2 e3 e4 hm
 exact hu _ _ F [] (fun b hb hF=>hm.same b hb hF) hm.he ⟨⟨L',fv',lv',Ff',Fl',e1,e2,e3,⟨e4.row,e4.field,e4.lens,e4.own,e4.nodup,e4.fits⟩⟩,rfl⟩ (fun b hb=>.inl hb) (by simp)
theorem lk_fits (H:Own w.hp (lk p N M ls::C)):1≤N∧N≤4194304∧1≤M∧M≤4096:=by
 obtain⟨L,F,fv,lv,Ff,Fl,rfl,rfl,g,a⟩:=H.lk
 exact a.fits
theorem lk_lt (H:Own w.hp (lk p N M ls::C)) (hk:k<M):∀x∈ls k,x<N:=by
 obtain⟨L,F,fv,lv,Ff,Fl,rfl,rfl,g,a⟩:=H.lk
 exact fun x hx=>(g.of k hk x hx).1
theorem lk_nodup (H:Own w.hp (lk p N M ls::C)) (hk:k<M):(ls k).Nodup:=by
 obtain⟨L,F,fv,lv,Ff,Fl,rfl,rfl,g,a⟩:=H.lk
 exact g.nodup k hk
theorem lk_one (H:Own w.hp (lk p N M ls::C)) (hk:k<M) {j:Nat} (hj:j<M) (h1:n∈ls k) (h2:n∈ls j):k=j:=by
 obtain⟨L,F,fv,lv,Ff,Fl,rfl,rfl,g,a⟩:=H.lk
 have :=(g.of k hk n h1).2
 have :=(g.of j hj n h2).2
 omega
theorem k_links_Nodes [f:Foc C (.b p) (lk p N M ls) u] (H:Own w.hp C) (h:R (.int .i64 N) w):Call Pg 338 #[ptrV p] w R:=by
 obtain⟨L,F,fv,lv,Ff,Fl,rfl,rfl,g,a⟩:=(f.get H).lk
 exact c_links_Nodes a h
theorem k_links_Len [f:Foc C (.b p) (lk p N M ls) u] (H:Own w.hp C) (hk:k<M) (h:R (.int .i64 (ls k).length) w):Call Pg 244 #[ptrV p,.int .i64 k] w R:=by
 obtain⟨L,F,fv,lv,Ff,Fl,rfl,rfl,g,a⟩:=(f.get H).lk
 refine c_links_Len a hk ?_
 rw[g.len k hk];exact h
theorem k_links_Of [f:Foc C (.b p) (lk p N M ls) u] (H:Own w.hp C) (hk:k<M) (hn:n∈ls k) (h:R (.tuple #[.int .i64 k,.int .i64 0]) w):Call Pg 282 #[ptrV p,.int .u32 n] w R:=by
 obtain⟨L,F,fv,lv,Ff,Fl,rfl,rfl,g,a⟩:=(f.get H).lk
 obtain⟨h1,h2⟩:=g.of k hk n hn
 have :=a.fits
 unfold Lk.Fits at this
 refine c_links_Of a (by omega) (by omega) ?_
 rw[if_pos h1,h2,if_neg (by omega)]
 exact h
theorem k_links_Of_none [f:Foc C (.b p) (lk p N M ls) u] (H:Own w.hp C) (hn:∀k,k<M→n∉ls k) (hb:n<4194304) (h:∀e:Int,e≠0→R (.tuple #[.int .i64 0,.int .i64 e]) w):Call Pg 282 #[ptrV p,.int .u32 n] w R:=by
 obtain⟨L,F,fv,lv,Ff,Fl,rfl,rfl,g,a⟩:=(f.get H).lk
 have :=a.fits
 unfold Lk.Fits at this
 by_cases h1:n<L.nodes
 ·have h2:L.of n=0:=by
   rcases Nat.eq_zero_or_pos (L.of n) with h0 |h0
   ·exact h0
   ·obtain⟨j,hj,hm⟩:=g.all n h1 (by omega)
    exact absurd hm (hn j hj)
  refine c_links_Of a (by omega) (by omega) ?_
  rw[if_pos h1,if_pos h2]
  exact h 9 (by decide)
 ·refine c_282 ?_
  simp only[F_282]
  refine c_links_in a (by omega) ?_
  rw[if_neg h1]
  refine Os ?_
  exact h 2 (by decide)
theorem k_links_Back [f:Foc C (.b p) (lk p N M ls) u] (H:Own w.hp C) (hk:k<M) (hn:n<N) (h0:∀k,k<M→n∉ls k) (h:∀w',Own w'.hp (u (lk p N M (upd ls k (ls k++[n]))))→R (.int .i64 0) w'):Call Pg 304 #[ptrV p,.int .i64 k,.int .u32 n] w R:=by
 obtain⟨L,F,fv,lv,Ff,Fl,rfl,rfl,g,a,hu⟩:=own_lk (N':=N) (ls':=upd ls k (ls k++[n])) (f.get H)
 have h2:L.of n=0:=by
  rcases Nat.eq_zero_or_pos (L.of n) with h1 |h1
  ·exact h1
  ·obtain⟨j,hj,hm⟩:=g.all n hn (by omega)
   exact absurd hm (h0 j hj)
 have hfit:=a.fits
 unfold Lk.Fits at hfit
 have hlast:=g.last_mem hk
 have hl:=nodup_le L.nodes (ls k) (g.nodup k hk) fun x hx=>(g.of k hk x hx).1
 refine c_links_add a hk hn h2 (g.ring k hk) (g.lt hk _ hlast) (fun e=>?_) (by rw[g.len k hk];omega) fun w' a' hm _=>h w' (f.put (hu w' (L.put n (L.nodes+k)) _ _ _ _ rfl rfl (g.put hk hn h2) a' hm))
 have :=g.ofC hk _ hlast
 rw[←e,h2] at this;omega
theorem k_links_Remove [f:Foc C (.b p) (lk p N M ls) u] (H:Own w.hp C) (hk:k<M) (hn:n∈ls k) (h:∀w',Own w'.hp (u (lk p N M (upd ls k ((ls k).erase n))))→R (.int .i64 0) w'):Call Pg 283 #[ptrV p,.int .u32 n] w R:=by
 obtain⟨L,F,fv,lv,Ff,Fl,rfl,rfl,g,a,hu⟩:=own_lk (N':=N) (ls':=upd ls k ((ls k).erase n)) (f.get H)
 obtain⟨h1,h2⟩:=g.of k hk n hn
 have hfit:=a.fits
 unfold Lk.Fits at hfit
 obtain⟨d1,d2,d3,d4,d5,d6⟩:=g.nbrs hk hn
 have hl:=nodup_le L.nodes (ls k) (g.nodup k hk) fun x hx=>(g.of k hk x hx).1
 have hp:1≤(ls k).length:=List.length_pos_of_mem hn
 refine c_links_Remove a h1 d1 d2 d3 d4 (by omega) (by rw[h2,Nat.add_sub_cancel,g.len k hk];omega) fun w' a' hm=>h w' (f.put (hu w' (L.rem n) _ _ _ _ rfl rfl (g.rem hk hn) a' hm))
end
end Go.Cub
