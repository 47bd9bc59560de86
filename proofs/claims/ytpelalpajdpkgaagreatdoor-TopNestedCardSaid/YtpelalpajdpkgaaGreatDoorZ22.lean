/-
  Part 23 of the proof that TopNested returns true and leaves what it was given as it was. CONDITIONS: those of the given row and card.
-/
import Derived.Test.YtpelalpajdpkgaaGreatDoorZ21
set_option linter.all false
namespace Go.Cub
open Go Go.Proofs Go.IntWalk
section
variable {R:Value→World→Prop} {w:World} {C:List HP} {u:HP→List HP} {p:Nat} {xs:List Ent} {L:List (Ent×SV)} {s:Value} {n:Int} {i:Nat} {e:Ent}
attribute [local irreducible] PV CND GRD L1 LN S1 SN NEW NEWS MKS MKM LK MU DEL LENM APP CPY BTS Call CallV
theorem c_el_Clone [f:Foc C (.v s) (sle s entE L) u] (H:Own w.hp C) (hn:L.length≤68719476736) (h:∀v' w',Own w'.hp (sle v' entE L::C)→R v' w'):Call Pg 167 #[s] w R:=by
 refine c_167 ?_
 simp only[F_167]
 exact cloneo (E:=entE) (z:=.agg #[.string ⟨#[]⟩,.slice none 0 0,.int .u64 0,.int .u64 0]) (v:=s) H rfl (b:=56) (by decide) rfl hn h
theorem k_el_Copy [f:Foc C (.b p) (elog p xs) u] (H:Own w.hp C) (h:∀q w',Own w'.hp (elog q xs::u (elog p xs))→R (ptrV q) w'):Call Pg 248 #[ptrV p] w R:=by
 obtain⟨L,s,hl,H⟩:=elog_iff.1 (f.get H)
 refine c_248 ?_
 simp only[F_248]
 refine c_el_zero H ?_
 (repeat first |refine L1o H rfl ?_ |refine Oc ?_)
 refine c_el_Clone (s:=s) (w:=w.drew) H (by have :=hl.length;have :=hl.2.1;omega) fun s' w H=>?_
 obtain⟨a1,a2,a3,rfl⟩:=sle_slice H
 refine⟨L1o H rfl rfl,?_⟩
 refine PV_of (v:=.agg #[.bool true,.slice a1 a2 a3,.int .i64 (live xs)]) rfl ?_
 refine NEWo H fun q w H=>?_
 refine h q w (f.put1 ?_)
 have H:=imL_dup H.mv3.mv3.mv3.mv3.mv4
 have H:Own w.hp [imL (logB L),imL (logB L),pt q _,sle (.slice a1 a2 a3) entE L,pt p [.bool true,s,.int .i64 (live xs)],sle s entE L,.all f.rest]:=tl6.1 H
 have H:=(elog_iff.2 ⟨L,s,hl,H.mv6.mv1.mv4.mv4.mv4.mv6.mv6⟩)
 have H:=(elog_iff.2 ⟨L,_,hl,H.mv4.mv1.mv4.mv4.mv4⟩)
 exact tl2.2 H
def elA (t:Nat) (s:Value) (L:List (Ent×SV)):HP:=.all [pt t [s],sle s entE L,imL (logB L)]
def liveI (xs:List Ent):List (Ent×Nat):=xs.zipIdx.filter fun x=>decide (x.1.birth≠0)
def entI (x:Ent×Nat) (args:List Value):HP:=.ex fun v:SV=>.all [.pu (args=[.int .u32 x.2,entV x.1 v]),imm (svV v) x.1.val]
theorem k_el_All [f:Foc C (.b p) (elog p xs) u] (H:Own w.hp C) (h:∀t s L w',LogOk xs L→Own w'.hp (elA t s L::u (elog p xs))→R (.func (.func 168) #[] #[ptrV t]) w'):Call Pg 103 #[ptrV p] w R:=by
 obtain⟨L,s,hl,H⟩:=elog_iff.1 (f.get H)
 refine c_103 ?_
 simp only[F_103]
 refine NEWo H fun t w H=>?_
 refine c_el_zero H ?_
 (repeat first |refine L1o H rfl ?_ |refine Oc ?_)
 refine c_el_Clone (s:=s) H (by have :=hl.length;have :=hl.2.1;omega) fun s' w H=>?_
 obtain⟨a1,a2,a3,rfl⟩:=sle_slice H
 refine S1o H rfl rfl fun w H=>?_
 refine h t (.slice a1 a2 a3) L w hl (f.put1 ?_)
 have H:=imL_dup H.mv3.mv3.mv3.mv3.mv4
 have H:Own w.hp [imL (logB L),imL (logB L),sle (.slice a1 a2 a3) entE L,pt t [.slice a1 a2 a3],pt p [.bool true,s,.int .i64 (live xs)],sle s entE L,.all f.rest]:=tl6.1 H
 have H:=(elog_iff.2 ⟨L,s,hl,H.mv6.mv1.mv4.mv4.mv4.mv6.mv6⟩)
 have H:=all3.2 H.mv4.mv1.mv4.mv3.mv4
 exact tl2.2 H
theorem el_loop {t:Nat} {S:World→Prop} {y:Value} {J:Nat→HP} (hl:LogOk xs L)
  (hs:∀i x,(liveI xs)[i]?=some x→∀zs w,Own w.hp [entI x zs,elA t s L,J i]→CallV Pg y zs.toArray w fun v w'=>(v=.bool true∧Own w'.hp [elA t s L,J (i+1)])∨(v=.bool false∧S w')):
  ∀m j pre w,j+m=xs.length→pre++(xs.zipIdx.drop j).filter (fun x=>decide (x.1.birth≠0))=liveI xs→Own w.hp [elA t s L,J pre.length]→B_168_1 (fun _ w'=>Own w'.hp [elA t s L,J (liveI xs).length]∨S w') y s (.int .i64 xs.length) (.int .i64 j) w:=by
 intro m
 induction m with
 |zero=>
  intro j pre w hj hp H
  have ej:j=xs.length:=hj
  subst ej
  refine B_168_1.intro ?_
  simp only[P_168_1]
  refine Ob ?_
  left
  rw[List.drop_eq_nil_of_le (by simp),List.filter_nil,List.append_nil] at hp
  rw[←hp]
  exact H
 |succ m ih=>
  intro j pre w hj hp H
  have hlt:j<xs.length:=by omega
  have hget:xs[j]?=some xs[j]:=List.getElem?_eq_getElem hlt
  obtain⟨v,hv⟩:=hl.get hget
  have hd:xs.zipIdx.drop j=(xs[j],j)::xs.zipIdx.drop (j+1):=by
   rw[List.drop_eq_getElem_cons (by simpa using hlt)]
   simp
  have hn:=hl.2.1
  have H:=all3.1 H
  refine B_168_1.intro ?_
  simp only[P_168_1]
  refine Ob ?_
  refine idxo (E:=entE) H (by rw[hl.length];exact hlt) ?_
  refine LNe (E:=entE) H hv ?_
  refine NEWo H fun t4 w H=>?_
  refine SNo H rfl (by simp) (by simp[entE,svV,Value.oneCell']) fun w H=>?_
  (repeat first |refine L1o H rfl ?_ |refine Oc ?_)
  rw[hd,List.filter_cons] at hp
  have ei:((j:Int)+1)=((j+1:Nat):Int):=rfl
  rw[ei]
  by_cases hb:xs[j].birth=0
  ·refine Ob ?_
   rw[if_neg (by simpa using hb)] at hp
   exact ih (j+1) pre w (by omega) hp (all3.2 H.drop)
  ·refine Ob ?_
   rw[if_pos (by simpa using hb)] at hp
   refine LNo H (by simp[splice,entE]) ?_
   have H:=imL_get H.mv4.mv3.mv3.mv4.dp4 (logB_mem hv)
   refine k_entry_Copy (e:=xs[j]) (v:=v) H (by have :=(hl.ent hget hb).2.1;omega) fun v' w H=>?_
   have hx:(liveI xs)[pre.length]?=some (xs[j],j):=by rw[←hp];simp
   have hI:Own w.hp [entI (xs[j],j) [.int .u32 j,entV xs[j] v'],elA t s L,J pre.length]:=by
    have H:=H.mv5.mv3.mv5.mv5.mv4.dp5
    have H:Own w.hp [imm (svV v') xs[j].val,elA t s L,J pre.length]:=(all3.2 H.mv1.mv1.mv4.mv1.mv4.mv4.mv4).mv1
    exact own_ex.2 ⟨v',all2.2 (own_pu.2 ⟨rfl,H⟩)⟩
   refine CallV.mono (hs _ _ hx _ _ hI) ?_
   rintro b w' (⟨rfl,H⟩ |⟨rfl,hS⟩)
   ·refine Ob ?_
    refine ih (j+1) (pre++[(xs[j],j)]) w' (by omega) (by simpa using hp) (by simpa using H)
   ·refine Ob ?_
    exact .inr hS
theorem iter_el {t:Nat} (hl:LogOk xs L):IterX Pg (elA t s L) (.func (.func 168) #[] #[ptrV t]) (liveI xs) entI:=by
 refine⟨_,_,_,rfl,Tryz.calOk _ (by rfl),fun J S y w H hs=>?_⟩
 rw[show(#[]++#[y]++#[ptrV t]:Array Value)=#[y,ptrV t] from rfl]
 have H1:=all3.1 H
 refine c_168 ?_
 simp only[F_168]
 refine L1o H1 rfl ?_
 rw[leno (v:=s) H1,hl.length]
 refine Ob ?_
 exact el_loop hl hs xs.length 0 [] w (by omega) rfl H
end
end Go.Cub
namespace Go.Cub
open Go Go.Proofs Go.IntWalk
def wd:List Nat→Nat
 |[]=>0
 |c::cs=>c+256 * wd cs
def bset:List Bool→Nat
 |[]=>0
 |b::bs=>(if b then 1 else 0)+2 * bset bs
theorem lane_bit (k a A j:Nat) (ha:a<2^k):(a+2^k * A).testBit j=if j<k then a.testBit j else A.testBit (j - k):=by
 rw[Nat.add_comm,Nat.testBit_two_pow_mul_add A ha]
theorem lane_and (k:Nat) {a b A B:Nat} (ha:a<2^k) (hb:b<2^k):(a+2^k * A) &&& (b+2^k * B)=(a &&& b)+2^k * (A &&& B):=by
 apply Nat.eq_of_testBit_eq
 intro j
 rw[Nat.testBit_and,lane_bit k a A j ha,lane_bit k b B j hb,lane_bit k _ _ j (Nat.and_lt_two_pow a hb)]
 split<;>simp[Nat.testBit_and]
theorem lane_or (k:Nat) {a b A B:Nat} (ha:a<2^k) (hb:b<2^k):(a+2^k * A) ||| (b+2^k * B)=(a ||| b)+2^k * (A ||| B):=by
 apply Nat.eq_of_testBit_eq
 intro j
 rw[Nat.testBit_or,lane_bit k a A j ha,lane_bit k b B j hb,lane_bit k _ _ j (Nat.or_lt_two_pow ha hb)]
 split<;>simp[Nat.testBit_or]
theorem lane_xor (k:Nat) {a b A B:Nat} (ha:a<2^k) (hb:b<2^k):(a+2^k * A) ^^^ (b+2^k * B)=(a ^^^ b)+2^k * (A ^^^ B):=by
 apply Nat.eq_of_testBit_eq
 intro j
 rw[Nat.testBit_xor,lane_bit k a A j ha,lane_bit k b B j hb,lane_bit k _ _ j (Nat.xor_lt_two_pow ha hb)]
 split<;>simp[Nat.testBit_xor]
def By (cs:List Nat):Prop:=∀c∈cs,c<256
theorem wd_lt:∀ {cs:List Nat},By cs→wd cs<256^cs.length
 |[],_=>by simp[wd]
 |c::cs,h=>by
  have h1:=wd_lt (cs:=cs) fun x hx=>h x (by simp[hx])
  have h2:c<256:=h c (by simp)
  simp only[wd,List.length_cons,Nat.pow_succ]
  omega
theorem wd_and:∀ {cs ds:List Nat},cs.length=ds.length→By cs→By ds→wd cs &&& wd ds=wd (List.zipWith (· &&& ·) cs ds)
 |[],[],_,_,_=>rfl
 |c::cs,d::ds,hl,h1,h2=>by
  simp only[wd,List.zipWith_cons_cons]
  rw[←wd_and (by simpa using hl) (fun x hx=>h1 x (by simp[hx])) (fun x hx=>h2 x (by simp[hx]))]
  exact lane_and 8 (h1 c (by simp)) (h2 d (by simp))
theorem wd_or:∀ {cs ds:List Nat},cs.length=ds.length→By cs→By ds→wd cs ||| wd ds=wd (List.zipWith (· ||| ·) cs ds)
 |[],[],_,_,_=>rfl
 |c::cs,d::ds,hl,h1,h2=>by
  simp only[wd,List.zipWith_cons_cons]
  rw[←wd_or (by simpa using hl) (fun x hx=>h1 x (by simp[hx])) (fun x hx=>h2 x (by simp[hx]))]
  exact lane_or 8 (h1 c (by simp)) (h2 d (by simp))
theorem wd_xor:∀ {cs ds:List Nat},cs.length=ds.length→By cs→By ds→wd cs ^^^ wd ds=wd (List.zipWith (· ^^^ ·) cs ds)
 |[],[],_,_,_=>rfl
 |c::cs,d::ds,hl,h1,h2=>by
  simp only[wd,List.zipWith_cons_cons]
  rw[←wd_xor (by simpa using hl) (fun x hx=>h1 x (by simp[hx])) (fun x hx=>h2 x (by simp[hx]))]
  exact lane_xor 8 (h1 c (by simp)) (h2 d (by simp))
theorem zip_rep {α β γ:Type} (f:α→β→γ) (b:β):∀(cs:List α),List.zipWith f cs (List.replicate cs.length b)=cs.map (f · b)
 |[]=>rfl
 |c::cs=>by simp[List.replicate_succ,zip_rep f b cs]
theorem wd_add (k:Nat):∀(cs:List Nat),wd cs+wd (List.replicate cs.length k)=wd (cs.map (· +k))
 |[]=>rfl
 |c::cs=>by
  simp only[wd,List.length_cons,List.replicate_succ,List.map_cons, ←wd_add k cs]
  omega
theorem by_map {f:Nat→Nat} {cs:List Nat} (h:By cs) (hf:∀c,c<256→f c<256):By (cs.map f):=by
 intro x hx
 obtain⟨c,hc,rfl⟩:=List.mem_map.1 hx
 exact hf c (h c hc)
theorem by_rep {n b:Nat} (hb:b<256):By (List.replicate n b):=by
 intro x hx
 rw[List.eq_of_mem_replicate hx];exact hb
theorem wd_high {p:Nat→Bool}:∀(cs:List Nat),wd (cs.map fun c=>if p c then 128 else 0)/128=wd (cs.map fun c=>if p c then 1 else 0)
 |cs=>by
  have h:wd (cs.map fun c=>if p c then 128 else 0)=128 * wd (cs.map fun c=>if p c then 1 else 0):=by
   induction cs with
   |nil=>rfl
   |cons c cs ih=>
    simp only[List.map_cons,wd,ih]
    split<;>omega
  rw[h,Nat.mul_div_cancel_left _ (by decide)]
theorem bset_lt:∀(bs:List Bool),bset bs<2^bs.length
 |[]=>by simp[bset]
 |b::bs=>by
  have :=bset_lt bs
  simp only[bset,List.length_cons,Nat.pow_succ]
  split<;>omega
theorem bset_or:∀ {xs bs:List Bool},xs.length=bs.length→bset xs ||| bset bs=bset (List.zipWith (· || ·) xs bs)
 |[],[],_=>rfl
 |a::xs,b::bs,hl=>by
  simp only[bset,List.zipWith_cons_cons]
  rw[←bset_or (by simpa using hl)]
  have :=lane_or 1 (a:=if a then 1 else 0) (b:=if b then 1 else 0) (A:=bset xs) (B:=bset bs) (by split<;>decide) (by split<;>decide)
  simp only[Nat.pow_one] at this
  rw[this]
  cases a<;>cases b<;>rfl
theorem gather8:∀b0 b1 b2 b3 b4 b5 b6 b7:Bool,wd ([b0,b1,b2,b3,b4,b5,b6,b7].map fun b=>if b then 1 else 0) * 72624976668147840%18446744073709551616/72057594037927936=bset [b0,b1,b2,b3,b4,b5,b6,b7]:=by decide
theorem len8 {α:Type} {l:List α} (h:l.length=8):∃a b c d e f g i,l=[a,b,c,d,e,f,g,i]:=by
 match l,h with
 |[a,b,c,d,e,f,g,i],_=>exact⟨a,b,c,d,e,f,g,i,rfl⟩
theorem gatherB {bs:List Bool} (h:bs.length=8):wd (bs.map fun b=>if b then 1 else 0) * 72624976668147840%18446744073709551616/72057594037927936=bset bs:=by
 obtain⟨a,b,c,d,e,f,g,i,rfl⟩:=len8 h
 exact gather8 a b c d e f g i
def lanes (s:Nat):List Nat:=(List.range 8).filter fun i=>s.testBit i
theorem lanes_zero:lanes 0=[]:=by decide
theorem lanes_step:∀s:Fin 256,s.val≠0→lanes s.val=(lanes s.val).headD 8::lanes (s.val &&& (s.val - 1))∧(lanes s.val).headD 8<8:=by decide+kernel
theorem bset_bit:∀(bs:List Bool) (i:Nat),(bset bs).testBit i=bs.getD i false
 |[],i=>by simp[bset]
 |b::bs,0=>by cases b<;>simp[bset,Nat.testBit_zero]
 |b::bs,i+1=>by
  rw[Nat.testBit_succ]
  have :bset (b::bs)/2=bset bs:=by simp only[bset];split<;>omega
  rw[this,bset_bit bs i];simp
def mset (p:Nat→Bool) (cs:List Nat):Nat:=bset (cs.map p)
theorem mset_lt {p:Nat→Bool} {cs:List Nat} (h:cs.length=8):mset p cs<256:=by
 have :=bset_lt (cs.map p)
 rw[List.length_map,h] at this
 exact this
theorem mem_lanes {p:Nat→Bool} {cs:List Nat} (h:cs.length=8) {i:Nat}:i∈lanes (mset p cs)↔∃c,cs[i]?=some c∧p c=true:=by
 simp only[lanes,List.mem_filter,List.mem_range,mset,bset_bit]
 constructor
 ·rintro⟨h1,h2⟩
  have hi:i<cs.length:=by omega
  refine⟨cs[i],by simp[hi],?_⟩
  simpa[hi] using h2
 ·rintro⟨c,h1,h2⟩
  have hi:=lt_of_get h1
  refine⟨by omega,?_⟩
  simp[h1,h2]
theorem match_lane:∀x:Fin 256,255 ^^^ ((((x.val &&& 127)+127) ||| x.val) ||| 127)=if x.val=0 then 128 else 0:=by decide+kernel
theorem high_lane:∀x:Fin 256,x.val &&& 128=if 128≤x.val then 128 else 0:=by decide+kernel
theorem wd_lt64 {ds:List Nat} (h:ds.length=8) (hb:By ds):wd ds<18446744073709551616:=by
 have :=wd_lt hb
 rw[h] at this
 exact this
theorem op_rep (f:Nat→Nat→Nat) {cs:List Nat} (hl:cs.length=8) (k:Nat):List.zipWith f cs (List.replicate 8 k)=cs.map (f · k):=by
 rw[←hl];exact zip_rep f k cs
theorem rep8 (b:Nat):wd (List.replicate 8 b)=72340172838076673 * b:=by
 simp only[List.replicate,wd];omega
theorem match_word {cs:List Nat} {b:Nat} (hl:cs.length=8) (hc:By cs) (hb:b<256):
  ∃X Y Z:Nat,X<18446744073709551616∧Y<18446744073709551616∧Z<18446744073709551616∧(X &&& 9187201950435737471)+9187201950435737471<18446744073709551616∧wd cs ^^^ (72340172838076673 * b)=X∧((X &&& 9187201950435737471)+9187201950435737471) ||| X=Y∧Y ||| 9187201950435737471=Z∧
   18446744073709551615 ^^^ Z=wd (cs.map fun c=>if c==b then 128 else 0):=by
 have eL:(9187201950435737471:Nat)=wd (List.replicate 8 127):=by decide
 have eM:(18446744073709551615:Nat)=wd (List.replicate 8 255):=by decide
 have b127:By (List.replicate 8 127):=by_rep (by decide)
 have b255:By (List.replicate 8 255):=by_rep (by decide)
 have bb:By (List.replicate 8 b):=by_rep hb
 have x1:∀c,c<256→c ^^^ b<256:=fun c h=>Nat.xor_lt_two_pow (n:=8) h hb
 have x2:∀c,c<256→c &&& 127<128:=fun c h=>Nat.lt_of_le_of_lt Nat.and_le_right (by decide)
 have x3:∀c d,c<256→d<256→c ||| d<256:=fun c d h1 h2=>Nat.or_lt_two_pow (n:=8) h1 h2
 have B1:By (cs.map (· ^^^ b)):=by_map hc x1
 have B2:By ((cs.map (· ^^^ b)).map (· &&& 127)):=by_map B1 fun c h=>Nat.lt_trans (x2 c h) (by decide)
 have B3:By (((cs.map (· ^^^ b)).map (· &&& 127)).map (· +127)):=by
  intro x hx
  simp only[List.mem_map] at hx
  obtain⟨_,⟨c,⟨d,hd,rfl⟩,rfl⟩,rfl⟩:=hx
  have :=x2 _ (x1 d (hc d hd))
  omega
 have e1:wd cs ^^^ (72340172838076673 * b)=wd (cs.map (· ^^^ b)):=by
  rw[←rep8,wd_xor (by simp[hl]) hc bb,op_rep _ hl]
 have e2:(wd (cs.map (· ^^^ b)) &&& 9187201950435737471)+9187201950435737471=wd (((cs.map (· ^^^ b)).map (· &&& 127)).map (· +127)):=by
  rw[eL,wd_and (by simp[hl]) B1 b127,op_rep _ (by simp[hl]), ←wd_add]
  simp[hl]
 have e3:wd (((cs.map (· ^^^ b)).map (· &&& 127)).map (· +127)) ||| wd (cs.map (· ^^^ b))=wd ((cs.map (· ^^^ b)).map fun x=>((x &&& 127)+127) ||| x):=by
  rw[wd_or (by simp) B3 B1]
  congr 1
  rw[List.map_map,List.zipWith_map_left,List.zipWith_self]
  rfl
 have B4:By ((cs.map (· ^^^ b)).map fun x=>((x &&& 127)+127) ||| x):=by_map B1 fun c h=>x3 _ _ (by have :=x2 c h;omega) h
 have e4:wd ((cs.map (· ^^^ b)).map fun x=>((x &&& 127)+127) ||| x) ||| 9187201950435737471=wd ((cs.map (· ^^^ b)).map fun x=>(((x &&& 127)+127) ||| x) ||| 127):=by
  rw[eL,wd_or (by simp[hl]) B4 b127,op_rep _ (by simp[hl]),List.map_map]
  rfl
 have B5:By ((cs.map (· ^^^ b)).map fun x=>(((x &&& 127)+127) ||| x) ||| 127):=by_map B1 fun c h=>x3 _ _ (x3 _ _ (by have :=x2 c h;omega) h) (by decide)
 have e5:18446744073709551615 ^^^ wd ((cs.map (· ^^^ b)).map fun x=>(((x &&& 127)+127) ||| x) ||| 127)=wd (cs.map fun c=>if c==b then 128 else 0):=by
  rw[eM,Nat.xor_comm,wd_xor (by simp[hl]) B5 b255,op_rep _ (by simp[hl]),List.map_map,List.map_map]
  congr 1
  apply List.map_congr_left
  intro c hcc
  have h1:=x1 c (hc c hcc)
  have h2:=match_lane ⟨c ^^^ b,h1⟩
  simp only[Function.comp_apply]
  rw[Nat.xor_comm,h2]
  have :c ^^^ b=0↔c=b:=⟨fun h=>by
   have h1:(c ^^^ b) ^^^ b=b:=by rw[h,Nat.zero_xor]
   rwa[Nat.xor_assoc,Nat.xor_self,Nat.xor_zero] at h1,fun h=>by rw[h,Nat.xor_self]⟩
  by_cases hh:c=b
  ·simp[hh]
  ·rw[if_neg (fun h=>hh (this.1 h)),if_neg (by simpa using hh)]
 refine⟨wd (cs.map (· ^^^ b)),wd ((cs.map (· ^^^ b)).map fun x=>((x &&& 127)+127) ||| x),wd ((cs.map (· ^^^ b)).map fun x=>(((x &&& 127)+127) ||| x) ||| 127),?_,?_,?_,?_,e1,?_,?_,e5⟩
 ·exact wd_lt64 (by simp[hl]) B1
 ·exact wd_lt64 (by simp[hl]) B4
 ·exact wd_lt64 (by simp[hl]) B5
 ·rw[e2];exact wd_lt64 (by simp[hl]) B3
 ·rw[e2,e3]
 ·exact e4
section
variable {R:Value→World→Prop} {w:World} {cs:List Nat} {b:Nat}
attribute [local irreducible] PV CND GRD L1 LN S1 SN NEW NEWS MKS MKM LK MU DEL LENM APP CPY BTS Call CallV
theorem c_gather {p:Nat→Bool} (hl:cs.length=8) (h:R (.int .u8 (mset p cs)) w):Call Pg 334 #[.int .u64 (wd (cs.map fun c=>if p c then 128 else 0))] w R:=by
 refine c_334 ?_
 simp only[F_334]
 have hb:By (cs.map fun c=>if p c then 128 else 0):=by
  intro x hx
  obtain⟨c,_,rfl⟩:=List.mem_map.1 hx
  split<;>decide
 have hlt:=wd_lt hb
 have hb1:By (cs.map fun c=>if p c then 1 else 0):=by
  intro x hx
  obtain⟨c,_,rfl⟩:=List.mem_map.1 hx
  split<;>decide
 have hlt1:=wd_lt hb1
 rw[List.length_map,hl] at hlt hlt1
 refine Ob ?_
 rw[show min 7 IntKind.u64.bits=7 from rfl,show min 56 IntKind.u64.bits=56 from rfl,shrN,show(2:Nat)^7=128 from rfl,wd_high]
 have e:(((wd (cs.map fun c=>if p c then 1 else 0):Nat):Int) * 72624976668147840)=((wd (cs.map fun c=>if p c then 1 else 0) * 72624976668147840:Nat):Int):=by simp
 rw[e,u64_wrap,shrN,show(2:Nat)^56=72057594037927936 from rfl]
 have g:=gatherB (bs:=cs.map p) (by simpa using hl)
 rw[List.map_map] at g
 have e2:((fun b:Bool=>if b=true then 1 else 0) ∘ p:Nat→Nat)=fun c=>if p c then 1 else 0:=rfl
 rw[e2] at g
 rw[g]
 have :=mset_lt (p:=p) hl
 show R (.int .u8 (IntKind.u8.wrap ((mset p cs:Nat):Int))) w
 rw[u8_in _ (by omega)]
 exact h
theorem c_word_Match (hl:cs.length=8) (hc:By cs) (hb:b<256) (h:R (.int .u8 (mset (fun c=>c==b) cs)) w):Call Pg 292 #[.int .u64 (wd cs),.int .u8 b] w R:=by
 refine c_292 ?_
 simp only[F_292]
 refine c_265 ?_
 simp only[F_265]
 refine Ob ?_
 obtain⟨X,Y,Z,hX,hY,hZ,hs,e1,e2,e3,e4⟩:=match_word hl hc hb
 have h72:(72340172838076673 * b:Nat)<18446744073709551616:=by omega
 have ew:((72340172838076673:Int) * (b:Int))=((72340172838076673 * b:Nat):Int):=by simp
 have el:(9187201950435737471:Int)=((9187201950435737471:Nat):Int):=rfl
 have ha:X &&& 9187201950435737471<18446744073709551616:=Nat.lt_of_le_of_lt Nat.and_le_right (by decide)
 rw[ew,u64_xor (wd_lt64 hl hc) h72,e1,el,u64_and hX (by decide), ←Int.natCast_add,u64_in _ (by omega),u64_or hs hX,e2,u64_or hY (by decide),e3]
 show PV (some (.int .u64 (bitI .xor .u64 ((18446744073709551615:Nat):Int) (Z:Int)))) _
 rw[u64_xor (by decide) hZ,e4]
 refine Ob ?_
 refine c_gather (p:=fun c=>c==b) hl h
end
end Go.Cub
namespace Go.Cub
open Go Go.Proofs Go.IntWalk
theorem u8_and {a b:Nat} (ha:a<256) (hb:b<256):bitI .and .u8 a b=((a &&& b:Nat):Int):=by
 rw[(bitI_nat (k:=.u8) ha hb).1,u8_in]
 have :=Nat.and_lt_two_pow (n:=8) a hb
 omega
theorem u8_or {a b:Nat} (ha:a<256) (hb:b<256):bitI .or .u8 a b=((a ||| b:Nat):Int):=by
 rw[(bitI_nat (k:=.u8) ha hb).2.1,u8_in]
 have :=Nat.or_lt_two_pow (n:=8) ha hb
 omega
theorem u8_xor {a b:Nat} (ha:a<256) (hb:b<256):bitI .xor .u8 a b=((a ^^^ b:Nat):Int):=by
 rw[(bitI_nat (k:=.u8) ha hb).2.2.1,u8_in]
 have :=Nat.xor_lt_two_pow (n:=8) ha hb
 omega
theorem not8:∀b0 b1 b2 b3 b4 b5 b6 b7:Bool,255 ^^^ bset [b0,b1,b2,b3,b4,b5,b6,b7]=bset [!b0, !b1, !b2, !b3, !b4, !b5, !b6, !b7]:=by decide
theorem mset_not {p:Nat→Bool} {cs:List Nat} (hl:cs.length=8):255 ^^^ mset p cs=mset (fun c=> !p c) cs:=by
 obtain⟨a,b,c,d,e,f,g,i,rfl⟩:=len8 hl
 simp only[mset,List.map]
 rw[not8]
theorem mset_or {p q:Nat→Bool} (cs:List Nat):mset p cs ||| mset q cs=mset (fun c=>p c||q c) cs:=by
 unfold mset
 rw[bset_or (by simp),List.zipWith_map,List.zipWith_self]
theorem mset_all {p:Nat→Bool} {cs:List Nat} (hl:cs.length=8) (h:∀c∈cs,p c=true):mset p cs=255:=by
 unfold mset
 rw[List.map_congr_left (g:=fun _=>true) h]
 obtain⟨a,b,c,d,e,f,g,i,rfl⟩:=len8 hl
 simp[bset]
theorem mset_zero {p:Nat→Bool} {cs:List Nat} (hl:cs.length=8):mset p cs=0↔∀c∈cs,p c=false:=by
 constructor
 ·intro h c hc
  obtain⟨i,hi,rfl⟩:=List.getElem_of_mem hc
  by_cases hp:p cs[i]=true
  ·have :=(mem_lanes (p:=p) hl (i:=i)).2 ⟨cs[i],by simp[hi],hp⟩
   rw[h,lanes_zero] at this
   cases this
  ·simpa using hp
 ·intro h
  unfold mset
  rw[List.map_congr_left (g:=fun _=>false) h]
  obtain⟨a,b,c,d,e,f,g,i,rfl⟩:=len8 hl
  simp[bset]
def Okc (c:Nat):Prop:=c<128∨c=128∨c=254
def OkW (cs:List Nat):Prop:=cs.length=8∧∀c∈cs,Okc c
theorem OkW.by_ {cs:List Nat} (h:OkW cs):By cs:=fun c hc=>by
 rcases h.2 c hc with h |h |h<;>omega
theorem OkW.set {cs:List Nat} {b l:Nat} (h:OkW cs) (hb:Okc b):OkW (cs.set l b):=by
 refine⟨by simpa using h.1,fun c hc=>?_⟩
 rcases List.mem_or_eq_of_mem_set hc with hc |rfl
 ·exact h.2 c hc
 ·exact hb
def emptyS (cs:List Nat):Nat:=mset (fun c=>c==128) cs
def freeS (cs:List Nat):Nat:=mset (fun c=>c==128||c==254) cs
def fullS (cs:List Nat):Nat:=mset (fun c=> !decide (128≤c)) cs
section
variable {R:Value→World→Prop} {w:World} {cs:List Nat} {b:Nat}
attribute [local irreducible] PV CND GRD L1 LN S1 SN NEW NEWS MKS MKM LK MU DEL LENM APP CPY BTS Call CallV
theorem c_High (hl:cs.length=8) (hc:By cs) (h:R (.int .u8 (mset (fun c=>decide (128≤c)) cs)) w):Call Pg 333 #[.int .u64 (wd cs)] w R:=by
 refine c_333 ?_
 simp only[F_333]
 refine Ob ?_
 have el:(9187201950435737471:Int)=((9187201950435737471:Nat):Int):=rfl
 have e:wd cs &&& (18446744073709551616 - (9187201950435737471+1))=wd (cs.map fun c=>if decide (128≤c) then 128 else 0):=by
  rw[show(18446744073709551616 - (9187201950435737471+1):Nat)=wd (List.replicate 8 128) by decide,wd_and (by simp[hl]) hc (by_rep (by decide)),op_rep _ hl]
  congr 1
  apply List.map_congr_left
  intro c hcc
  have :=high_lane ⟨c,hc c hcc⟩
  simpa using this
 rw[el,u64_andNot (wd_lt64 hl hc) (by decide),e]
 exact c_gather (p:=fun c=>decide (128≤c)) hl h
theorem c_Empties (hl:cs.length=8) (hc:By cs) (h:R (.int .u8 (emptyS cs)) w):Call Pg 235 #[.int .u64 (wd cs)] w R:=by
 refine c_235 ?_
 simp only[F_235]
 exact c_word_Match (b:=128) hl hc (by decide) h
theorem c_ctl_Match (hl:cs.length=8) (hc:By cs) (hb:b<128) (h:R (.int .u8 (mset (fun c=>c==b) cs)) w):Call Pg 287 #[.int .u64 (wd cs),.int .u8 b] w R:=by
 refine c_287 ?_
 simp only[F_287]
 refine Ob ?_
 exact c_word_Match (b:=b) hl hc (by omega) h
theorem c_Free (hl:cs.length=8) (hc:By cs) (h:R (.int .u8 (freeS cs)) w):Call Pg 335 #[.int .u64 (wd cs)] w R:=by
 refine c_335 ?_
 simp only[F_335]
 refine c_Empties hl hc ?_
 refine c_word_Match (b:=254) hl hc (by decide) ?_
 refine Ob ?_
 simp only[emptyS]
 rw[u8_or (mset_lt hl) (mset_lt hl),mset_or]
 exact h
theorem c_Full (hl:cs.length=8) (hc:By cs) (h:R (.int .u8 (fullS cs)) w):Call Pg 290 #[.int .u64 (wd cs)] w R:=by
 refine c_290 ?_
 simp only[F_290]
 refine c_High hl hc ?_
 show PV (some (.int .u8 (bitI .xor .u8 ((255:Nat):Int) ((mset (fun c=>decide (128≤c)) cs:Nat):Int)))) _
 rw[u8_xor (by decide) (mset_lt hl),mset_not hl]
 refine Ob ?_
 exact h
theorem c_ctl_Valid (hw:OkW cs) (h:R (.bool true) w):Call Pg 332 #[.int .u64 (wd cs)] w R:=by
 refine c_332 ?_
 simp only[F_332]
 refine c_Free hw.1 hw.by_ ?_
 refine c_Full hw.1 hw.by_ ?_
 have hv:bitI .or .u8 (freeS cs:Nat) (fullS cs:Nat)=255:=by
  simp only[freeS,fullS]
  rw[u8_or (mset_lt hw.1) (mset_lt hw.1),mset_or,mset_all hw.1 (fun c hc=>by
   rcases hw.2 c hc with h |h |h
   ·simp;omega
   ·simp[h]
   ·simp[h])]
  rfl
 refine Ob ?_
 exact h
theorem c_ctl_check {l:Nat} (hw:OkW cs) (hl:l<8) (h:R (.int .i64 0) w):Call Pg 289 #[.int .u64 (wd cs),.int .i64 l] w R:=by
 refine c_289 ?_
 simp only[F_289]
 refine c_ctl_Valid hw ?_
 refine Ob ?_
 exact h
theorem and255:∀ {c:Nat},c<256→c &&& 255=c:=fun {c} h=>by
 rw[show(255:Nat)=2^8 - 1 from rfl,Nat.and_two_pow_sub_one_eq_mod,Nat.mod_eq_of_lt h]
theorem with_word {l:Nat} (hl:cs.length=8) (hc:By cs) (hb:b<256) (h:l<8):
  ∃M N:Nat,M<18446744073709551616∧N<18446744073709551616∧255 * 2^(8 * l)=M∧b * 2^(8 * l)=N∧(wd cs &&& (18446744073709551616 - (M+1))) ||| N=wd (cs.set l b)∧wd cs &&& (18446744073709551616 - (M+1))<18446744073709551616:=by
 obtain⟨c0,c1,c2,c3,c4,c5,c6,c7,rfl⟩:=len8 hl
 have h0:=hc c0 (by simp)
 have h1:=hc c1 (by simp)
 have h2:=hc c2 (by simp)
 have h3:=hc c3 (by simp)
 have h4:=hc c4 (by simp)
 have h5:=hc c5 (by simp)
 have h6:=hc c6 (by simp)
 have h7:=hc c7 (by simp)
 have go:∀ds ns:List Nat,ds.length=8→By ds→ns.length=8→By ns→∀M,M=18446744073709551615 - wd ds→M<18446744073709551616→M=255 * 2^(8 * l)→b * 2^(8 * l)=wd ns→
   List.zipWith (· ||| ·) (List.zipWith (· &&& ·) [c0,c1,c2,c3,c4,c5,c6,c7] ds) ns=[c0,c1,c2,c3,c4,c5,c6,c7].set l b→
   ∃M N:Nat,M<18446744073709551616∧N<18446744073709551616∧255 * 2^(8 * l)=M∧b * 2^(8 * l)=N∧(wd [c0,c1,c2,c3,c4,c5,c6,c7] &&& (18446744073709551616 - (M+1))) ||| N=wd ([c0,c1,c2,c3,c4,c5,c6,c7].set l b)∧wd [c0,c1,c2,c3,c4,c5,c6,c7] &&& (18446744073709551616 - (M+1))<18446744073709551616:=by
  intro ds ns hd bd hn bn M eM lM e1 e2 e3
  have ld:=wd_lt64 hd bd
  have eD:18446744073709551616 - (M+1)=wd ds:=by omega
  have ba:By (List.zipWith (· &&& ·) [c0,c1,c2,c3,c4,c5,c6,c7] ds):=by
   intro x hx
   obtain⟨i,hi,rfl⟩:=List.getElem_of_mem hx
   rw[List.getElem_zipWith]
   exact Nat.lt_of_le_of_lt Nat.and_le_left (hc _ (List.getElem_mem _))
  refine⟨M,wd ns,lM,wd_lt64 hn bn,e1.symm,e2,?_,?_⟩
  ·rw[eD,wd_and (by simp[hd]) hc bd,wd_or (by simp[hd,hn]) ba bn,e3]
  ·rw[eD,wd_and (by simp[hd]) hc bd]
   exact wd_lt64 (by simp[hd]) ba
 have hl8:l=0∨l=1∨l=2∨l=3∨l=4∨l=5∨l=6∨l=7:=by omega
 rcases hl8 with rfl |rfl |rfl |rfl |rfl |rfl |rfl |rfl
 ·exact go [0,255,255,255,255,255,255,255] [b,0,0,0,0,0,0,0] rfl (by intro x hx;simp at hx;omega) rfl (by intro x hx;simp at hx;omega) _ rfl (by decide) (by decide) (by simp[wd];try omega) (by simp[and255,h1,h2,h3,h4,h5,h6,h7])
 ·exact go [255,0,255,255,255,255,255,255] [0,b,0,0,0,0,0,0] rfl (by intro x hx;simp at hx;omega) rfl (by intro x hx;simp at hx;omega) _ rfl (by decide) (by decide) (by simp[wd];try omega) (by simp[and255,h0,h2,h3,h4,h5,h6,h7])
 ·exact go [255,255,0,255,255,255,255,255] [0,0,b,0,0,0,0,0] rfl (by intro x hx;simp at hx;omega) rfl (by intro x hx;simp at hx;omega) _ rfl (by decide) (by decide) (by simp[wd];try omega) (by simp[and255,h0,h1,h3,h4,h5,h6,h7])
 ·exact go [255,255,255,0,255,255,255,255] [0,0,0,b,0,0,0,0] rfl (by intro x hx;simp at hx;omega) rfl (by intro x hx;simp at hx;omega) _ rfl (by decide) (by decide) (by simp[wd];try omega) (by simp[and255,h0,h1,h2,h4,h5,h6,h7])
 ·exact go [255,255,255,255,0,255,255,255] [0,0,0,0,b,0,0,0] rfl (by intro x hx;simp at hx;omega) rfl (by intro x hx;simp at hx;omega) _ rfl (by decide) (by decide) (by simp[wd];try omega) (by simp[and255,h0,h1,h2,h3,h5,h6,h7])
 ·exact go [255,255,255,255,255,0,255,255] [0,0,0,0,0,b,0,0] rfl (by intro x hx;simp at hx;omega) rfl (by intro x hx;simp at hx;omega) _ rfl (by decide) (by decide) (by simp[wd];try omega) (by simp[and255,h0,h1,h2,h3,h4,h6,h7])
 ·exact go [255,255,255,255,255,255,0,255] [0,0,0,0,0,0,b,0] rfl (by intro x hx;simp at hx;omega) rfl (by intro x hx;simp at hx;omega) _ rfl (by decide) (by decide) (by simp[wd];try omega) (by simp[and255,h0,h1,h2,h3,h4,h5,h7])
 ·exact go [255,255,255,255,255,255,255,0] [0,0,0,0,0,0,0,b] rfl (by intro x hx;simp at hx;omega) rfl (by intro x hx;simp at hx;omega) _ rfl (by decide) (by decide) (by simp[wd];try omega) (by simp[and255,h0,h1,h2,h3,h4,h5,h6])
theorem c_With {l:Nat} (hl:cs.length=8) (hc:By cs) (hb:b<256) (hlt:l<8) (h:R (.tuple #[.int .u64 (wd (cs.set l b)),.int .i64 0]) w.drew):Call Pg 291 #[.int .u64 (wd cs),.int .i64 l,.int .u8 b] w R:=by
 obtain⟨M,N,hM,hN,e1,e2,e3,e4⟩:=with_word (l:=l) hl hc hb hlt
 refine c_291 ?_
 simp only[F_291]
 refine Ob ?_
 have e5:((8:Int) * (l:Int)).toNat=8 * l:=by omega
 have e6:min (8 * l) IntKind.u64.bits=8 * l:=by show min (8 * l) 64=8 * l;omega
 have p1:(255:Int) * 2^(8 * l)=((255 * 2^(8 * l):Nat):Int):=by simp
 have p2:(b:Int) * 2^(8 * l)=((b * 2^(8 * l):Nat):Int):=by simp
 rw[e5,e6,p1,p2,e1,e2,u64_in _ (by omega),u64_in _ (by omega),u64_andNot (wd_lt64 hl hc) hM,u64_or e4 hN,e3]
 exact h
theorem Okc.lt {c:Nat} (h:Okc c):c<256:=by rcases h with h |h |h<;>omega
theorem c_ctl_Set {l:Nat} (hw:OkW cs) (hb:Okc b) (hlt:l<8) (h:R (.tuple #[.int .u64 (wd (cs.set l b)),.int .i64 0]) w.drew):Call Pg 336 #[.int .u64 (wd cs),.int .i64 l,.int .u8 b] w R:=by
 refine c_336 ?_
 simp only[F_336]
 have tail:Call Pg 289 #[.int .u64 (wd cs),.int .i64 l] w fun t21 w_5=>
   PV (binN .neq t21 (.int .i64 0)) fun t23=>
   CND t23
   (R (.tuple #[.int .u64 0,t21]) w_5)
   (Call Pg 291 #[.int .u64 (wd cs),.int .i64 l,.int .u8 b] w_5 fun t28 w_6=>
   PV (extV 0 t28) fun t29=>
   PV (extV 1 t28) fun t30=>
   R (.tuple #[t29,t30]) w_6):=by
  refine c_ctl_check hw hlt ?_
  refine Ob ?_
  refine c_With hw.1 hw.by_ hb.lt hlt ?_
  refine Ob ?_
  exact h
 rcases hb with h1 |rfl |rfl
 ·refine Ob ?_
  exact tail
 ·refine Ob ?_
  exact tail
 ·refine Ob ?_
  exact tail
theorem fullS_bit {l c:Nat} (hw:OkW cs) (hc:cs[l]?=some c) (hcl:c<128) (hlt:l<8):(fullS cs/2^l) &&& 1=1:=by
 have h:=(mem_lanes (p:=fun c=> !decide (128≤c)) hw.1 (i:=l)).2 ⟨c,hc,by simp;omega⟩
 simp only[lanes,List.mem_filter] at h
 have h2:=h.2
 rw[Nat.testBit_eq_decide_div_mod_eq] at h2
 simp only[decide_eq_true_eq] at h2
 rw[Nat.and_one_is_mod]
 exact h2
theorem c_Erase {l c:Nat} (hw:OkW cs) (hc:cs[l]?=some c) (hcl:c<128) (h:R (.tuple #[.int .u64 (wd (cs.set l (if emptyS cs=0 then 254 else 128))),.int .i64 0]) w.drew):Call Pg 234 #[.int .u64 (wd cs),.int .i64 l] w R:=by
 have hlt:l<8:=by have :=lt_of_get hc;rw[hw.1] at this;exact this
 have hfl:fullS cs<256:=mset_lt hw.1
 have go:∀b,Okc b→b=(if emptyS cs=0 then 254 else 128)→B_234_7 R (.int .u64 (wd cs)) (.int .i64 l) (.int .u8 b) w:=by
  intro b hb e
  subst e
  refine B_234_7.intro ?_
  simp only[P_234_7]
  refine c_Full hw.1 hw.by_ ?_
  refine Ob ?_
  rw[show min l IntKind.u8.bits=l by show min l 8=l;omega,shrN]
  have e1:(1:Int)=((1:Nat):Int):=rfl
  have e2:bitI .and .u8 ((fullS cs/2^l:Nat):Int) 1=1:=by
   rw[e1,u8_and (Nat.lt_of_le_of_lt (Nat.div_le_self _ _) hfl) (by decide),fullS_bit hw hc hcl hlt]
  simp only[e2]
  refine Ob ?_
  refine c_With hw.1 hw.by_ hb.lt hlt ?_
  refine Ob ?_
  exact h
 refine c_234 ?_
 simp only[F_234]
 refine c_ctl_check hw hlt ?_
 refine Ob ?_
 refine c_Empties hw.1 hw.by_ ?_
 by_cases he:emptyS cs=0
 ·rw[he]
  refine Ob ?_
  exact go 254 (.inr (.inr rfl)) (by rw[if_pos he])
 ·have :=mset_lt (p:=fun c=>c==128) hw.1
  refine Ob ?_
  exact go 128 (.inr (.inl rfl)) (by rw[if_neg he])
end
end Go.Cub
namespace Go.Cub
open Go Go.Proofs Go.IntWalk
def tzTab:ByteArray:=⟨#[8,0,1,0,2,0,1,0,3,0,1,0,2,0,1,0,4,0,1,0,2,0,1,0,3,0,1,0,2,0,1,0,5,0,1,0,2,0,1,0,3,0,1,0,2,0,1,0,4,0,1,0,2,0,1,0,3,0,1,0,2,0,1,0,6,0,1,0,2,0,1,0,3,0,1,0,2,0,1,0,4,0,1,0,2,0,1,0,3,0,1,0,2,0,1,0,5,0,1,0,2,0,1,0,3,0,1,0,2,0,1,0,4,0,1,0,2,0,1,0,3,0,1,0,2,0,1,0,7,0,1,0,2,0,1,0,3,0,1,0,2,0,1,0,4,0,1,0,2,0,1,0,3,0,1,0,2,0,1,0,5,0,1,0,2,0,1,0,3,0,1,0,2,0,1,0,4,0,1,0,2,0,1,0,3,0,1,0,2,0,1,0,6,0,1,0,2,0,1,0,3,0,1,0,2,0,1,0,4,0,1,0,2,0,1,0,3,0,1,0,2,0,1,0,5,0,1,0,2,0,1,0,3,0,1,0,2,0,1,0,4,0,1,0,2,0,1,0,3,0,1,0,2,0,1,0]⟩
def tz8 (s:Nat):Nat:=(lanes s).headD 8
theorem tz_tab:∀b,b<256→tzTab[b]?=some (UInt8.ofNat (tz8 b)):=by decide+kernel
theorem tz8_le (s:Nat):tz8 s≤8:=by
 unfold tz8
 cases h:lanes s with
 |nil=>simp
 |cons t ts=>
  have :t∈lanes s:=by rw[h];simp
  simp only[lanes,List.mem_filter,List.mem_range] at this
  simp;omega
def pat (part k i:Nat):Nat:=(part+i * (i+1)/2)%2^k
section
variable {R:Value→World→Prop} {w:World} {C:List HP} {s k:Nat}
attribute [local irreducible] PV CND GRD L1 LN S1 SN NEW NEWS MKS MKM LK MU DEL LENM APP CPY BTS Call CallV
theorem c_First (hs:s<256) (h:R (.int .i64 (tz8 s)) w):Call Pg 331 #[.int .u8 s] w R:=by
 refine c_331 ?_
 simp only[F_331]
 refine c_351 ?_
 show PV (idxStr (.string tzTab) (.int .u8 s)) fun t4=>PV (convI .i64 t4) fun t5=>R t5 w
 have hb:=tz8_le s
 refine PV_of (v:=.int .u8 (tz8 s:Nat)) ?_ ?_
 ·simp only[idxStr,Int.toNat_natCast,tz_tab s hs]
  rw[if_pos (by omega)]
  simp only[Option.map_some,UInt8.toNat_ofNat']
  rw[Nat.mod_eq_of_lt (by omega)]
 ·refine Ob ?_
  exact h
theorem c_word_All (hs:s<256) (H:Own w.hp C) (h:∀t w',Own w'.hp (pt t [.int .u8 s]::C)→R (.func (.func 330) #[] #[ptrV t]) w'):Call Pg 286 #[.int .u8 s] w R:=by
 refine c_286 ?_
 simp only[F_286]
 refine NEWo H fun t w H=>?_
 exact h t w H
theorem iter_word {t:Nat} (hs:s<256):Iter Pg (pt t [.int .u8 s]) (.func (.func 330) #[] #[ptrV t]) ((lanes s).map fun i=>[.int .i64 (i:Nat)]):=by
 refine⟨_,_,_,rfl,Tryz.calOk _ (by rfl),fun J S y w H hy=>?_⟩
 rw[show(#[]++#[y]++#[ptrV t]:Array Value)=#[y,ptrV t] from rfl]
 refine c_330 ?_
 simp only[F_330]
 refine L1o H rfl ?_
 have loop:∀(m r:Nat) (pre:List Nat) (w:World),r<256→(lanes r).length≤m→pre++lanes r=lanes s→Own w.hp [pt t [.int .u8 s],J pre.length]→B_330_1 (fun _ w'=>Own w'.hp [pt t [.int .u8 s],J ((lanes s).map fun i=>[Value.int .i64 (i:Nat)]).length]∨S w') y (.int .u8 r) w:=by
  intro m
  induction m with
  |zero=>
   intro r pre w hr hm hp H
   have h0:lanes r=[]:=List.length_eq_zero_iff.1 (by omega)
   have hr0:r=0:=by
    by_cases h:r=0
    ·exact h
    ·have :=(lanes_step ⟨r,hr⟩ h).1
     simp only[h0] at this
     cases this
   subst hr0
   refine B_330_1.intro ?_
   simp only[P_330_1]
   refine Ob ?_
   left
   rw[←hp,h0]
   simpa using H
  |succ m ih=>
   intro r pre w hr hm hp H
   refine B_330_1.intro ?_
   simp only[P_330_1]
   by_cases hr0:r=0
   ·subst hr0
    refine Ob ?_
    left
    rw[←hp,lanes_zero]
    simpa using H
   ·obtain⟨h1,h2⟩:=lanes_step ⟨r,hr⟩ hr0
    simp only at h1 h2
    refine Ob ?_
    refine c_First hr ?_
    have hx:((lanes s).map fun i=>[Value.int .i64 (i:Nat)])[pre.length]?=some [.int .i64 (tz8 r:Nat)]:=by
     rw[←hp,h1];simp[tz8]
    refine CallV.mono (hy _ _ hx _ H) ?_
    rintro b w' (⟨rfl,H⟩ |⟨rfl,hS⟩)
    ·refine Ob ?_
     rw[show((r:Int) - 1)=((r - 1:Nat):Int) by omega,u8_and hr (by omega)]
     have hlt:r &&& (r - 1)<256:=Nat.lt_of_le_of_lt Nat.and_le_left hr
     refine ih _ (pre++[tz8 r]) w' hlt ?_ ?_ (by simpa using H)
     ·rw[h1,List.length_cons] at hm;omega
     ·rw[←hp,h1];simp[tz8]
    ·refine Ob ?_
     exact .inr hS
 exact loop _ s [] w hs (Nat.le_refl _) rfl H
theorem pow20 (hk:k≤20):0<2^k∧2^k≤1048576:=⟨Nat.two_pow_pos k,Nat.pow_le_pow_right (n:=2) (by decide) hk⟩
theorem c_probe_Valid {m:Nat} (hm:m=2^k) (hk:k≤20) (h:R (.bool true) w):Call Pg 210 #[.int .i64 m] w R:=by
 obtain⟨h1,h2⟩:=pow20 hk
 refine c_210 ?_
 simp only[F_210]
 have hp:(m &&& (m - 1))=0:=by
  rw[hm,Nat.and_two_pow_sub_one_eq_mod,Nat.mod_self]
 have hb:bitI .and .i64 (m:Int) ((m:Int) - 1)=0:=by
  rw[show((m:Int) - 1)=((m - 1:Nat):Int) by omega,(bitI_nat (k:=.i64) (show m<2^64 by omega) (show m - 1<2^64 by omega)).1,hp]
  rfl
 refine Ob ?_
 exact h
theorem c_probe_check {m i:Nat} (hm:m=2^k) (hk:k≤20) (hi:i<m) (h:R (.int .i64 0) w):Call Pg 327 #[.int .i64 m,.int .i64 i] w R:=by
 obtain⟨h1,h2⟩:=pow20 hk
 refine c_327 ?_
 simp only[F_327]
 refine c_probe_Valid hm hk ?_
 refine Ob ?_
 exact h
theorem c_probe_at {m i part:Nat} (hm:m=2^k) (hk:k≤20) (hi:i<m) (hp:part<18446744073709551616) (h:R (.int .i64 (pat part k i)) w):Call Pg 329 #[.int .u64 part,.int .i64 m,.int .i64 i] w R:=by
 obtain⟨h1,h2⟩:=pow20 hk
 refine c_329 ?_
 simp only[F_329]
 have hii:i * (i+1)≤1048576 * 1048576:=Nat.mul_le_mul (by omega) (by omega)
 have e1:((i:Int) * ((i:Int)+1))=((i * (i+1):Nat):Int):=by simp
 have e0:((i:Int)+1)=((i+1:Nat):Int):=by simp
 have e2:((m:Int) - 1)=((m - 1:Nat):Int):=by omega
 rw[binN_add,i64_in _ (by omega)]
 refine Ob ?_
 rw[e1]
 have e3:(part+i * (i+1)/2)%18446744073709551616 &&& (m - 1)=pat part k i:=by
  rw[hm,Nat.and_two_pow_sub_one_eq_mod,pat]
  exact Nat.mod_mod_of_dvd _ (by rw[show(18446744073709551616:Nat)=2^64 from rfl];exact Nat.pow_dvd_pow 2 (by omega))
 generalize i * (i+1)=q at hii e3
 rw[show(q:Int).tdiv 2=((q/2:Nat):Int) from rfl,i64_in ((q/2:Nat):Int) (by omega),u64_in ((q/2:Nat):Int) (by omega), ←Int.natCast_add,u64_wrap,e2]
 rw[u64_and (Nat.mod_lt _ (by decide)) (by omega)]
 rw[e3]
 have hlt:pat part k i<2^k:=Nat.mod_lt _ h1
 refine Ob ?_
 exact h
end
end Go.Cub
namespace Go.Cub
open Go Go.Proofs Go.IntWalk
def prA (t6 t2 t3 part m:Nat):HP:=.all [pt t6 [.int .i64 m],pt t2 [.int .u64 part],pt t3 [.int .i64 m]]
def foldH (h:Nat):List UInt8→Nat
 |[]=>h
 |b::bs=>foldH ((h ^^^ b.toNat) * 1099511628211%18446744073709551616) bs
def mixH (w:Nat):Nat:=
 let x:=5 * (w ^^^ w/536870912)%18446744073709551616
 x ^^^ x/4294967296
def sumH (hs:Nat×Bool) (key:ByteArray):Nat:=mixH (foldH hs.1 (if hs.2 then[] else key.data.toList))
theorem foldH_lt:∀(bs:List UInt8) {h:Nat},h<18446744073709551616→foldH h bs<18446744073709551616
 |[],h,hh=>hh
 |b::bs,h,hh=>foldH_lt bs (Nat.mod_lt _ (by decide))
theorem mixH_lt (w:Nat):mixH w<18446744073709551616:=by
 have h:5 * (w ^^^ w/536870912)%18446744073709551616<18446744073709551616:=Nat.mod_lt _ (by decide)
 exact Nat.xor_lt_two_pow (n:=64) h (Nat.lt_of_le_of_lt (Nat.div_le_self _ _) h)
theorem sumH_lt (seed:Nat×Bool) (key:ByteArray):sumH seed key<18446744073709551616:=mixH_lt _
section
variable {R:Value→World→Prop} {w:World} {C:List HP} {k m part:Nat}
attribute [local irreducible] PV CND GRD L1 LN S1 SN NEW NEWS MKS MKM LK MU DEL LENM APP CPY BTS Call CallV
theorem c_probe_All (hm:m=2^k) (hk:k≤20) (H:Own w.hp C) (h:∀t6 t2 t3 w',Own w'.hp (prA t6 t2 t3 part m::C)→R (.tuple #[.func (.func 328) #[] #[ptrV t6,ptrV t2,ptrV t3],.int .i64 0]) w'):Call Pg 284 #[.int .u64 part,.int .i64 m] w R:=by
 obtain⟨h1,h2⟩:=pow20 hk
 refine c_284 ?_
 simp only[F_284]
 refine NEWo H fun t2 w H=>?_
 refine NEWo H fun t3 w H=>?_
 have H:Own w.hp (pt t3 [.int .i64 m]::pt t2 [.int .u64 part]::C):=H
 refine L1o (w:=w.drew) H rfl ?_
 refine L1o (w:=w.drew) H rfl ?_
 have hc:∀ {w R},R (.int .i64 0) w→Call Pg 327 #[.int .i64 m,.int .i64 0] w R:=fun h=>by
  have :=c_probe_check (i:=0) (w:=_) hm hk (by omega) h
  simpa using this
 refine⟨?_,?_,trivial⟩
 ·refine hc ?_
  refine⟨L1o (w:=w.drew) H rfl rfl,?_⟩
  refine NEWo (w:=w.drew) H fun t6 w H=>?_
  refine⟨L1o H rfl rfl,?_⟩
  refine S1o H rfl rfl fun w H=>?_
  refine Ob ?_
  refine h t6 t2 t3 w (all3.2 ?_)
  exact H.mv1.mv2.mv2
 ·refine NEWo (w:=w.drew) H fun t6 w H=>?_
  refine⟨L1o H rfl rfl,?_⟩
  refine⟨L1o H rfl rfl,?_⟩
  refine hc ?_
  refine⟨L1o H rfl rfl,?_⟩
  refine S1o H rfl rfl fun w H=>?_
  refine Ob ?_
  refine h t6 t2 t3 w (all3.2 ?_)
  exact H.mv1.mv2.mv2
theorem iter_probe {t6 t2 t3:Nat} (hm:m=2^k) (hk:k≤20) (hp:part<18446744073709551616):Iter Pg (prA t6 t2 t3 part m) (.func (.func 328) #[] #[ptrV t6,ptrV t2,ptrV t3]) ((List.range m).map fun i=>[.int .i64 (pat part k i:Nat)]):=by
 obtain⟨h1,h2⟩:=pow20 hk
 refine⟨_,_,_,rfl,Tryz.calOk _ (by rfl),fun J S y w H hy=>?_⟩
 rw[show(#[]++#[y]++#[ptrV t6,ptrV t2,ptrV t3]:Array Value)=#[y,ptrV t6,ptrV t2,ptrV t3] from rfl]
 refine c_328 ?_
 simp only[F_328]
 have H1:=all3.1 H
 refine L1o H1 rfl ?_
 have loop:∀(n i:Nat) (w:World),n+i=m→Own w.hp [prA t6 t2 t3 part m,J i]→B_328_1 (fun _ w'=>Own w'.hp [prA t6 t2 t3 part m,J ((List.range m).map fun i=>[Value.int .i64 (pat part k i:Nat)]).length]∨S w') y (ptrV t2) (ptrV t3) (.int .i64 m) (.int .i64 i) w:=by
  intro n
  induction n with
  |zero=>
   intro i w hi H
   have :i=m:=by omega
   subst this
   refine B_328_1.intro ?_
   simp only[P_328_1]
   refine Ob ?_
   left
   simpa using H
  |succ n ih=>
   intro i w hi H
   have H0:=H
   have H:=all3.1 H
   refine B_328_1.intro ?_
   simp only[P_328_1]
   (repeat first |refine L1o H rfl ?_ |refine Oc ?_)
   refine c_probe_at hm hk (show i<m by omega) hp ?_
   have hx:((List.range m).map fun i=>[Value.int .i64 (pat part k i:Nat)])[i]?=some [.int .i64 (pat part k i:Nat)]:=by
    rw[List.getElem?_map,List.getElem?_range (show i<m by omega)];rfl
   refine CallV.mono (hy _ _ hx _ H0) ?_
   rintro b w' (⟨rfl,H⟩ |⟨rfl,hS⟩)
   ·refine Ob ?_
    rw[show((i:Int)+1)=((i+1:Nat):Int) by simp]
    exact ih (i+1) w' (by omega) H
   ·refine Ob ?_
    exact .inr hS
 exact loop m 0 w (by omega) H
theorem c_hash_Part {sum:Nat} (hs:sum<18446744073709551616) (h:R (.int .u64 (sum/128:Nat)) w):Call Pg 285 #[.int .u64 sum] w R:=by
 refine c_285 ?_
 simp only[F_285]
 refine Ob ?_
 rw[show min 7 IntKind.u64.bits=7 from rfl,shrN]
 exact h
theorem c_hash_Tag {sum:Nat} (hs:sum<18446744073709551616) (h:R (.int .u8 (sum%128:Nat)) w):Call Pg 288 #[.int .u64 sum] w R:=by
 refine c_288 ?_
 simp only[F_288]
 refine Ob ?_
 rw[show(127:Int)=((127:Nat):Int) from rfl,u64_and hs (by decide),show(127:Nat)=2^7 - 1 from rfl,Nat.and_two_pow_sub_one_eq_mod]
 rw[u8_in _ (by have :=Nat.mod_lt sum (y:=128) (by decide);show 0≤((sum%128:Nat):Int)∧((sum%128:Nat):Int)≤255;omega)]
 exact h
theorem c_hash_Mix {x:Nat} (hx:x<18446744073709551616) (h:R (.int .u64 (mixH x)) w):Call Pg 293 #[.int .u64 x] w R:=by
 refine c_293 ?_
 simp only[F_293]
 refine Ob ?_
 rw[show min 29 IntKind.u64.bits=29 from rfl,shrN,show(2:Nat)^29=536870912 from rfl,u64_xor hx (Nat.lt_of_le_of_lt (Nat.div_le_self _ _) hx)]
 rw[show((5:Int) * ((x ^^^ x/536870912:Nat):Int))=((5 * (x ^^^ x/536870912):Nat):Int) by rw[Int.natCast_mul];rfl,u64_wrap]
 refine Ob ?_
 rw[show min 32 IntKind.u64.bits=32 from rfl,shrN,show(2:Nat)^32=4294967296 from rfl]
 have hl:5 * (x ^^^ x/536870912)%18446744073709551616<18446744073709551616:=Nat.mod_lt _ (by decide)
 rw[u64_xor hl (Nat.lt_of_le_of_lt (Nat.div_le_self _ _) hl)]
 exact h
theorem c_hash_fold {key:ByteArray} {x:Nat} (hx:x<18446744073709551616) (hk:key.size≤1000000) (h:R (.int .u64 (foldH x key.data.toList)) w):Call Pg 294 #[.int .u64 x,.string key] w R:=by
 refine c_294 ?_
 simp only[F_294]
 have hlen:key.data.toList.length=key.size:=Array.length_toList
 have loop:∀(n i x:Nat),n+i=key.size→x<18446744073709551616→foldH x (key.data.toList.drop i)=foldH x (key.data.toList.drop i)→R (.int .u64 (foldH x (key.data.toList.drop i))) w→B_294_2 R (.int .u64 x) (.string key) (.int .i64 key.size) (.int .i64 i) w:=by
  intro n
  induction n with
  |zero=>
   intro i x hi hx _ h
   refine B_294_2.intro ?_
   simp only[P_294_2]
   refine Ob ?_
   rw[List.drop_eq_nil_of_le (by omega)] at h
   exact h
  |succ n ih=>
   intro i x hi hx _ h
   have hlt:i<key.data.toList.length:=by omega
   refine B_294_2.intro ?_
   simp only[P_294_2]
   refine Ob ?_
   rw[List.drop_eq_getElem_cons hlt] at h
   refine PV_of (v:=.int .u8 (key.data.toList[i].toNat:Nat)) ?_ ?_
   ·simp only[idxStr,Int.toNat_natCast]
    rw[if_pos (by omega)]
    have hg:key[i]?=some key.data.toList[i]:=by
     rw[getElem?_pos key i (by omega)];rfl
    rw[hg];rfl
   ·have hb:=key.data.toList[i].toNat_lt
    refine Ob ?_
    rw[u64_xor hx (by omega),show((1099511628211:Int))=((1099511628211:Nat):Int) from rfl, ←Int.natCast_mul,u64_wrap,show((i:Int)+1)=((i+1:Nat):Int) by simp]
    exact ih (i+1) _ (by omega) (Nat.mod_lt _ (by decide)) rfl h
 refine PV_of (v:=.int .i64 key.size) rfl ?_
 exact loop key.size 0 x (by omega) hx rfl h
theorem c_hash_Sum {seed:Nat×Bool} {key:ByteArray} (hx:seed.1<18446744073709551616) (hk:key.size≤1000000) (H:Own w.hp C) (h:∀w',Own w'.hp C→R (.int .u64 (sumH seed key)) w'):Call Pg 236 #[.agg #[.int .u64 seed.1,.bool seed.2],.string key] w R:=by
 obtain⟨sd,b⟩:=seed
 refine c_236 ?_
 simp only[F_236]
 refine NEWo H fun t2 w H=>?_
 cases b with
 |false=>
  (repeat first |refine L1o H rfl ?_ |refine Oc ?_)
  refine B_236_3.intro ?_
  simp only[P_236_3]
  (repeat first |refine L1o H rfl ?_ |refine Oc ?_)
  refine c_hash_fold hx hk ?_
  refine c_hash_Mix (foldH_lt _ hx) ?_
  exact h w H.drop
 |true=>
  (repeat first |refine L1o H rfl ?_ |refine Oc ?_)
  refine B_236_3.intro ?_
  simp only[P_236_3]
  (repeat first |refine L1o H rfl ?_ |refine Oc ?_)
  refine c_hash_fold (key:=⟨#[]⟩) hx (by decide) ?_
  refine c_hash_Mix (foldH_lt _ hx) ?_
  exact h w H.drop
theorem c_hash_New {seed:Nat} {b:Bool} (H:Own w.hp C) (h:∀w',Own w'.hp C→R (.agg #[.int .u64 seed,.bool b]) w'):Call Pg 76 #[.int .u64 seed,.bool b] w R:=by
 refine c_76 ?_
 simp only[F_76]
 refine NEWo H fun t4 w H=>?_
 refine PV_of (v:=.agg #[.int .u64 seed,.bool b]) rfl ?_
 refine SNo H rfl (by simp) (by simp[Value.oneCell']) fun w H=>?_
 refine LNo H (by simp[splice]) ?_
 exact h w H.drop
end
end Go.Cub
