/-
  Part 20 of the proof that TopNested returns true and leaves what it was given as it was. CONDITIONS: those of the given row and card.
-/
import Derived.Test.YtpelalpajdpkgaaGreatDoorZ06
import Derived.Test.YtpelalpajdpkgaaGreatDoorZ18
import Derived.StillTailTactics
import Derived.Shelf.SlSortCmp.NoneTotal
set_option linter.all false
namespace Go.Proofs
open Go.Shelf Go.RowKit Go.Lib Go.Sort
theorem Tryz.q272 (x:Int) (w:World):Calls Tryz.prog 272 #[.int .u64 x] w fun e w'=>e=.returned (.bool false)∧w'=w:=by
 go_enter Tryz.func272,Tryz.ntmps272
 go_wp2
 go_ret
 exact⟨by simp,rfl⟩
theorem Tryz.q273 (x:Int) (w:World):Calls Tryz.prog 273 #[.int .u64 x] w fun e w'=>e=.returned (.bool false)∧w'=w:=by
 go_enter Tryz.func273,Tryz.ntmps273
 go_wp2
 go_ret
 exact⟨by simp,rfl⟩
theorem Tryz.q220 (x y:Int) (w:World):Calls Tryz.prog 220 #[.int .u64 x,.int .u64 y] w fun e w'=>e=.returned (.int .i64 (Lib.compareInt x y))∧w'=w:=by
 go_enter Tryz.func220,Tryz.ntmps220
 go_wp2_with (go_at_call 272;refine(Tryz.q272 _ _).mono ?_;rintro e w' ⟨rfl,hw⟩;rw[hw])
 all_goals (go_ret;refine⟨?_,rfl⟩;unfold Lib.compareInt;(repeat' split)<;>first |rfl |(exfalso;omega))
theorem Tryz.q221 (x y:Int) (w:World):Calls Tryz.prog 221 #[.int .u64 x,.int .u64 y] w fun e w'=>e=.returned (.int .i64 (Lib.compareInt x y))∧w'=w:=by
 go_enter Tryz.func221,Tryz.ntmps221
 go_wp2_with (go_at_call 273;refine(Tryz.q273 _ _).mono ?_;rintro e w' ⟨rfl,hw⟩;rw[hw])
 all_goals (go_ret;refine⟨?_,rfl⟩;unfold Lib.compareInt;(repeat' split)<;>first |rfl |(exfalso;omega))
theorem Tryz.q219 (x y r:Int) (hr:r=if x=0 then y else x) (blk:Nat) (w:World) (h0:w.cell? ⟨blk,0,none⟩=some (.int .i64 x)) (h1:w.cell? ⟨blk,1,none⟩=some (.int .i64 y)):Calls Tryz.prog 219 #[.slice (some ⟨blk,0,none⟩) 2 2] w fun e w'=>e=.returned (.int .i64 r)∧w'=w:=by
 go_enter Tryz.func219,Tryz.ntmps219
 go_wp2
 refine wp_loop_rounds 3 ?_
 rw[rounds_succ]
 go_wp2
 ·rename_i hx
  go_ret
  refine⟨?_,rfl⟩
  rw[hr,if_neg (by simpa using hx)];rfl
 ·rename_i hx
  have hx:x=0:=by simpa using hx
  rw[if_pos hx] at hr
  rw[rounds_succ]
  go_wp2
  ·go_ret
   refine⟨?_,rfl⟩
   rw[hr];rfl
  ·rename_i hy
   have hy:y=0:=by simpa using hy
   rw[hy] at hr
   rw[rounds_succ]
   go_wp2
   go_ret
   refine⟨?_,rfl⟩
   rw[hr];rfl
def Tryz.cfT (x y:Nat×Nat×Nat):Int:=if Lib.compareInt x.2.1 y.2.1=0 then Lib.compareInt x.2.2 y.2.2 else Lib.compareInt x.2.1 y.2.1
def Tryz.encT (x:Nat×Nat×Nat):List Value:=[.int .u32 x.1,.int .u64 x.2.1,.int .u64 x.2.2]
theorem Tryz.boxes (W:World) (xs ys:Array Value) (t u:TypeId):∀W3:World,W3=((W.alloc (.cells xs t)).alloc (.cells ys u)).drew→
  (∀i,W3.cell? ⟨W.heap.size,i,none⟩=xs.toList[i]?)∧(∀i,W3.cell? ⟨W.heap.size+1,i,none⟩=ys.toList[i]?):=by
 intro W3 h
 subst h
 have h1:Go.Cub.row ((W.alloc (.cells xs t)).alloc (.cells ys u)) W.heap.size=some xs.toList:=(Go.Cub.Ext.alloc _).row (Go.Cub.row_alloc_new xs t) (by simp)
 have h2:Go.Cub.row ((W.alloc (.cells xs t)).alloc (.cells ys u)) (W.alloc (.cells xs t)).heap.size=some ys.toList:=Go.Cub.row_alloc_new ys u
 rw[show(W.alloc (.cells xs t)).heap.size=W.heap.size+1 by simp[Go.Cub.heap_alloc]] at h2
 exact⟨fun i=>Go.Cub.cell_row (w:=((W.alloc (.cells xs t)).alloc (.cells ys u)).drew) h1 i,fun i=>Go.Cub.cell_row (w:=((W.alloc (.cells xs t)).alloc (.cells ys u)).drew) h2 i⟩
theorem Tryz.box1 (W:World) (xs:Array Value) (t:TypeId) (i:Nat):(W.alloc (.cells xs t)).cell? ⟨W.heap.size,i,none⟩=xs.toList[i]?:=Go.Cub.cell_row (Go.Cub.row_alloc_new xs t) i
set_option maxHeartbeats 1000000 in
set_option maxRecDepth 100000 in
theorem Tryz.q218 (x y : Nat × Nat × Nat) (W : World) : Calls Tryz.prog 218 #[.agg (Tryz.encT x).toArray, .agg (Tryz.encT y).toArray] W fun e w' => e = .returned (.int .i64 (Tryz.cfT x y)) ∧ ∃ q os', w' = grow (W.drewN q) os' := by
  have hbx := Tryz.boxes W (Tryz.encT x).toArray (Tryz.encT y).toArray 193 193
  have hfin : ∀ W3 : World, W3 = ((W.alloc (.cells (Tryz.encT x).toArray 193)).alloc (.cells (Tryz.encT y).toArray 193)).drew → ∀ o, ∃ q os', W3.alloc o = grow (W.drewN q) os' := by
    intro W3 h o
    subst h
    exact ⟨1, #[.cells (Tryz.encT x).toArray 193, .cells (Tryz.encT y).toArray 193, o], by simp [alloc_eq_grow, grow_grow]; rfl⟩
  unfold Tryz.cfT
  have ha : ∀ w, Calls Tryz.prog 220 #[.int .u64 x.2.1, .int .u64 y.2.1] w fun e w' => e = .returned (.int .i64 (Lib.compareInt x.2.1 y.2.1)) ∧ w' = w := fun w => Tryz.q220 _ _ w
  have hb : ∀ w, Calls Tryz.prog 221 #[.int .u64 x.2.2, .int .u64 y.2.2] w fun e w' => e = .returned (.int .i64 (Lib.compareInt x.2.2 y.2.2)) ∧ w' = w := fun w => Tryz.q221 _ _ w
  generalize Lib.compareInt x.2.1 y.2.1 = a at *
  generalize Lib.compareInt x.2.2 y.2.2 = b at *
  obtain ⟨r, hr⟩ : ∃ r, r = if a = 0 then b else a := ⟨_, rfl⟩
  rw [← hr]
  unfold Tryz.encT at *
  go_enter Tryz.func218, Tryz.ntmps218
  go_wp2
  refine wp_region_still_tail 10 (by kernel_rfl) (by kernel_rfl) ?_
  generalize hW2 : ((W.alloc _).alloc _) = W2 at *
  obtain ⟨hb1, hb2⟩ := hbx W2.drew rfl
  have hf := hfin W2.drew rfl
  clear hbx hfin
  change wpStill _ _ W2.drew (fun a' => wpList _ _ _ _ a' W2.drew) _ _
  generalize W2.drew = W3 at hb1 hb2 hf ⊢
  clear hW2 W2
  have l1 : W3.cell? ⟨W.heap.size, 1, none⟩ = some (.int .u64 x.2.1) := hb1 1
  have l2 : W3.cell? ⟨W.heap.size, 2, none⟩ = some (.int .u64 x.2.2) := hb1 2
  have l3 : W3.cell? ⟨W.heap.size + 1, 1, none⟩ = some (.int .u64 y.2.1) := hb2 1
  have l4 : W3.cell? ⟨W.heap.size + 1, 2, none⟩ = some (.int .u64 y.2.2) := hb2 2
  clear hb1 hb2
  simp only [List.take_succ_cons, List.take_zero, List.drop_succ_cons, List.drop_zero]
  repeat still_step
  still_call (ha _)
  repeat still_step
  still_call (hb _)
  refine wpStill_nil ?_
  go_wp2_with (go_at_call 219; refine (Tryz.q219 a b r hr _ _ (Tryz.box1 W3 #[.int .i64 a, .int .i64 b] 3 0) (Tryz.box1 W3 #[.int .i64 a, .int .i64 b] 3 1)).mono ?_; rintro e w' ⟨rfl, hw⟩; rw [hw])
  all_goals (go_ret; exact ⟨rfl, hf _⟩)
set_option maxHeartbeats 1000000 in
set_option maxRecDepth 100000 in
theorem Tryz.q253 (x y : Nat × Nat × Nat) (W : World) : Calls Tryz.prog 253 #[.agg (Tryz.encT x).toArray, .agg (Tryz.encT y).toArray] W fun e w' => e = .returned (.int .i64 (Tryz.cfT x y)) ∧ ∃ q os', w' = grow (W.drewN q) os' := by
  have hbx := Tryz.boxes W (Tryz.encT x).toArray (Tryz.encT y).toArray 193 193
  have hfin : ∀ W3 : World, W3 = ((W.alloc (.cells (Tryz.encT x).toArray 193)).alloc (.cells (Tryz.encT y).toArray 193)).drew → ∀ o, ∃ q os', W3.alloc o = grow (W.drewN q) os' := by
    intro W3 h o
    subst h
    exact ⟨1, #[.cells (Tryz.encT x).toArray 193, .cells (Tryz.encT y).toArray 193, o], by simp [alloc_eq_grow, grow_grow]; rfl⟩
  unfold Tryz.cfT
  have ha : ∀ w, Calls Tryz.prog 220 #[.int .u64 x.2.1, .int .u64 y.2.1] w fun e w' => e = .returned (.int .i64 (Lib.compareInt x.2.1 y.2.1)) ∧ w' = w := fun w => Tryz.q220 _ _ w
  have hb : ∀ w, Calls Tryz.prog 221 #[.int .u64 x.2.2, .int .u64 y.2.2] w fun e w' => e = .returned (.int .i64 (Lib.compareInt x.2.2 y.2.2)) ∧ w' = w := fun w => Tryz.q221 _ _ w
  generalize Lib.compareInt x.2.1 y.2.1 = a at *
  generalize Lib.compareInt x.2.2 y.2.2 = b at *
  obtain ⟨r, hr⟩ : ∃ r, r = if a = 0 then b else a := ⟨_, rfl⟩
  rw [← hr]
  unfold Tryz.encT at *
  go_enter Tryz.func253, Tryz.ntmps253
  go_wp2
  refine wp_region_still_tail 10 (by kernel_rfl) (by kernel_rfl) ?_
  generalize hW2 : ((W.alloc _).alloc _) = W2 at *
  obtain ⟨hb1, hb2⟩ := hbx W2.drew rfl
  have hf := hfin W2.drew rfl
  clear hbx hfin
  change wpStill _ _ W2.drew (fun a' => wpList _ _ _ _ a' W2.drew) _ _
  generalize W2.drew = W3 at hb1 hb2 hf ⊢
  clear hW2 W2
  have l1 : W3.cell? ⟨W.heap.size, 1, none⟩ = some (.int .u64 x.2.1) := hb1 1
  have l2 : W3.cell? ⟨W.heap.size, 2, none⟩ = some (.int .u64 x.2.2) := hb1 2
  have l3 : W3.cell? ⟨W.heap.size + 1, 1, none⟩ = some (.int .u64 y.2.1) := hb2 1
  have l4 : W3.cell? ⟨W.heap.size + 1, 2, none⟩ = some (.int .u64 y.2.2) := hb2 2
  clear hb1 hb2
  simp only [List.take_succ_cons, List.take_zero, List.drop_succ_cons, List.drop_zero]
  repeat still_step
  still_call (ha _)
  repeat still_step
  still_call (hb _)
  refine wpStill_nil ?_
  go_wp2_with (go_at_call 219; refine (Tryz.q219 a b r hr _ _ (Tryz.box1 W3 #[.int .i64 a, .int .i64 b] 3 0) (Tryz.box1 W3 #[.int .i64 a, .int .i64 b] 3 1)).mono ?_; rintro e w' ⟨rfl, hw⟩; rw [hw])
  all_goals (go_ret; exact ⟨rfl, hf _⟩)
end Go.Proofs
namespace Go.Cub
open Go Go.Proofs Go.Sort Go.RowKit Go.Shelf Go.Lib
theorem call_of_calls {P:Program} {f:FuncId} {args:Array Value} {w:World} {R:Value→World→Prop} (h:Calls P f args w fun e w'=>∃v,e=.returned v∧R v w'):Call P f args w R:=by
 intro c cs
 obtain⟨e,w',fr,⟨v,rfl,hR⟩,hs,hf,hl⟩:=h (c::cs)
 exact Reach.steps hs (Reach.step (step_leave_returned hl) (.here ⟨v,w',hR,rfl⟩))
section
variable {α:Type} [Inhabited α] (E:Enc α)
theorem flat_fl (d:Array α):(flatK E.c E.k d).toList=E.fl d.toList:=by
 apply List.ext_getElem?
 intro t
 have hl:(E.fl d.toList).length=d.size * E.k:=by rw[E.fl_length];simp
 by_cases ht:t<d.size * E.k
 ·have k0:0<E.k:=by
   rcases Nat.eq_zero_or_pos E.k with h |h
   ·rw[h] at ht;simp at ht
   ·exact h
  have hq:t/E.k<d.size:=(Nat.div_lt_iff_lt_mul k0).2 ht
  have hm:t%E.k<E.k:=Nat.mod_lt _ k0
  have h1:=E.fl_get d.toList (t/E.k) d[t/E.k] (by simp[hq]) (t%E.k) hm
  rw[show t/E.k * E.k+t%E.k=t by rw[Nat.mul_comm];exact Nat.div_add_mod t E.k] at h1
  rw[h1]
  have h2:(flatK E.c E.k d).toList[t]?=some ((E.c d[t/E.k]!)[t%E.k]!):=by
   unfold flatK
   simp[ht]
  rw[h2,getElem!_pos d (t/E.k) hq,getElem!_pos (E.c d[t/E.k]) (t%E.k) (by rw[E.hk];exact hm),List.getElem?_eq_getElem (by rw[E.hk];exact hm)]
 ·rw[List.getElem?_eq_none (by rw[Array.length_toList,size_flatK];omega),List.getElem?_eq_none (by omega)]
theorem sw_row {b off n:Nat} {cs:List Value} {w:World} (d':Array α) (os:Array Obj) (hr:row w b=some cs) (hl:off+d'.size * E.k≤cs.length):
  row (sortWorldK E.c E.k w b off n d' os) b=some (splice cs off (E.fl d'.toList))∧Mod [b] w (sortWorldK E.c E.k w b off n d' os):=by
 have hb:=row_lt hr
 have hheap:(sortWorldK E.c E.k w b off n d' os).heap=w.heap.modify b (Sort.onCells (Sort.putCells id off (flatK E.c E.k d')))++os:=rfl
 refine⟨?_,⟨by rw[hheap];simp,fun b' hb' hne=>?_,rfl,rfl⟩⟩
 ·unfold row at hr ⊢
  rw[hheap,Array.getElem?_append_left (by simpa using hb),Array.getElem?_modify,if_pos rfl]
  split at hr
  ·rename_i c e hc
   rw[hc]
   simp only[Option.some.injEq] at hr
   subst hr
   simp only[Option.map_some,Sort.onCells,Option.some.injEq]
   have hF:=flat_fl E d'
   have hFl:(E.fl d'.toList).length=d'.size * E.k:=by rw[E.fl_length];simp
   have hsz:(flatK E.c E.k d').size=d'.size * E.k:=size_flatK ..
   rw[←hF] at hFl ⊢
   generalize flatK E.c E.k d'=F at hFl hsz ⊢
   apply List.ext_getElem?
   intro j
   simp only[Sort.putCells,Array.getElem?_toList,Array.getElem?_mapIdx,splice,List.getElem?_append,List.getElem?_take,List.getElem?_drop,List.length_append,List.length_take,Array.length_toList]
   simp only[Array.length_toList] at hl
   by_cases h1:j<off
   ·have h2:¬(off≤j∧j<off+F.size):=by omega
    simp only[if_neg h2,h1,if_true]
    rw[if_pos (by omega),if_pos (by omega)]
    cases c[j]?<;>rfl
   ·by_cases h2:j<off+F.size
    ·have h3:off≤j∧j<off+F.size:=by omega
     simp only[if_pos h3]
     rw[if_pos (by omega),if_neg (by omega),Array.getElem?_eq_getElem (show j<c.size by omega)]
     rw[show j - min off c.size=j - off by omega,Array.getElem?_eq_getElem (show j - off<F.size by omega),getElem!_pos F (j - off) (by omega)]
     rfl
    ·have h3:¬(off≤j∧j<off+F.size):=by omega
     simp only[if_neg h3]
     rw[if_neg (by omega),show off+F.size+(j - (min off c.size+F.size))=j by omega]
     cases c[j]?<;>rfl
  ·cases hr
 ·rw[hheap,Array.getElem?_append_left (by simpa using hb'),Array.getElem?_modify,if_neg (by simpa[eq_comm] using hne)]
end
end Go.Cub
namespace Go.Cub
open Go Go.Proofs Go.IntWalk
def tmE:Enc (Nat×Nat×Nat):=⟨3,fun x=>[.int .u32 x.1,.int .u64 x.2.1,.int .u64 x.2.2],fun _=>rfl,fun x v h=>by simp at h;rcases h with rfl |rfl |rfl<;>rfl⟩
def Bef (x y:Nat×Nat×Nat):Prop:=x.2.1<y.2.1∨(x.2.1=y.2.1∧x.2.2≤y.2.2)
theorem lt_cfT (x y:Nat×Nat×Nat):ltOf Tryz.cfT x y=true↔(x.2.1<y.2.1∨(x.2.1=y.2.1∧x.2.2<y.2.2)):=by
 simp only[ltOf,Tryz.cfT,Lib.compareInt,decide_eq_true_eq]
 by_cases a1:((x.2.1:Nat):Int)<(y.2.1:Nat)<;>by_cases a2:((x.2.1:Nat):Int)>(y.2.1:Nat)<;>by_cases b1:((x.2.2:Nat):Int)<(y.2.2:Nat)<;>by_cases b2:((x.2.2:Nat):Int)>(y.2.2:Nat)<;>simp[a1,a2,b1,b2]<;>omega
theorem lt_cfT' (x y:Nat×Nat×Nat):ltOf Tryz.cfT x y=false↔¬(x.2.1<y.2.1∨(x.2.1=y.2.1∧x.2.2<y.2.2)):=by
 rw[←lt_cfT,Bool.not_eq_true]
theorem swo_cfT:Sort.SWO (ltOf Tryz.cfT) where
 irrefl x:=by rw[lt_cfT'];omega
 trans x y z:=by rw[lt_cfT,lt_cfT,lt_cfT];omega
 ntrans x y z:=by rw[lt_cfT',lt_cfT',lt_cfT'];omega
theorem c_Sort {R:Value→World→Prop} {w:World} {C:List HP} {v:Value} {D:List (Nat×Nat×Nat)} {g:FuncId} (hg:g=218∨g=253) (hD:D.length≤4194304) (hb:∀x∈D,x.1<4294967296∧x.2.1<18446744073709551616∧x.2.2<18446744073709551616) (H:Own w.hp (sle v tmE D::C))
  (h:∀D' w',D'.Perm D→D'.Pairwise Bef→Own w'.hp (sle v tmE D'::C)→R (.tuple #[]) w'):Call Pg 217 #[v,.func (.func g) #[] #[]] w R:=by
 obtain⟨F,G,a,hu⟩:=H.upd
 have s:Sl w v tmE.k D.length (tmE.fl D) F:=a.1
 have eg:∀args w,(callFunc g args).run Tryz.prog w=.ok (.enter g args) w:=by
  rcases hg with rfl |rfl
  ·exact Tryz.calOk _ (by rfl)
  ·exact Tryz.calOk _ (by rfl)
 rcases s.2 with ⟨rfl,h2,rfl⟩ |⟨b,off,cap,cs,rfl,rfl,h3,h4,h5,h6⟩
 ·have hn:=AnyF.slices_SortFunc_none Tryz.sortT none 0 (.func (.func g) #[] #[]) w
  have hn:Calls Tryz.prog 217 #[.slice none 0 0,.func (.func g) #[] #[]] w _:=hn
  refine call_of_calls (hn.mono ?_)
  rintro e w' ⟨rfl,rfl⟩
  have hD0:D=[]:=by simpa using h2
  subst hD0
  exact⟨_,rfl,h [] _ (.refl _) .nil H⟩
 ·have hk:tmE.k=3:=rfl
  have hle:D.length * tmE.k≤cap * tmE.k:=Nat.mul_le_mul_right _ h5
  have hH:Sort.HoldsK tmE.c tmE.k w b off D.toArray:=by
   intro j hj
   rw[Sort.size_flatK] at hj
   have hj':j<D.length * tmE.k:=by simpa using hj
   refine⟨?_,frozen_row h3 _⟩
   rw[cell_row h3]
   have e1:=congrArg (fun l=>l[j]?) h6
   simp only[List.getElem?_take,List.getElem?_drop,if_pos hj'] at e1
   rw[←e1]
   have e2:=flat_fl tmE D.toArray
   rw[←e2]
   have hj2:j<(Sort.flatK tmE.c tmE.k D.toArray).size:=by rw[Sort.size_flatK];exact hj
   rw[Array.getElem?_toList,Array.getElem?_eq_getElem hj2,getElem!_pos _ j hj2];rfl
  have hcmp:CmpLays Tryz.prog g #[] tmE.c tmE.k Tryz.cfT b off D.toArray.size w:=by
   intro m os dk hs x y
   rcases hg with rfl |rfl
   ·exact Tryz.q218 x y _
   ·exact Tryz.q253 x y _
  have hs:=AnyQ.slices_SortFunc Tryz.sortT tmE.k Tryz.isAgg193 Tryz.sizeOf193 tmE.c tmE.hk tmE.one Tryz.cfT swo_cfT g #[] b off cap D.toArray w eg hcmp hH (row_lt h3) (by simp;omega)
  have hs:Calls Tryz.prog 217 #[.slice (some ⟨b,off,none⟩) D.length cap,.func (.func g) #[] #[]] w _:=hs
  refine call_of_calls (hs.mono ?_)
  rintro e w' ⟨rfl,d',n,os,hp,hso,rfl⟩
  refine⟨_,rfl,?_⟩
  have hsz:d'.size=D.length:=by simpa using hp.1
  have hperm:d'.toList.Perm D:=by
   have h1:=hp.2.2
   have e1:d'.extract 0 D.toArray.size=d':=by
    rw[show D.toArray.size=d'.size by simp[hsz]];exact Array.extract_size
   have e2:D.toArray.extract 0 D.toArray.size=D.toArray:=Array.extract_size
   rw[e1,e2] at h1
   exact h1
  obtain⟨w1,w2⟩:=sw_row tmE (n:=n) d' os h3 (by
   rw[hsz]
   have h4':off+cap * 3≤cs.length:=h4
   show off+D.length * 3≤cs.length
   omega)
  refine h d'.toList _ hperm ?_ (hu _ _ [b] [] (fun c hc hF=>w2.same c hc hF) w2.he ⟨?_,rfl⟩ (fun c hc=>.inl hc) (by simp))
  ·rw[List.pairwise_iff_getElem]
   intro i j hi hj hij
   have hi':i<d'.size:=by simpa using hi
   have hj':j<d'.size:=by simpa using hj
   have h1:=hso i j (Nat.zero_le _) hij (by simp;omega)
   rw[getElem!_pos d' i hi',getElem!_pos d' j hj',lt_cfT'] at h1
   simp only[Array.getElem_toList,Bef]
   omega
  ·have hl2:(tmE.fl d'.toList).length=D.length * tmE.k:=by rw[tmE.fl_length];simp[hsz]
   show Sl _ _ tmE.k d'.toList.length (tmE.fl d'.toList) [b]
   rw[show d'.toList.length=D.length by simp[hsz]]
   refine⟨hl2,.inr ⟨b,off,cap,_,rfl,rfl,w1,?_,h5,?_⟩⟩
   ·simp only[splice,List.length_append,List.length_take,List.length_drop,hl2];omega
   ·simp only[splice]
    rw[List.append_assoc,List.drop_append_of_le_length (by rw[List.length_take];omega),List.drop_take,show off - off=0 by omega,List.take_zero,List.nil_append,List.take_left' hl2]
end Go.Cub
namespace Go.Cub
open Go Go.Proofs Go.IntWalk
theorem mem_upto {ls:Nat→List Nat} {k x:Nat}:x∈upto ls k↔∃b,b<k∧x∈ls b:=by simp[upto]
theorem upto_nodup {ls:Nat→List Nat} {k:Nat} (h1:∀a,a<k→(ls a).Nodup) (h2:∀a b x,a<k→b<k→x∈ls a→x∈ls b→a=b):(upto ls k).Nodup:=by
 induction k with
 |zero=>simp[upto]
 |succ k ih=>
  rw[upto_succ,List.nodup_append]
  refine⟨ih (fun a ha=>h1 a (by omega)) (fun a b x ha hb=>h2 a b x (by omega) (by omega)),h1 k (by omega),?_⟩
  intro a ha b hb e
  subst e
  obtain⟨c,hc,hm⟩:=mem_upto.1 ha
  have :=h2 c k a (by omega) (by omega) hm hb
  omega
def moved (lsf:Nat→Nat→List Nat) (top digit:Nat):List Nat:=upto (fun l=>upto (lsf l) 256) top++upto (lsf top) (digit+1)
def region (top digit l b:Nat):Prop:=l<top∨(l=top∧b≤digit)
def swept (lsf:Nat→Nat→List Nat) (k:Nat):Nat→Nat→List Nat:=fun l=>if l<k then emptied (lsf l) 256 else lsf l
def dueOf (tm:Nat→Option (Nat×Nat)) (to:Nat) (l:List Nat):List (Nat×Nat×Nat):=l.filterMap fun s=>match tm s with
 |some (d,n)=>if d≤to then some (s,d,n) else none
 |none=>none
theorem dueOf_sub (tm:Nat→Option (Nat×Nat)) (to:Nat):∀l:List Nat,((dueOf tm to l).map (·.1)).Sublist l
 |[]=>.slnil
 |s::l=>by
  have ih:=dueOf_sub tm to l
  unfold dueOf at ih ⊢
  rw[List.filterMap_cons]
  cases ht:tm s with
  |none=>exact ih.cons _
  |some q=>
   obtain⟨d,n⟩:=q
   simp only
   by_cases hle:d≤to
   ·rw[if_pos hle];exact ih.cons_cons _
   ·rw[if_neg hle];exact ih.cons _
def tmAft (tm:Nat→Option (Nat×Nat)) (to:Nat) (l:List Nat):Nat→Option (Nat×Nat):=fun s=>match tm s with
 |some (d,n)=>if s∈l∧d≤to then none else some (d,n)
 |none=>none
section
variable {now to:Nat} {lsf:Nat→Nat→List Nat} {ps bs:List (Nat×Value)} {tm:Nat→Option (Nat×Nat)}
theorem CsInv.mem_moved (I:CsInv now lsf ps bs tm fun _=>False) {top digit:Nat} (ht:top<8) (hd:digit<256) (s:Nat):s∈moved lsf top digit↔∃d n,tm s=some (d,n)∧region top digit (lev d now) (bck d (lev d now)):=by
 simp only[moved,List.mem_append,mem_upto]
 constructor
 ·rintro(⟨l,hl,b,hb,hm⟩ |⟨b,hb,hm⟩)
  ·obtain⟨d,n,h1,_,h3,h4⟩:=(I.loc l b s (by omega) hb).1 hm
   exact⟨d,n,h1,.inl (by omega)⟩
  ·obtain⟨d,n,h1,_,h3,h4⟩:=(I.loc top b s ht (by omega)).1 hm
   exact⟨d,n,h1,.inr ⟨h3,by rw[h3,h4];omega⟩⟩
 ·rintro⟨d,n,h1,h2 |⟨h2,h3⟩⟩
  ·exact .inl ⟨lev d now,h2,bck d (lev d now),bck_lt _ _,(I.loc _ _ s (by omega) (bck_lt _ _)).2 ⟨d,n,h1,by simp,rfl,rfl⟩⟩
  ·exact .inr ⟨bck d (lev d now),by omega,by rw[←h2];exact(I.loc _ _ s (by omega) (bck_lt _ _)).2 ⟨d,n,h1,by simp,rfl,rfl⟩⟩
theorem CsInv.move (I:CsInv now lsf ps bs tm fun _=>False) (hto:now<to∧to<18446744073709551616) {lsf':Nat→Nat→List Nat} (hl:∀l b,l<8→b<256→(region (lev to now) (bck to (lev to now)) l b→lsf' l b=[])∧(¬region (lev to now) (bck to (lev to now)) l b→lsf' l b=lsf l b)):
  CsInv to lsf' ps bs tm (fun s=>s∈moved lsf (lev to now) (bck to (lev to now))):=by
 have ht:=lev_lt (d:=to) (now:=now) (by omega) (by omega) I.now
 have hmem:=I.mem_moved ht (bck_lt to (lev to now))
 have stay:∀s d n,tm s=some (d,n)→s∉moved lsf (lev to now) (bck to (lev to now))→to<d∧lev d to=lev d now∧¬region (lev to now) (bck to (lev to now)) (lev d now) (bck d (lev d now)):=by
  intro s d n h1 h2
  have hf:=I.fut _ _ _ h1 (by simp)
  have hr:¬region (lev to now) (bck to (lev to now)) (lev d now) (bck d (lev d now)):=fun hr=>h2 ((hmem s).2 ⟨d,n,h1,hr⟩)
  have :=lev_stay (d:=d) (now:=now) (to:=to) hf hto.1 (by
   unfold region at hr
   by_cases h3:lev to now<lev d now
   ·exact .inl h3
   ·refine .inr ?_
    have h4:lev d now=lev to now:=by
     rcases Nat.lt_or_ge (lev d now) (lev to now) with h5 |h5
     ·exact absurd (.inl h5) hr
     ·omega
    refine⟨h4,?_⟩
    rcases Nat.lt_or_ge (bck to (lev to now)) (bck d (lev d now)) with h5 |h5
    ·exact h5
    ·exact absurd (.inr ⟨h4,h5⟩) hr)
  exact⟨this.1,this.2,hr⟩
 refine⟨I.hps,I.hbs,I.inj,I.rng,fun s d n h1 h2=>(stay s d n h1 h2).1,?_,hto.2⟩
 intro l b s hl' hb
 obtain⟨q1,q2⟩:=hl l b hl' hb
 constructor
 ·intro hm
  have hr:¬region (lev to now) (bck to (lev to now)) l b:=fun hr=>by rw[q1 hr] at hm;simp at hm
  rw[q2 hr] at hm
  obtain⟨d,n,h1,_,h3,h4⟩:=(I.loc l b s hl' hb).1 hm
  have hnm:s∉moved lsf (lev to now) (bck to (lev to now)):=by
   intro hm2
   obtain⟨d',n',h5,h6⟩:=(hmem s).1 hm2
   rw[h1] at h5
   simp only[Option.some.injEq,Prod.mk.injEq] at h5
   obtain⟨rfl,rfl⟩:=h5
   rw[h3,h4] at h6
   exact hr h6
  exact⟨d,n,h1,hnm,by rw[(stay s d n h1 hnm).2.1,h3],h4⟩
 ·rintro⟨d,n,h1,h2,h3,h4⟩
  obtain⟨a1,a2,a3⟩:=stay s d n h1 h2
  rw[a2] at h3
  have hr:¬region (lev to now) (bck to (lev to now)) l b:=by rw[h3,h4] at a3;exact a3
  rw[q2 hr]
  exact(I.loc l b s hl' hb).2 ⟨d,n,h1,by simp,h3,h4⟩
theorem CsInv.moved_nodup (I:CsInv now lsf ps bs tm fun _=>False) {top digit:Nat} (ht:top<8) (hd:digit<256) (hn:∀l b,l<8→b<256→(lsf l b).Nodup):(moved lsf top digit).Nodup∧(moved lsf top digit).length≤4194304∧∀l,l<8→(upto (lsf l) 256).Nodup∧(upto (lsf l) 256).length≤4194304:=by
 have uniq:∀l b l' b' s,l<8→b<256→l'<8→b'<256→s∈lsf l b→s∈lsf l' b'→l=l'∧b=b':=by
  intro l b l' b' s hl hb hl' hb' h1 h2
  obtain⟨d,n,e1,_,e3,e4⟩:=(I.loc l b s hl hb).1 h1
  obtain⟨d',n',f1,_,f3,f4⟩:=(I.loc l' b' s hl' hb').1 h2
  rw[e1] at f1
  simp only[Option.some.injEq,Prod.mk.injEq] at f1
  obtain⟨rfl,rfl⟩:=f1
  have :l=l':=by rw[←e3,f3]
  subst this
  exact⟨rfl,by rw[←e4,f4]⟩
 have lvl:∀l,l<8→(upto (lsf l) 256).Nodup:=fun l hl=>upto_nodup (fun a ha=>hn l a hl ha) fun a b x ha hb h1 h2=>(uniq l a l b x hl ha hl hb h1 h2).2
 have hlt:∀l b s,l<8→b<256→s∈lsf l b→s<4194304:=by
  intro l b s hl hb h1
  obtain⟨d,n,e1,_⟩:=(I.loc l b s hl hb).1 h1
  exact(I.rng _ _ _ e1).1
 have nd:(moved lsf top digit).Nodup:=by
  rw[moved,List.nodup_append]
  refine⟨upto_nodup (fun a ha=>lvl a (by omega)) ?_,upto_nodup (fun a ha=>hn top a ht (by omega)) fun a b x ha hb h1 h2=>(uniq top a top b x ht (by omega) ht (by omega) h1 h2).2,?_⟩
  ·intro a b x ha hb h1 h2
   obtain⟨c,hc,h1⟩:=mem_upto.1 h1
   obtain⟨c',hc',h2⟩:=mem_upto.1 h2
   exact(uniq a c b c' x (by omega) hc (by omega) hc' h1 h2).1
  ·intro a ha b hb e
   subst e
   obtain⟨l,hl,ha⟩:=mem_upto.1 ha
   obtain⟨c,hc,ha⟩:=mem_upto.1 ha
   obtain⟨c',hc',hb⟩:=mem_upto.1 hb
   have :=(uniq l c top c' a (by omega) hc ht (by omega) ha hb).1
   omega
 refine⟨nd,nodup_le _ _ nd fun s hs=>?_,fun l hl=>⟨lvl l hl,nodup_le _ _ (lvl l hl) fun s hs=>?_⟩⟩
 ·obtain⟨d,n,e1,_⟩:=(I.mem_moved ht hd s).1 hs
  exact(I.rng _ _ _ e1).1
 ·obtain⟨b,hb,hs⟩:=mem_upto.1 hs
  exact hlt l b s hl hb hs
end
section
variable {R:Value→World→Prop} {w:World} {C:List HP} {u:HP→List HP} {p now to r1 r2 s d n:Nat} {ws:Nat→Nat} {lsf:Nat→Nat→List Nat} {ps bs:List (Nat×Value)} {tm:Nat→Option (Nat×Nat)}
attribute [local irreducible] PV CND GRD L1 LN S1 SN NEW NEWS MKS MKM LK MU DEL LENM APP CPY BTS Call CallV
theorem whs_nodup {h:Hp} (H:Own h (whs ws lsf::C)) {l b:Nat} (hl:l<8) (hb:b<256):(lsf l b).Nodup:=whl_nodup ((whs_iff hl).1 H) hb
theorem c_adv_18 (h:∀v w' lsf' ps' bs' D,D.Perm (dueOf tm to (moved lsf (lev to now) (bck to (lev to now))))→D.Pairwise Bef→CsInv to lsf' ps' bs' (tmAft tm to (moved lsf (lev to now) (bck to (lev to now)))) (fun _=>False)→Own w'.hp (sle v tmE D::csL p to ws lsf' r1 ps' r2 bs' C)→R (.tuple #[v,.int .i64 0]) w')
  {M:List Nat} {vM:Value} (hM:M=moved lsf (lev to now) (bck to (lev to now))) (hnd:M.Nodup) (hMl:M.length≤4194304) (hMt:∀s∈M,∃d n,tm s=some (d,n)) (hR:∀s d n,tm s=some (d,n)→s<4194304∧d<18446744073709551615∧0<n∧n<18446744073709551616):
  ∀(m i:Nat) (vD:Value) (lsf1:Nat→Nat→List Nat) (ps1 bs1:List (Nat×Value)) (w:World),m+i=M.length→CsInv to lsf1 ps1 bs1 (tmAft tm to (M.take i)) (fun s=>s∈M.drop i)→
   Own w.hp (sle vD tmE (dueOf tm to (M.take i))::sle vM u32E M::csL p to ws lsf1 r1 ps1 r2 bs1 C)→B_157_18 R (ptrV p) (.int .u64 to) vD vM (.int .i64 M.length) (.int .i64 i) w
 |0,i,vD,lsf1,ps1,bs1,w,hm,I,H=>by
  refine B_157_18.intro ?_
  simp only[P_157_18]
  refine Ob ?_
  rw[List.take_of_length_le (by omega)] at H I
  rw[List.drop_of_length_le (by omega)] at I
  have hdl:(dueOf tm to M).length≤M.length:=List.length_filterMap_le _ _
  refine c_Sort (.inl rfl) (by omega) ?_ H fun D w hp hs H=>?_
  ·intro x hx
   simp only[dueOf,List.mem_filterMap] at hx
   obtain⟨s,hs,hx⟩:=hx
   cases ht:tm s with
   |none=>rw[ht] at hx;cases hx
   |some q=>
    obtain⟨d,n⟩:=q
    rw[ht] at hx
    simp only at hx
    split at hx
    ·simp only[Option.some.injEq] at hx
     subst hx
     have :=hR s d n ht
     exact⟨Nat.lt_trans this.1 (by decide),Nat.lt_trans this.2.1 (by decide),this.2.2.2⟩
    ·cases hx
  ·rw[←hM] at h
   exact h vD w lsf1 ps1 bs1 D hp hs (csInv_congr I fun t=>by simp) H.dp1
 |m+1,i,vD,lsf1,ps1,bs1,w,hm,I,H=>by
  refine B_157_18.intro ?_
  simp only[P_157_18]
  refine Ob ?_
  obtain⟨s,hx⟩:∃s,M[i]?=some s:=⟨_,List.getElem?_eq_getElem (by omega)⟩
  have hmem:s∈M:=List.mem_of_getElem? hx
  refine idxo (E:=u32E) (v:=vM) H (by omega) ?_
  refine L1e (E:=u32E) (v:=vM) H hx rfl ?_
  (repeat first |refine L1o H rfl ?_ |refine Oc ?_)
  obtain⟨d,n,htm⟩:=hMt _ hmem
  have htk:M.take (i+1)=M.take i++[s]:=by rw[List.take_add_one,hx];rfl
  have hdr:M.drop i=s::M.drop (i+1):=by
   have h1:=List.getElem?_eq_getElem (l:=M) (i:=i) (by omega)
   rw[hx] at h1
   simp only[Option.some.injEq] at h1
   rw[List.drop_eq_getElem_cons (by omega), ←h1]
  have hnt:s∉M.take i:=by
   intro hm'
   have e:M=M.take i++s::M.drop (i+1):=by rw[←hdr,List.take_append_drop]
   rw[e] at hnd
   exact(List.nodup_append.1 hnd).2.2 _ hm' _ List.mem_cons_self rfl
  have hnd2:s∉M.drop (i+1):=by
   intro hm'
   have :=(List.drop_sublist i M).nodup hnd
   rw[hdr] at this
   exact(List.nodup_cons.1 this).1 hm'
  have htm1:tmAft tm to (M.take i) s=some (d,n):=by
   simp only[tmAft,htm]
   rw[if_neg (fun h=>hnt h.1)]
  obtain⟨g1,g2,g3⟩:=I.rng _ _ _ htm1
  refine LKo' H ?_
  rw[I.hps,htm1]
  simp only[Option.map_some,Option.getD_some]
  refine NSo H rfl rfl (by simp[tmV,Value.oneCell']) fun t13 w H=>?_
  (repeat first |refine L1o H rfl ?_ |refine Oc ?_)
  refine c_tick_Due ?_
  have hdu:dueT d to=decide (d≤to):=by
   unfold dueT
   have :d≠18446744073709551615:=by omega
   simp[this]
  rw[hdu]
  by_cases hle:d≤to
  ·refine Ob ?_
   refine LNo H (by simp[tmV]) ?_
   have hn1:=mp_nodup (r:=r1) (k:=.u32) (ps:=ps1) H
   have hn2:=mp_nodup (r:=r2) (k:=.u64) (ps:=bs1) H
   refine c_cs_forget (s:=s) (d:=d) (n:=n) H.mv2.mv2.mv2.mv6.mv6.mv6.mv6 fun w H=>?_
   refine LNo H (by simp[tmV]) ?_
   refine NEWSo tmE [(s,d,n)] H (cs:=#[.int .u32 (s:Nat),.int .u64 d,.int .u64 n]) rfl rfl rfl fun tt w H=>?_
   have hdl:(dueOf tm to (M.take i)).length≤(M.take i).length:=List.length_filterMap_le _ _
   refine APPo (E:=tmE) (v:=vD) (xs:=dueOf tm to (M.take i)) (ys:=[(s,d,n)]) H rfl (by decide) (by simp at hdl ⊢;omega) fun vD' w H=>?_
   refine Ob ?_
   rw[show((i:Int)+1)=((i+1:Nat):Int) by omega]
   have hdue:dueOf tm to (M.take i)++[(s,d,n)]=dueOf tm to (M.take (i+1)):=by
    rw[htk]
    simp[dueOf,htm,hle]
   rw[hdue] at H
   have htm2:upd (tmAft tm to (M.take i)) s none=tmAft tm to (M.take (i+1)):=by
    funext a
    simp only[upd,tmAft]
    by_cases e:a=s
    ·subst e
     rw[htm,htk]
     simp[hle]
    ·rw[if_neg e,htk]
     simp[e]
   have I':=I.forget hn1 hn2 htm1 (lsf':=lsf1) (P':=fun s=>s∈M.drop (i+1)) (fun l b t hl hb=>?_) (fun t ht=>?_)
   ·rw[htm2] at I'
    exact c_adv_18 h hM hnd hMl hMt hR m (i+1) vD' lsf1 _ _ w (by omega) I' H.mv4.mv4.mv4.mv4.mv7.mv7.dp6.dp6
   ·constructor
    ·intro ht
     refine⟨ht,?_⟩
     rintro rfl
     obtain⟨d',n',h1,h2,_⟩:=(I.loc l b _ hl hb).1 ht
     exact h2 (by rw[hdr];simp)
    ·exact fun ht=>ht.1
   ·rw[hdr];simp[ht]
  ·refine Ob ?_
   refine LNo H (by simp[tmV]) ?_
   refine c_cs_put (s:=s) (d:=d) (n:=n) H.mv2.mv2.mv2.mv6.mv6.mv6.mv6 g1 (by omega) I.now (by omega) ?_ fun w H=>?_
   ·intro b hb ht
    obtain⟨d',n',h1,h2,_⟩:=(I.loc _ b _ (lev_lt (by omega) (by omega) I.now) hb).1 ht
    exact h2 (by rw[hdr];simp)
   ·refine Ob ?_
    rw[show((i:Int)+1)=((i+1:Nat):Int) by omega]
    have hdue:dueOf tm to (M.take i)=dueOf tm to (M.take (i+1)):=by
     rw[htk]
     simp[dueOf,htm,hle]
    rw[hdue] at H
    have htm2:upd (tmAft tm to (M.take i)) s (some (d,n))=tmAft tm to (M.take (i+1)):=by
     funext a
     simp only[upd,tmAft]
     by_cases e:a=s
     ·subst e
      rw[htm]
      simp[hle]
     ·rw[if_neg e,htk]
      simp[e]
    have I':=I.put (s:=s) (d:=d) (n:=n) g1 (by omega) (by omega) (.inr (by rw[hdr];simp)) (fun s' d' e=>I.inj _ _ _ _ _ e htm1) (fun d' n' e=>by rw[htm1] at e;simp at e;exact e.2.symm)
    rw[htm2] at I'
    refine c_adv_18 h hM hnd hMl hMt hR m (i+1) vD _ _ _ w (by omega) (csInv_congr I' (P':=fun s=>s∈M.drop (i+1)) fun t=>?_) H.mv3.mv3.mv3.mv3.mv6.mv6.dp6
    rw[hdr]
    constructor
    ·intro ht
     exact⟨List.mem_cons_of_mem _ ht,fun e=>hnd2 (e ▸ ht)⟩
    ·rintro⟨ht,hne⟩
     rcases List.mem_cons.1 ht with ht |ht
     ·exact absurd ht hne
     ·exact ht
theorem swept_upd (lsf:Nat→Nat→List Nat) (k:Nat):upd (swept lsf k) k (emptied (swept lsf k k) 256)=swept lsf (k+1):=by
 funext l
 simp only[upd,swept]
 by_cases e:l=k
 ·subst e;simp
 ·rw[if_neg e]
  by_cases h:l<k
  ·rw[if_pos h,if_pos (by omega)]
  ·rw[if_neg h,if_neg (by omega)]
theorem k_cs_Advance (H:Own w.hp (csc p now tm::glb::C)) (hto:now<to∧to<18446744073709551616) (h:∀v w' D tm',(∀s,tm' s=match tm s with |some (d,n)=>if d≤to then none else some (d,n) |none=>none)→D.Nodup→(∀s d n,(s,d,n)∈D↔tm s=some (d,n)∧d≤to)→D.Pairwise Bef→D.length≤4194304→
  Own w'.hp (sle v tmE D::csc p to tm'::glb::C)→R (.tuple #[v,.int .i64 0]) w'):Call Pg 157 #[ptrV p,.int .u64 to] w R:=by
 obtain⟨ws,lsf,r1,ps,r2,bs,I,H⟩:=csc_iff.1 H
 have hne:to≠now:=by omega
 have hl:=lev_lt hne hto.2 I.now
 have hb:=bck_lt to (lev to now)
 obtain⟨m1,m2,m3⟩:=I.moved_nodup hl hb fun l b hl hb=>whs_nodup H.mv1 hl hb
 refine c_157 ?_
 simp only[F_157]
 refine c_cs_check (n:=0) H (by decide) ?_
 have d0:decide (((to:Nat):Int)=(now:Nat))=false:=by simp;omega
 (repeat first |refine L1o H rfl ?_ |refine Oc ?_)
 refine c_place H hto.2 I.now hne fun w H=>?_
 refine Ob ?_
 refine S1o H rfl rfl fun w H=>?_
 have H:Own w.hp (glb::csL p to ws lsf r1 ps r2 bs C):=H.mv3.mv3.mv3.mv3.mv4
 have fin:∀(v:Value) (w:World),Own w.hp (sle v u32E (moved lsf (lev to now) (bck to (lev to now)))::glb::csL p to ws (upd (swept lsf (lev to now)) (lev to now) (emptied (lsf (lev to now)) (bck to (lev to now)+1))) r1 ps r2 bs C)→
   B_157_18 R (ptrV p) (.int .u64 to) (.slice none 0 0) v (.int .i64 (moved lsf (lev to now) (bck to (lev to now))).length) (.int .i64 (0:Nat)) w:=by
  intro v w H
  have I2:=I.move hto (lsf':=upd (swept lsf (lev to now)) (lev to now) (emptied (lsf (lev to now)) (bck to (lev to now)+1))) (fun l b hl' hb'=>?_)
  ·have hmm:=I.mem_moved hl hb
   refine c_adv_18 (C:=glb::C) (ws:=ws) (r1:=r1) (r2:=r2) (now:=now) (fun v w' lsf' ps' bs' D hp hs I' H=>?_) rfl m1 m2 (fun s hs=>?_) I.rng (moved lsf (lev to now) (bck to (lev to now))).length 0 (.slice none 0 0) (upd (swept lsf (lev to now)) (lev to now) (emptied (lsf (lev to now)) (bck to (lev to now)+1))) ps bs w (by omega) ?_ ?_
   ·have hdue:∀s d n,(s,d,n)∈dueOf tm to (moved lsf (lev to now) (bck to (lev to now)))↔tm s=some (d,n)∧d≤to:=by
     intro s d n
     simp only[dueOf,List.mem_filterMap]
     constructor
     ·rintro⟨s',hs',hx⟩
      cases ht:tm s' with
      |none=>rw[ht] at hx;cases hx
      |some q=>
       obtain⟨d',n'⟩:=q
       rw[ht] at hx
       simp only at hx
       split at hx
       ·simp only[Option.some.injEq,Prod.mk.injEq] at hx
        obtain⟨rfl,rfl,rfl⟩:=hx
        exact⟨ht,by assumption⟩
       ·cases hx
     ·rintro⟨h1,h2⟩
      refine⟨s,?_,by simp[h1,h2]⟩
      rcases Decidable.em (s∈moved lsf (lev to now) (bck to (lev to now))) with h3 |h3
      ·exact h3
      ·have :=I2.fut _ _ _ h1 h3
       omega
    refine h v w' D (tmAft tm to (moved lsf (lev to now) (bck to (lev to now)))) (fun s=>?_) ?_ (fun s d n=>by rw[hp.mem_iff];exact hdue s d n) hs ?_ ?_
    ·simp only[tmAft]
     cases ht:tm s with
     |none=>rfl
     |some q=>
      obtain⟨d,n⟩:=q
      simp only
      by_cases hle:d≤to
      ·have :s∈moved lsf (lev to now) (bck to (lev to now)):=by
        rcases Decidable.em (s∈moved lsf (lev to now) (bck to (lev to now))) with h3 |h3
        ·exact h3
        ·have :=I2.fut _ _ _ ht h3
         omega
       rw[if_pos ⟨this,hle⟩,if_pos hle]
      ·rw[if_neg (fun h=>hle h.2),if_neg hle]
    ·refine hp.symm.nodup ?_
     exact List.Pairwise.of_map (S:=fun a b=>a≠b) (fun x=>x.1) (fun a b h e=>h (by rw[e])) ((dueOf_sub tm to _).nodup m1)
    ·rw[hp.length_eq]
     have :(dueOf tm to (moved lsf (lev to now) (bck to (lev to now)))).length≤(moved lsf (lev to now) (bck to (lev to now))).length:=List.length_filterMap_le _ _
     omega
    ·exact(csc_iff.2 ⟨ws,lsf',r1,ps',r2,bs',I',H.bk4⟩).mv1
   ·obtain⟨d,n,h1,_⟩:=(hmm s).1 hs
    exact⟨d,n,h1⟩
   ·have e:tmAft tm to ((moved lsf (lev to now) (bck to (lev to now))).take 0)=tm:=by
     funext s
     simp only[tmAft]
     cases tm s with
     |none=>rfl
     |some q=>simp
    rw[e]
    exact csInv_congr I2 fun t=>by simp
   ·exact(sl_nil tmE H.mv1.mv5.mv5.mv5.mv5.mv5)
  ·unfold region
   by_cases e:l=lev to now
   ·subst e
    rw[upd_same]
    constructor
    ·rintro(h1 |⟨_,h1⟩)
     ·omega
     ·simp only[emptied];rw[if_pos (by omega)]
    ·intro hr
     simp only[emptied]
     rw[if_neg (fun h=>hr (.inr ⟨rfl,by omega⟩))]
   ·rw[upd_ne _ _ e]
    constructor
    ·rintro(h1 |⟨h1,_⟩)
     ·simp only[swept];rw[if_pos h1];simp only[emptied];rw[if_pos hb']
     ·exact absurd h1 e
    ·intro hr
     simp only[swept]
     rw[if_neg (fun h=>hr (.inl h))]
 have loop:∀(m i:Nat) (v:Value) (w:World),m+i=lev to now→Own w.hp (sle v u32E (upto (fun l=>upto (lsf l) 256) i)::glb::csL p to ws (swept lsf i) r1 ps r2 bs C)→
   B_157_11 R (ptrV p) (.int .u64 to) (.int .i64 (lev to now)) (.int .i64 (bck to (lev to now))) v (.int .i64 (lev to now)) (.int .i64 i) w:=by
  intro m
  induction m with
  |zero=>
   intro i v w hm H
   refine B_157_11.intro ?_
   simp only[P_157_11]
   refine Ob ?_
   have hi:i=lev to now:=by omega
   have es:swept lsf i (lev to now)=lsf (lev to now):=by simp only[swept];rw[if_neg (by omega)]
   refine c_cs_empty H.mv5.mv5.mv5.mv5.mv5 hl hb (by rw[es];exact(m3 _ hl).2) fun t w H=>?_
   rw[es] at H
   have hlen:(upto (fun l=>upto (lsf l) 256) i).length+(upto (lsf (lev to now)) (bck to (lev to now)+1)).length=(moved lsf (lev to now) (bck to (lev to now))).length:=by rw[moved,List.length_append,hi]
   refine APPo (E:=u32E) (v:=v) (xs:=upto (fun l=>upto (lsf l) 256) i) (ys:=upto (lsf (lev to now)) (bck to (lev to now)+1)) H rfl (by decide) (by omega) fun v' w H=>?_
   have H:=H.drop
   rw[hi] at H
   have H:=H.mv4.mv4.mv4.mv4.mv4.mv5
   rw[leno (v:=v') (E:=u32E) (xs:=moved lsf (lev to now) (bck to (lev to now))) (show Own w.hp (sle v' u32E (moved lsf (lev to now) (bck to (lev to now)))::_) from H)]
   refine Os ?_
   exact fin v' w H
  |succ m ih=>
   intro i v w hm H
   refine B_157_11.intro ?_
   simp only[P_157_11]
   refine Ob ?_
   have es:swept lsf i i=lsf i:=by simp[swept]
   have hi8:i<8:=by omega
   have h3:=m3 i hi8
   refine c_cs_empty (last:=255) H.mv5.mv5.mv5.mv5.mv5 hi8 (by decide) (by rw[es];exact h3.2) fun t w H=>?_
   rw[es] at H
   have hlen:(upto (fun l=>upto (lsf l) 256) (i+1)).length≤(upto (fun l=>upto (lsf l) 256) (lev to now)).length:=upto_len (by omega)
   have hlen2:(upto (fun l=>upto (lsf l) 256) (lev to now)).length≤(moved lsf (lev to now) (bck to (lev to now))).length:=by rw[moved,List.length_append];omega
   rw[upto_succ,List.length_append] at hlen
   refine APPo (E:=u32E) (v:=v) (xs:=upto (fun l=>upto (lsf l) 256) i) (ys:=upto (lsf i) 256) H rfl (by decide) (by omega) fun v' w H=>?_
   have H:=H.drop
   have e2:=swept_upd lsf i
   rw[es] at e2
   rw[←upto_succ (fun l=>upto (lsf l) 256),e2] at H
   refine Ob ?_
   rw[show((i:Int)+1)=((i+1:Nat):Int) by omega]
   exact ih (i+1) v' w (by omega) H.mv4.mv4.mv4.mv4.mv4.mv5
 refine loop (lev to now) 0 (.slice none 0 0) w (by omega) ?_
 have e0:swept lsf 0=lsf:=by funext l;simp[swept]
 rw[e0]
 exact sl_nil u32E H
end
end Go.Cub
