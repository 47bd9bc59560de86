/-
  Part 35 of the proof that TopNested returns true and leaves what it was given as it was. CONDITIONS: those of the given row and card.
-/
import Derived.Test.YtpelalpajdpkgaaGreatDoorZ33
import Derived.Test.YtpelalpajdpkgaaGreatDoorRows
import Derived.Carry
import Derived.ProofKit
import Derived.LaidMore
import Derived.OpenShut
import Derived.Stop.Joined
import Derived.MakeChecks
import Derived.Test.YtpelalpajdpkgaaGreatDoorCards
import Derived.Test.YtpelalpajdpkgaaGreatDoorTie
import Derived.SevenTiedAt
set_option linter.all false
namespace Go.Cub
open Go Go.Proofs Go.Proofs.YtpelalpajdpkgaaGreatDoor
open Go.ChangeShapes Go.WideShapes Go.ChangeAt Go.RowKit
theorem arr_of {P:Program} {w:World} {fuel:Nat} {t e n:Nat} {k:IntKind} {cs:List Value} {ns:List Int} {p:List MemPlace} (ht:P.underlying t=some (.array n e)) (he:P.underlying e=some (.int k)) (hc:P.cellsOf e=1) (hct:P.cellsOf t=n)
  (hn:ns.length=n) (h:DataW.trod (fun _=>()) P w 0 (fun _=>true) false fuel t cs=some (.agg (ns.map fun i=>.lit (.int k i)),p)):cs=ns.map fun i=>.int k i:=by
 obtain⟨xs,m,rfl,hx,hl,hxl,hel⟩:=DataW.trod_array ht h
 simp only[Prod.mk.injEq,DataW.agg.injEq] at hx
 apply List.ext_getElem?
 intro i
 by_cases hi:i<n
 ·have h1:=hel i hi
  rw[hc,Nat.mul_one,List.getElem?_eq_getElem (by omega)] at h1
  obtain⟨v,e1,e2,_⟩:=DataW.trod_int he h1
  have h2:=congrArg (fun l=>l[i]?) hx.1
  simp only[List.getElem?_map,List.getElem?_eq_getElem (show i<xs.length by omega),List.getElem?_eq_getElem (show i<ns.length by omega),Option.map_some,Option.some.injEq,e2,DataW.lit.injEq,Lit.int.injEq,true_and] at h2
  rw[List.getElem?_map,List.getElem?_eq_getElem (show i<ns.length by omega),Option.map_some,h2]
  have h3:=congrArg (fun l=>l[0]?) e1
  simp only[List.getElem?_take,List.getElem?_drop,Nat.add_zero,if_pos (show 0<1 by decide),List.getElem?_cons_zero] at h3
  exact h3
 ·rw[List.getElem?_eq_none (by omega),List.getElem?_eq_none (by simp;omega)]
theorem gKinds:Tryz.prog.globalNamed "cubbyhole/script.kinds" =some 0:=by kernel_rfl
theorem gTab:Tryz.prog.globalNamed "math/bits.deBruijn64tab" =some 1:=by kernel_rfl
theorem tKinds:(Tryz.prog.globals[0]?).map (·.type)=some 87:=by kernel_rfl
theorem tTab:(Tryz.prog.globals[1]?).map (·.type)=some 421:=by kernel_rfl
theorem row_var {W:World} {n:String} {g:Nat} {cs:Array Value} (hg:Tryz.prog.globalNamed n=some g) (hv:W.var? Tryz.prog n=some cs) (hf:∃c t,W.heap[g]?=some (.cells c t (0,0))):row W g=some cs.toList:=by
 obtain⟨c,t,h⟩:=hf
 simp only[World.var?,hg,Option.bind_some,h,Option.some.injEq] at hv
 subst hv
 simp[row,h]
theorem of_laid {W:World} (h:laidMetH Tryz.prog Rows.topNestedRow.laid W):row W 0=some (kindsL.map fun n=>.int .i64 (n:Nat))∧row W 1=some (dbTab.map fun n=>.int .u8 (n:Nat)):=by
 rw[MakeChecks.laidMetH_plain _ _ _ (by kernel_rfl)] at h
 obtain⟨ps,⟨g1,t1,cs1,f1,p1,q1,hg1,ht1,hv1,hd1,⟨g0,t0,cs0,f0,p0,q0,hg0,ht0,hv0,hd0,hq0,hq1⟩,hps⟩,_,hfr⟩:=h
 obtain rfl:=Option.some.inj (gTab.symm.trans hg1)
 obtain rfl:=Option.some.inj (gKinds.symm.trans hg0)
 obtain rfl:=Option.some.inj (tTab.symm.trans ht1)
 obtain rfl:=Option.some.inj (tKinds.symm.trans ht0)
 have a1:=arr_of (ns:=dbTab.map fun n:Nat=>(n:Int)) (n:=64) (k:=.u8) Tryz.underlying421 Tryz.underlying5 (by kernel_rfl) (by kernel_rfl) rfl hd1
 have a0:=arr_of (ns:=kindsL.map fun n:Nat=>(n:Int)) (n:=16) (k:=.i64) Tryz.underlying87 Tryz.underlying3 (by kernel_rfl) (by kernel_rfl) rfl hd0
 have s1:cs1.size=64:=by rw[←Array.length_toList,a1];rfl
 have s0:cs0.size=16:=by rw[←Array.length_toList,a0];rfl
 have m1:MemPlace.cell 1 0∈ps:=by
  rw[hps,s1]
  exact List.mem_append_left _ (List.mem_append_left _ (List.mem_map.2 ⟨0,by simp,rfl⟩))
 have m0:MemPlace.cell 0 0∈ps:=by
  rw[hps,hq1,s0]
  exact List.mem_append_right _ (List.mem_append_left _ (List.mem_append_left _ (List.mem_map.2 ⟨0,by simp,rfl⟩)))
 refine⟨?_,?_⟩
 ·rw[row_var hg0 hv0 (hfr 0 0 m0).1,a0];rfl
 ·rw[row_var hg1 hv1 (hfr 1 0 m1).1,a1];rfl
def frz (h0:Hp):HP:=⟨fun h F G=>(h.e=h0.e∧h0.o.size≤h.o.size∧∀b,b<h0.o.size→h.o[b]?=h0.o[b]?)∧F=[]∧G=List.range h0.o.size,
 fun⟨⟨h1,h2,h3⟩,h4,h5⟩ hk he=>by
  have h6:∀b,b<h0.o.size→_:=fun b hb=>(hk b (.inr (by rw[h5];simpa using hb))).trans (h3 b hb)
  refine⟨⟨he.trans h1,?_,h6⟩,h4,h5⟩
  rcases Nat.lt_or_ge 0 h0.o.size with h7 |h7
  ·have h8:=h6 (h0.o.size - 1) (by omega)
   rw[Array.getElem?_eq_getElem (show h0.o.size - 1<h0.o.size by omega)] at h8
   have :=lt_of_some h8
   omega
  ·omega,
 fun⟨⟨h1,h2,h3⟩,h4,h5⟩ b hb=>by
  subst h4;subst h5
  simp at hb;omega,
 fun⟨h1,h2,h3⟩ b hb=>by subst h2;simp at hb⟩
section
variable {H:Type} {enc:TypeId×Value→H}
set_option maxRecDepth 100000 in
theorem open_bs {W : World} {base : Nat} {v : Value} {d : DataW H} {p : List MemPlace} (hval : Value.okWide Tryz.prog W .any base 22 v) (h : DataW.Trod enc Tryz.prog W 0 (fun _ => true) true 22 v d p) :
    ∃ (x : SV) (bs : List UInt8) (G : List Nat), v = svV x ∧ Bs W v bs G ∧ bs.length < 9223372036854775808 := by
  obtain ⟨a1, len, cap, rfl⟩ := okWide_slice Tryz.underlying22 hval
  obtain ⟨fuel, hf⟩ := h
  rcases open_ints Tryz.underlying22 Tryz.underlying5 (by kernel_rfl) hf with ⟨hcs, hx⟩ | ⟨a, len', cap', zs, hcs, _, hl, hm, hz, hx, hcell, hwz⟩
  · simp [Value.cells] at hcs
    obtain ⟨rfl, rfl, rfl⟩ := hcs
    exact ⟨sv0, [], [], rfl, Bs.nil _, by simp⟩
  · simp [Value.cells] at hcs
    obtain ⟨rfl, rfl, rfl⟩ := hcs
    simp only [if_true] at hz
    have hlen : ((zs.take len).map fun n => UInt8.ofNat n.toNat).length = len := by simp; omega
    have hm2 : cap ≤ 9223372036854775807 := Nat.le_trans hm (by decide)
    by_cases h0 : len = 0
    · subst h0
      exact ⟨(some a, 0, cap), [], [], rfl, .inl ⟨⟨_, cap, rfl, fun h => by cases h⟩, rfl, rfl⟩, by simp⟩
    · obtain ⟨ab, ao, spot⟩ := a
      have hc0 := hcell 0 (by omega)
      have hspot : spot = none := by simpa [Addr.add] using World.cell?_spot hc0
      subst hspot
      rw [Addr.add_lit] at hc0
      have hr : ∃ cs, rowR W ab = some cs := by
        unfold rowR
        simp only [World.cell?] at hc0
        split at hc0
        · rename_i c t fr hb
          rw [hb]; exact ⟨_, rfl⟩
        · cases hc0
      obtain ⟨cs, hr⟩ := hr
      have hcs : ∀ j, j < zs.length → cs[ao + j]? = some (.int .u8 (zs.getD j 0)) := fun j hj => by
        have := hcell j hj
        rw [Addr.add_lit, cell_rowR hr] at this
        exact this
      refine ⟨(some ⟨ab, ao, none⟩, len, cap), (zs.take len).map fun n => UInt8.ofNat n.toNat, [ab], rfl, .inr ⟨ab, ao, cap, cs, ?_, rfl, hr, ?_, by rw [hlen]; exact hl, ?_⟩, by rw [hlen]; omega⟩
      · rw [hlen]
      · have h1 := hcs (len - 1) (by omega)
        have := lt_of_get h1
        rw [hlen]; omega
      · rw [hlen]
        apply List.ext_getElem?
        intro j
        by_cases hj : j < len
        · rw [List.getElem?_take, if_pos hj, List.getElem?_drop, hcs j (by omega)]
          have hb := range_u8 hwz j
          have e : zs[j]?.getD 0 = zs[j]'(by omega) := by simp [List.getElem?_eq_getElem (show j < zs.length by omega)]
          rw [e] at hb
          have e2 : zs.getD j 0 = zs[j]'(by omega) := by rw [List.getD_eq_getElem?_getD]; exact e
          rw [e2]
          simp only [List.map_map, List.getElem?_map, List.getElem?_take, if_pos hj, List.getElem?_eq_getElem (show j < zs.length by omega), Option.map_some, Function.comp, u8V, Option.some.injEq, Value.int.injEq, true_and, UInt8.toNat_ofNat']
          omega
        · rw [List.getElem?_eq_none (by simp; omega), List.getElem?_eq_none (by simp; omega)]
theorem start {W:World} {x:SV} {bs:List UInt8} {G:List Nat} (h:Bs W (svV x) bs G) (h0:row W 0=some (kindsL.map fun n=>.int .i64 (n:Nat))) (h1:row W 1=some (dbTab.map fun n=>.int .u8 (n:Nat))):Own W.hp [imm (svV x) bs,glb,knd,frz W.hp]:=by
 refine⟨[],G++([1]++([0]++(List.range W.hp.o.size++[]))),[],[],G,_,rfl,rfl,⟨h,rfl⟩,⟨[],[],[1],_,rfl,rfl,⟨h1,rfl,rfl⟩,⟨[],[],[0],_,rfl,rfl,⟨h0,rfl,rfl⟩,⟨[],[],_,[],rfl,rfl,⟨⟨rfl,Nat.le_refl _,fun _ _=>rfl⟩,rfl,rfl⟩,⟨rfl,rfl⟩,by simp,by simp⟩,by simp,by simp⟩,by simp,by simp⟩,by simp,by simp⟩
theorem stays {W W':World} {C:List HP} (h:Own W'.hp (frz W.hp::C)):W'.os=W.os∧W'.output=W.output∧∀b,b<W.heap.size→W'.heap[b]?=W.heap[b]?:=by
 obtain⟨F,G,F1,F2,G1,G2,e1,e2,⟨⟨a1,a2,a3⟩,_⟩,o,d⟩:=h
 exact⟨congrArg (·.1) a1,congrArg (·.2) a1,a3⟩
end
theorem calls_TopNested {W:World} {x:SV} {bs:List UInt8} {less more:Int} {seed:Nat} (hs:seed<18446744073709551616) (hlen:bs.length<9223372036854775808) (H:Own W.hp [imm (svV x) bs,glb,knd,frz W.hp]):
  Calls Tryz.prog 3 #[svV x,.int .i64 less,.int .i64 more,.int .u64 seed] W fun e W'=>∃v,e=.returned v∧(v=.bool true∧W'.os=W.os∧W'.output=W.output∧∀b,b<W.heap.size→W'.heap[b]?=W.heap[b]?):=
 calls_intro Tryz.tabOk Tryz.calOk Tryz.mixed o3 (R:=fun v W'=>v=.bool true∧W'.os=W.os∧W'.output=W.output∧∀b,b<W.heap.size→W'.heap[b]?=W.heap[b]?) (L:=([])) (by kernel_rfl) (stops:=[]) (args:=#[svV x,.int .i64 less,.int .i64 more,.int .u64 seed]) (show 4≤39 by decide) (by kernel_rfl)
  (f_TopNested (bs:=bs) (less:=less) (more:=more) (seed:=seed) (v:=x) (C0:=frz W.hp) (R:=fun v W'=>v=.bool true∧W'.os=W.os∧W'.output=W.output∧∀b,b<W.heap.size→W'.heap[b]?=W.heap[b]?) hs hlen H fun w H=>⟨rfl,stays H.drop.drop⟩)
end Go.Cub
namespace Go.Proofs.YtpelalpajdpkgaaGreatDoor
open Go Go.Proofs
open Go.ChangeShapes Go.WideShapes Go.ChangeAt Go.RowKit
theorem own:ownKnob Tryz.prog.godebug=none:=by kernel_rfl
theorem laidOut:laidOutB Tryz.prog=true:=by kernel_rfl
theorem door_met (os:Os) (args:Array Value):laidMetH Tryz.prog Rows.topNestedRow.laid ((World.doorLaid Tryz.prog 4000 os).forCall (fun _ _=>0) ⟨#[],args,[]⟩).memory:=
 laidMetH_of_parts3 (fuel:=8) (laidMet_of_run' 8 (by kernel_rfl) (by kernel_rfl)) (by kernel_rfl) (by kernel_rfl)
set_option maxRecDepth 100000 in
theorem lifted (os : Os) (started : os.Started) (H : Type) (enc : TypeId × Value → H) :
    ReturnsInHanded {} Tryz.checked os 3 .any (fun w args => (Rows.topNestedSpec.pre enc Tryz.prog Tryz.f3 [] false w args ∧ laidMetH Tryz.prog Rows.topNestedRow.laid w) ∧ sizedMet enc Tryz.prog Tryz.f3 (OpenSpec.ofChange Rows.topNestedSpec) false w args)
      (Rows.topNestedSpec.post enc Tryz.prog Tryz.f3 false true false false) := by
  refine returnsInHanded_of_change_and (C := Tryz.checked) (X := fun w _ => laidMetH Tryz.prog Rows.topNestedRow.laid w) (fun _ _ _ hh h => h.of_heap hh) own started (by kernel_rfl) Tryz.func3
    (ChangeSpec.witness_shaped (enc := enc) (C := Tryz.checked) (os := os) (X := fun w _ => laidMetH Tryz.prog Rows.topNestedRow.laid w) false (World.doorLaid Tryz.prog 4000 os) #[.slice none 0 0, .int .i64 0, .int .i64 0, .int .u64 0] 8 rfl (World.shaped_of_RefB (by kernel_rfl) (by kernel_rfl)) (by kernel_rfl) (by kernel_rfl) (by kernel_rfl) (door_met os _)) ?_
  intro W base args ds gs before hval0 hW _ _ hL _
  have hval : ∀ (j : Nat) t v, Tryz.f3.params[j]? = some t → args[j]? = some v → Value.okWide Tryz.prog W .any base t v := hval0
  have hW' := hW
  obtain ⟨p, q, hA0, hV, rfl, hfz, hnd⟩ := hW
  have hA : DataW.TrodAll enc Tryz.prog W 0 (fun _ => true) true Tryz.f3.params.toList args.toList ds p := hA0
  rw [Tryz.params3] at hA hval
  obtain ⟨v0, v1, v2, v3, d0, d1, d2, d3, p0, p1, p2, p3, rfl, rfl, rfl, h0, h1, h2, h3⟩ := trodAll_four hA
  obtain ⟨rfl, rfl⟩ := trodVars_none hV
  obtain ⟨n1, rfl, rfl, rfl, w1⟩ := open_int Tryz.underlying3 (hval 1 3 _ rfl rfl) h1
  obtain ⟨n2, rfl, rfl, rfl, w2⟩ := open_int Tryz.underlying3 (hval 2 3 _ rfl rfl) h2
  obtain ⟨n3, rfl, rfl, rfl, w3⟩ := open_int Tryz.underlying23 (hval 3 23 _ rfl rfl) h3
  obtain ⟨x, bs, G, rfl, hbs, hlen⟩ := Go.Cub.open_bs (hval 0 22 _ rfl rfl) h0
  obtain ⟨r0, r1⟩ := Go.Cub.of_laid hL
  have hn3 : 0 ≤ n3 ∧ n3 < 18446744073709551616 := by
    have e1 : IntKind.u64.min = 0 := by decide
    have e2 : IntKind.u64.max = 18446744073709551615 := by decide
    simp [Lit.wf, IntKind.wrap, IntKind.bits, IntKind.signed] at w3
    omega
  obtain ⟨seed, rfl⟩ := Int.eq_ofNat_of_zero_le hn3.1
  refine (Go.Cub.calls_TopNested (bs := bs) (less := n1) (more := n2) (seed := seed) (by omega) hlen (Go.Cub.start hbs r0 r1)).mono fun e W' ⟨v, he, hv, ho, hu, hb⟩ => ?_
  subst he; subst hv
  have hlt : ∀ y ∈ p0, y.block < W.heap.size := fun y hy => hW'.lt y (by simp [hy])
  have hsame : ∀ y ∈ p0, W.sameAt W' y := fun y hy => by
    have := hb y.block (hlt y hy)
    cases y with
    | cell b o => exact World.cell?_of_block (w := W) this
    | map b => exact this
  refine ⟨_, rfl, _, _, _, [], p0 ++ ([] ++ ([] ++ [])), [], hW', ?_, ?_, rfl, ?_, fun h => by cases h⟩
  · exact trodAll_mk1 (shut_bool Tryz.underlying4 true)
  · exact trodAll_mk4 (WideElems.Trod_stays laidOut (by kernel_rfl) (of_decide_eq_true (by kernel_rfl)) h0 hsame (fun y hy => by simpa using hlt y hy)) (shut_int Tryz.underlying3 w1) (shut_int Tryz.underlying3 w2) (shut_int Tryz.underlying23 w3)
  · refine ⟨ho, hu, fun i hi => ?_⟩
    rw [hb i hi]
    split <;> simp_all
theorem named3:Tryz.prog.funcNamed "cubbyhole/cubbyholetop.TopNested" =some 3:=by kernel_rfl
set_option maxHeartbeats 8000000 in
theorem joined : joinedFacts Tryz.prog 3 Tryz.f3 Rows.topNestedSpec Rows.topNestedRow = true := by
  unfold joinedFacts
  repeat' with_reducible refine Bool.and_eq_true_iff.2 ⟨?_, ?_⟩
  all_goals as_aux_lemma => kernel_rfl
theorem topNested_holds:Rows.TopNestedSaid:=
 OpenClaim.holds_of_wide 3 Tryz.f3 rfl rfl rfl rfl rfl rfl rfl ⟨rfl,rfl,rfl,rfl,rfl⟩ rfl rfl rfl rfl rfl named3 Tryz.func3 joined
  (of_decide_eq_true (by as_aux_lemma=>kernel_rfl)) (by unfold Func.isWrapper;first |(rw[if_pos (by decide+kernel)];as_aux_lemma=>kernel_rfl) |(rw[if_neg (by decide+kernel)];exact⟨rfl,rfl⟩))
  (fun os started H enc _=>lifted os started H enc)
theorem topNested_card:Rows.TopNestedCardSaid:=
 Claim7.holds_tied_plain_at .later [] [.data,.widerDeep] true (true, "e4ca989a8f3ce60c7031276960c7ec00e2c6dd2f0e4480b077afb3e40735cac9") false
  topNested_holds (fun _ h=>by cases h) (by as_aux_lemma=>kernel_rfl) (fun _ h=>by cases h) topNested_row_tie rfl ⟨rfl,rfl⟩ (by as_aux_lemma=>kernel_rfl) rfl
  (fun f fn hf hfn=>by
   obtain rfl:f=3:=Option.some.inj (named3.symm.trans hf) |>.symm
   obtain rfl:fn=Tryz.f3:=(Option.some.inj (Tryz.func3.symm.trans hfn)).symm
   exact⟨by as_aux_lemma=>kernel_rfl,fun j t ht=>by
    rw[Tryz.params3] at ht
    have hm:t∈[22,3,3,23]:=by simpa using Array.mem_of_getElem? ht
    have hall:([22,3,3,23].all fun u=> !Tryz.prog.wantsStandIn u)=true:=by as_aux_lemma=>kernel_rfl
    exact(show Tryz.prog.wantsStandIn t=false by simpa using List.all_eq_true.1 hall t hm)⟩)
  (by as_aux_lemma=>kernel_rfl)
end Go.Proofs.YtpelalpajdpkgaaGreatDoor
