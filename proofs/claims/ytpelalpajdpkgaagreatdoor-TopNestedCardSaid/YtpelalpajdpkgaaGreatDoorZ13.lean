/-
  Part 14 of the proof that TopNested returns true and leaves what it was given as it was. CONDITIONS: those of the given row and card.
-/
import Derived.Test.YtpelalpajdpkgaaGreatDoorZ09
import Derived.KernelRfl
set_option linter.all false
namespace Go.Cub
open Go Go.Proofs
open Tryz
variable {R:RR} {a0 a1 a2 a3 a4 s0 s1 s2 s3 s4 s5 s6 s7 s8 s9 s10 s11 s12 s13 s14 s16 s17 s18 s19 s20 s21 s22 s23 s24 s25 s26 s27 s28 s29 s30 s31 s32 s33 s38 s39 s40 s42 s43 s45 s46 s47 s58 s59 s60 s85 s86 s87:Value} {w:World} {df:List Deferred}
theorem o291:OK 291 f291 25:=fo func291
def F_291 (R:RR) (a0 a1 a2:Value) (w:World):Prop:=PV (binN .lss a1 (.int .i64 0)) fun t9=>GRD t9 false w (fun k=>k a1 w) fun t11 w_1=>GRD t9 false w_1 (fun k_1=>PV (binN .geq t11 (.int .i64 8)) fun t12=>k_1 t12 w_1) fun t12_1 w_2=>PV (pickV t9 (.bool true) t12_1) fun t13=>CND t13 (R (.tuple #[.int .u64 0,.int .i64 3]) w_2) (PV (binN .mul (.int .i64 8) a1) fun t16=>PV (binN .shl (.int .u64 255) t16) fun t17=>PV (binN .andNot a0 t17) fun t18=>PV (convI .u64 a2) fun t20=>PV (binN .mul (.int .i64 8) a1) fun t22=>PV (binN .shl t20 t22) fun t23=>PV (binN .or t18 t23) fun t24=>R (.tuple #[t24,.int .i64 0]) (World.drew w_2))
theorem c_291 (h:F_291 R a0 a1 a2 w):Call Pg 291 #[a0,a1,a2] w R:=ci o291 [] [] h
theorem o292:OK 292 f292 18:=fo func292
def F_292 (R:RR) (a0 a1:Value) (w:World):Prop:=Call Pg 265 #[a1] w fun t8 w_1=>PV (binN .xor a0 t8) fun t9=>PV (binN .and t9 (.int .u64 9187201950435737471)) fun t11=>PV (binN .add t11 (.int .u64 9187201950435737471)) fun t12=>PV (binN .or t12 t9) fun t14=>PV (binN .or t14 (.int .u64 9187201950435737471)) fun t15=>PV (unV .xor t15) fun t16=>Call Pg 334 #[t16] w_1 fun t17 w_2=>R t17 w_2
theorem c_292 (h:F_292 R a0 a1 w):Call Pg 292 #[a0,a1] w R:=ci o292 [] [] h
theorem o293:OK 293 f293 13:=fo func293
def F_293 (R:RR) (a0:Value) (w:World):Prop:=PV (binN .shr a0 (.int .u64 29)) fun t6=>PV (binN .xor a0 t6) fun t7=>PV (binN .mul (.int .u64 5) t7) fun t8=>PV (binN .shr t8 (.int .u64 32)) fun t11=>PV (binN .xor t8 t11) fun t12=>R t12 w
theorem c_293 (h:F_293 R a0 w):Call Pg 293 #[a0] w R:=ci o293 [] [] h
theorem o294:OK 294 f294 20:=fo func294
def B_294_2 (R:RR) (s0 s1 s7 s8:Value) (w:World):Prop:=Blk Tryz.prog 294 f294 (cd f294) 20 R 2 [(0,s0),(1,s1),(7,s7),(8,s8)] [] w
def P_294_2 (R:RR) (s0 s1 s7 s8:Value) (w:World):Prop:=PV (binN .lss s8 s7) fun t9=>CND t9 (PV (idxStr s1 s8) fun t14=>PV (convI .u64 t14) fun t15=>PV (binN .xor s0 t15) fun t16=>PV (binN .mul t16 (.int .u64 1099511628211)) fun t17=>PV (binN .add s8 (.int .i64 1)) fun t18=>B_294_2 R t17 s1 s7 t18 w) (R s0 w)
theorem B_294_2.intro (h:P_294_2 R s0 s1 s7 s8 w):B_294_2 R s0 s1 s7 s8 w:=bi o294 [2] [(2,[0,1,7,8])] h
def F_294 (R:RR) (a0 a1:Value) (w:World):Prop:=PV (lenStr a1) fun t7=>B_294_2 R a0 a1 t7 (.int .i64 0) w
theorem c_294 (h:F_294 R a0 a1 w):Call Pg 294 #[a0,a1] w R:=ci o294 [2] [(2,[0,1,7,8])] h
theorem o295:OK 295 f295 21:=fo func295
def B_295_2 (R:RR) (s0 s7 s8 s9:Value) (w:World):Prop:=Blk Tryz.prog 295 f295 (cd f295) 21 R 2 [(0,s0),(7,s7),(8,s8),(9,s9)] [] w
def P_295_2 (R:RR) (s0 s7 s8 s9:Value) (w:World):Prop:=PV (binN .lss s9 s8) fun t10=>CND t10 (PV (idxS 1 s7 s9) fun t11=>L1 t11 w fun t12=>PV (binN .lss t12 (.int .i64 0)) fun t14=>GRD t14 false w (fun k=>k t12 w) fun t16 w_1=>GRD t14 false w_1 (fun k_1=>k_1 s0 w_1) fun t17 w_2=>GRD t14 false w_2 (fun k_2=>PV (binN .gtr t16 t17) fun t18=>k_2 t18 w_2) fun t18_1 w_3=>PV (pickV t14 (.bool true) t18_1) fun t19=>CND t19 (R (.int .i64 3) w_3) (PV (binN .add s9 (.int .i64 1)) fun t20=>B_295_2 R s0 s7 s8 t20 w_3)) (R (.int .i64 0) w)
theorem B_295_2.intro (h:P_295_2 R s0 s7 s8 s9 w):B_295_2 R s0 s7 s8 s9 w:=bi o295 [2] [(2,[0,7,8,9])] h
def F_295 (R:RR) (a0 a1:Value) (w:World):Prop:=PV (lenS a1) fun t8=>B_295_2 R a0 a1 t8 (.int .i64 0) w
theorem c_295 (h:F_295 R a0 a1 w):Call Pg 295 #[a0,a1] w R:=ci o295 [2] [(2,[0,7,8,9])] h
theorem o296:OK 296 f296 8:=fo func296
def F_296 (R:RR) (a0:Value) (w:World):Prop:=PV (binN .sub a0 (.int .i64 1)) fun t4=>PV (convI .u64 t4) fun t5=>Call Pg 271 #[t5] w fun t6 w_1=>PV (binN .shl (.int .i64 1) t6) fun t7=>R t7 w_1
theorem c_296 (h:F_296 R a0 w):Call Pg 296 #[a0] w R:=ci o296 [] [] h
theorem o297:OK 297 f297 84:=fo func297
def par_297_6:Array Tmp:=#[26]
noncomputable def as_297_6:Code:=rfAs 6 (cd f297)
noncomputable def bd_297_6:Code:=rfBody 6 (cd f297)
theorem rd_297_6:RdOk 84 [26] as_297_6 bd_297_6:=⟨by kernel_rfl,by kernel_rfl,by kernel_rfl,by kernel_rfl,by kernel_rfl⟩
def D_297_6 (R:RR) (l:Nat) (s3 s4 s5 s6 x26:Value) (w:World):Prop:=BR l w fun w_1=>L1 s3 w_1 fun t27=>PV (nilV t27) fun t28=>PV (fldV 0 t28) fun t29=>L1 t29 w_1 fun t30=>PV (idxS 9 t30 x26) fun t32=>PV (nilV t32) fun t34=>PV (fldV 0 t34) fun t35=>L1 t35 w_1 fun t36=>Call Pg 335 #[t36] w_1 fun t37 w_2=>Call Pg 331 #[t37] w_2 fun t38 w_3=>PV (binN .eql t38 (.int .i64 8)) fun t40=>CND t40 (ER l none w_3 R) (PV (nilV t32) fun t42=>PV (fldV 0 t42) fun t43=>L1 t43 w_3 fun t44=>Call Pg 235 #[t44] w_3 fun t45 w_4=>PV (binN .shr t45 t38) fun t47=>PV (binN .and t47 (.int .u8 1)) fun t48=>PV (binN .eql t48 (.int .u8 0)) fun t49=>CND t49 (L1 s3 w_4 fun t50=>PV (nilV t50) fun t51=>PV (fldV 2 t51) fun t52=>L1 t52 w_4 fun t53=>PV (binN .sub t53 (.int .i64 1)) fun t54=>PV (nilV t50) fun t55=>PV (fldV 2 t55) fun t56=>S1 t56 t54 w_4 fun w_5=>PV (nilV t32) fun t60=>PV (fldV 0 t60) fun t61=>L1 t61 (World.drew w_5) fun t62=>L1 s4 (World.drew w_5) fun t64=>Call Pg 288 #[t64] (World.drew w_5) fun t65 w_6=>(L1 t61 w_6 fun t62_1=>t62_1=t62)∧ (Call Pg 336 #[t62,t38,t65] w_6 fun t66 w_7=>PV (extV 0 t66) fun t67=>PV (extV 1 t66) fun t68=>PV (nilV t32) fun t69=>PV (fldV 0 t69) fun t70=>S1 t70 t67 w_7 fun w_8=>L1 s5 (World.drew w_8) fun t73=>PV (nilV t32) fun t74=>PV (fldV 1 t74) fun t75=>PV (idxA 8 1 t75 t38) fun t76=>S1 t76 t73 (World.drew w_8) fun w_9=>L1 s3 w_9 fun t77=>PV (nilV t77) fun t78=>PV (fldV 1 t78) fun t79=>L1 t79 w_9 fun t80=>PV (binN .add t80 (.int .i64 1)) fun t81=>PV (nilV t77) fun t82=>PV (fldV 1 t82) fun t83=>S1 t83 t81 w_9 fun w_10=>S1 s6 (.int .i64 0) w_10 fun w_11=>ER l (some .ret) w_11 R)) (PV (nilV t32) fun t60_1=>PV (fldV 0 t60_1) fun t61_1=>L1 t61_1 (World.drew w_4) fun t62_2=>L1 s4 (World.drew w_4) fun t64_1=>Call Pg 288 #[t64_1] (World.drew w_4) fun t65_1 w_12=>(L1 t61_1 w_12 fun t62_3=>t62_3=t62_2)∧ (Call Pg 336 #[t62_2,t38,t65_1] w_12 fun t66_1 w_13=>PV (extV 0 t66_1) fun t67_1=>PV (extV 1 t66_1) fun t68_1=>PV (nilV t32) fun t69_1=>PV (fldV 0 t69_1) fun t70_1=>S1 t70_1 t67_1 w_13 fun w_14=>L1 s5 (World.drew w_14) fun t73_1=>PV (nilV t32) fun t74_1=>PV (fldV 1 t74_1) fun t75_1=>PV (idxA 8 1 t75_1 t38) fun t76_1=>S1 t76_1 t73_1 (World.drew w_14) fun w_15=>L1 s3 w_15 fun t77_1=>PV (nilV t77_1) fun t78_1=>PV (fldV 1 t78_1) fun t79_1=>L1 t79_1 w_15 fun t80_1=>PV (binN .add t80_1 (.int .i64 1)) fun t81_1=>PV (nilV t77_1) fun t82_1=>PV (fldV 1 t82_1) fun t83_1=>S1 t83_1 t81_1 w_15 fun w_16=>S1 s6 (.int .i64 0) w_16 fun w_17=>ER l (some .ret) w_17 R)))
theorem y_297_6 {R:RR} {l:Nat} {s3 s4 s5 s6 x26:Value} {w:World} {r:Loop} (hl:w.heap[l]?=some (.loop r)) (hf:r.fn=297) (hp:r.params=par_297_6) (ha:r.assign=as_297_6) (hb:r.body=bd_297_6) (hn:r.tmps.size=84)
  (hlive:∀x∈([(3,s3),(4,s4),(5,s5),(6,s6)]:List (Nat×Value)),r.tmps.getD x.1 undef=x.2) (h:D_297_6 R l s3 s4 s5 s6 x26 w):CallV Pg (.func (.yield l) #[] #[]) #[x26] w R:=
 yield_intro Tryz.tabOk Tryz.calOk Tryz.mixed rd_297_6 (L:=[(6,[3,4,5,6])]) (by kernel_rfl) (ps:=[26]) (args:=[x26]) hl hf hp ha hb hn hlive rfl (Q:=D_297_6 R l s3 s4 s5 s6 x26 w) (fun d=>by kernel_rfl) h
def F_297 (R:RR) (a0 a1 a2:Value) (w:World):Prop:=NEW 180 (Value.cells a0) w fun t3 w_1=>NEW 23 (Value.cells a1) w_1 fun t4 w_2=>NEW 114 (Value.cells a2) w_2 fun t5 w_3=>NEW 30 #[.int .i64 0] w_3 fun t6 w_4=>L1 t3 w_4 fun t12=>Call Pg 228 #[t12] w_4 fun t13 w_5=>CND t13 (S1 t6 (.int .i64 1) w_5 fun w_6=>L1 t6 w_6 fun r6=>R r6 w_6) (L1 t4 (World.drew w_5) fun t15=>L1 t3 (World.drew w_5) fun t17=>PV (nilV t17) fun t18=>PV (fldV 0 t18) fun t19=>L1 t19 (World.drew w_5) fun t20=>PV (lenS t20) fun t21=>Call Pg 285 #[t15] (World.drew w_5) fun t16 w_7=>(L1 t19 w_7 fun t20_1=>t20_1=t20)∧ (L1 t3 w_7 fun t17_1=>t17_1=t17)∧ (Call Pg 284 #[t16,t21] w_7 fun t22 w_8=>PV (extV 0 t22) fun t23=>PV (extV 1 t22) fun t24=>RF Pg 297 none 84 [(3,t3),(4,t4),(5,t5),(6,t6)] t23 par_297_6 as_297_6 bd_297_6 ([]) w_8 fun j df_1 w_9=>JMP j (S1 t6 (.int .i64 7) w_9 fun w_10=>RET Pg df_1 w_10 fun w_11=>L1 t6 w_11 fun r6_1=>R r6_1 w_11) (fun id=>exM id 0 (S1 t6 (.int .i64 7) w_9 fun w_12=>RET Pg df_1 w_12 fun w_13=>L1 t6 w_13 fun r6_2=>R r6_2 w_13) (False)) (RET Pg df_1 w_9 fun w_14=>L1 t6 w_14 fun r6_3=>R r6_3 w_14)))
theorem c_297 (h:F_297 R a0 a1 a2 w):Call Pg 297 #[a0,a1,a2] w R:=ci o297 [] [(6,[3,4,5,6])] h
theorem o298:OK 298 f298 9:=fo func298
def F_298 (R:RR) (a0:Value) (w:World):Prop:=PV (binN .geq a0 (.int .i64 1)) fun t4=>GRD t4 true w (fun k=>k a0 w) fun t6 w_1=>GRD t4 true w_1 (fun k_1=>PV (binN .lss t6 (.int .i64 6)) fun t7=>k_1 t7 w_1) fun t7_1 w_2=>PV (pickV t4 t7_1 (.bool false)) fun t8=>R t8 w_2
theorem c_298 (h:F_298 R a0 w):Call Pg 298 #[a0] w R:=ci o298 [] [] h
theorem o299:OK 299 f299 11:=fo func299
def F_299 (R:RR) (a0:Value) (w:World):Prop:=NEW 38 (Value.cells a0) w fun t1 w_1=>PV (fldV 0 t1) fun t3=>L1 t3 w_1 fun t4=>PV (fldV 1 t1) fun t5=>L1 t5 w_1 fun t6=>PV (fldV 3 t1) fun t7=>L1 t7 w_1 fun t8=>Call Pg 257 #[t4,t6,t8] w_1 fun t9 w_2=>PV (binN .eql t9 (.int .i64 0)) fun t10=>R t10 w_2
theorem c_299 (h:F_299 R a0 w):Call Pg 299 #[a0] w R:=ci o299 [] [] h
theorem o300:OK 300 f300 12:=fo func300
def F_300 (R:RR) (a0:Value) (w:World):Prop:=NEW 74 (Value.cells a0) w fun t1 w_1=>NEW 38 #[.string ⟨#[]⟩,.slice none 0 0,.int .u64 0,.int .u64 0] w_1 fun t2 w_2=>PV (fldV 1 t1) fun t3=>L1 t3 w_2 fun t4=>PV (fldV 2 t1) fun t5=>L1 t5 w_2 fun t6=>PV (fldV 4 t1) fun t7=>L1 t7 w_2 fun t8=>PV (fldV 3 t1) fun t9=>L1 t9 w_2 fun t10=>PV (buildV [(0,1),(1,1),(2,1),(3,1)] (.agg #[.string ⟨#[]⟩,.slice none 0 0,.int .u64 0,.int .u64 0]) [(0,t4),(1,t6),(2,t8),(3,t10)]) fun t11=>SN 4 t2 t11 w_2 fun w_3=>LN 4 t2 w_3 fun r2=>R r2 w_3
theorem c_300 (h:F_300 R a0 w):Call Pg 300 #[a0] w R:=ci o300 [] [] h
theorem o301:OK 301 f301 20:=fo func301
def F_301 (R:RR) (a0 a1:Value) (w:World):Prop:=Call Pg 337 #[a0] w fun t7 w_1=>CND t7 (R (.int .i64 1) w_1) (PV (binN .lss a1 (.int .i64 0)) fun t10=>GRD t10 false w_1 (fun k=>k a1 w_1) fun t12 w_2=>GRD t10 false w_2 (fun k_1=>k_1 a0 w_2) fun t13 w_3=>GRD t10 false w_3 (fun k_2=>PV (nilV t13) fun t14=>k_2 t14 w_3) fun t14_1 w_4=>GRD t10 false w_4 (fun k_3=>PV (fldV 2 t14_1) fun t15=>k_3 t15 w_4) fun t15_1 w_5=>GRD t10 false w_5 (fun k_4=>L1 t15_1 w_5 fun t16=>k_4 t16 w_5) fun t16_1 w_6=>GRD t10 false w_6 (fun k_5=>PV (lenS t16_1) fun t17=>k_5 t17 w_6) fun t17_1 w_7=>GRD t10 false w_7 (fun k_6=>PV (binN .geq t12 t17_1) fun t18=>k_6 t18 w_7) fun t18_1 w_8=>PV (pickV t10 (.bool true) t18_1) fun t19=>CND t19 (R (.int .i64 2) w_8) (R (.int .i64 0) w_8))
theorem c_301 (h:F_301 R a0 a1 w):Call Pg 301 #[a0,a1] w R:=ci o301 [] [] h
theorem o303:OK 303 f303 28:=fo func303
def F_303 (R:RR) (a0 a1:Value) (w:World):Prop:=PV (nilV a0) fun t6=>PV (fldV 0 t6) fun t7=>L1 t7 w fun t8=>Call Pg 338 #[t8] w fun t9 w_1=>PV (convI .i64 a1) fun t11=>PV (binN .geq t11 t9) fun t13=>CND t13 (PV (nilV a0) fun t15=>PV (fldV 0 t15) fun t16=>L1 t16 (World.drew w_1) fun t17=>PV (binN .mul (.int .i64 2) t9) fun t21=>PV (convI .i64 a1) fun t23=>PV (binN .add t23 (.int .i64 1)) fun t24=>PV (maxV t21 t24) fun t25=>PV (minV (.int .i64 4194304) t25) fun t26=>Call Pg 340 #[t9] (World.drew w_1) fun t19 w_2=>(L1 t16 w_2 fun t17_1=>t17_1=t17)∧ (Call Pg 339 #[t17,t19,t26] w_2 fun t27 w_3=>R (.tuple #[]) w_3)) (R (.tuple #[]) w_1)
theorem c_303 (h:F_303 R a0 a1 w):Call Pg 303 #[a0,a1] w R:=ci o303 [] [] h
theorem o304:OK 304 f304 11:=fo func304
def F_304 (R:RR) (a0 a1 a2:Value) (w:World):Prop:=Call Pg 341 #[a0,a1,a2,.bool false] w fun t10 w_1=>R t10 w_1
theorem c_304 (h:F_304 R a0 a1 a2 w):Call Pg 304 #[a0,a1,a2] w R:=ci o304 [] [] h
theorem o305:OK 305 f305 6:=fo func305
def F_305 (R:RR) (a0:Value) (w:World):Prop:=PV (binN .neq a0 a0) fun t5=>R t5 w
theorem c_305 (h:F_305 R a0 w):Call Pg 305 #[a0] w R:=ci o305 [] [] h
theorem o306:OK 306 f306 25:=fo func306
def F_306 (R:RR) (a0 a1 a2:Value) (w:World):Prop:=Call Pg 155 #[a0,a1] w fun t10 w_1=>PV (binN .neq t10 (.int .i64 0)) fun t13=>CND t13 (R t10 w_1) (PV (binN .eql a2 (.int .u64 18446744073709551615)) fun t17=>CND t17 (R (.int .i64 2) w_1) (PV (nilV a0) fun t21=>PV (fldV 0 t21) fun t22=>L1 t22 w_1 fun t23=>PV (binN .leq a2 t23) fun t24=>CND t24 (R (.int .i64 3) w_1) (R (.int .i64 0) w_1)))
theorem c_306 (h:F_306 R a0 a1 a2 w):Call Pg 306 #[a0,a1,a2] w R:=ci o306 [] [] h
theorem o307:OK 307 f307 16:=fo func307
def B_307_2 (R:RR) (s5 s6 s7:Value) (w:World):Prop:=Blk Tryz.prog 307 f307 (cd f307) 16 R 2 [(5,s5),(6,s6),(7,s7)] [] w
def P_307_2 (R:RR) (s5 s6 s7:Value) (w:World):Prop:=PV (binN .lss s7 s6) fun t8=>CND t8 (PV (idxS 2 s5 s7) fun t9=>LN 2 t9 w fun t10=>NEW 396 #[.bool false,.int .i64 0] w fun t4 w_1=>SN 2 t4 t10 w_1 fun w_2=>PV (fldV 0 t4) fun t11=>L1 t11 w_2 fun t12=>CND t12 (PV (fldV 1 t4) fun t13=>L1 t13 w_2 fun t14=>R t14 w_2) (PV (binN .add s7 (.int .i64 1)) fun t15=>B_307_2 R s5 s6 t15 w_2)) (R (.int .i64 0) w)
theorem B_307_2.intro (h:P_307_2 R s5 s6 s7 w):B_307_2 R s5 s6 s7 w:=bi o307 [2] [(2,[5,6,7])] h
def F_307 (R:RR) (a0:Value) (w:World):Prop:=PV (lenS a0) fun t6=>B_307_2 R a0 t6 (.int .i64 0) w
theorem c_307 (h:F_307 R a0 w):Call Pg 307 #[a0] w R:=ci o307 [2] [(2,[5,6,7])] h
theorem o308:OK 308 f308 51:=fo func308
def F_308 (R:RR) (a0 a1 a2:Value) (w:World):Prop:=NEW 273 #[.int .i64 0,.bool false] w fun t6 w_1=>Call Pg 238 #[a0,a1,a2] w_1 fun t14 w_2=>PV (binN .neq t14 (.int .i64 0)) fun t16=>CND t16 (PV (buildV [(0,1),(1,1)] (.agg #[.int .i64 0,.bool false]) []) fun t17=>SN 2 t6 t17 w_2 fun w_3=>LN 2 t6 w_3 fun r6=>R (.tuple #[r6,t14]) w_3) (Call Pg 342 #[a0] w_2 fun t20 w_4=>PV (binN .add a1 a2) fun t24=>PV (binN .geq t24 t20) fun t26=>PV (buildV [(0,1),(1,1)] (.agg #[.int .i64 0,.bool false]) [(0,a0),(1,t26)]) fun t27=>NEW 273 #[.int .i64 0,.bool false] w_4 fun t10 w_5=>SN 2 t10 t27 w_5 fun w_6=>PV (fldV 1 t10) fun t29=>L1 t29 w_6 fun t30=>PV (unV .not t30) fun t31=>GRD t31 false w_6 (fun k=>k a1 w_6) fun t33 w_7=>GRD t31 false w_7 (fun k_1=>PV (binN .mul (.int .i64 2) t33) fun t34=>k_1 t34 w_7) fun t34_1 w_8=>GRD t31 false w_8 (fun k_2=>k_2 t20 w_8) fun t35 w_9=>GRD t31 false w_9 (fun k_3=>PV (binN .leq t34_1 t35) fun t36=>k_3 t36 w_9) fun t36_1 w_10=>PV (pickV t31 (.bool true) t36_1) fun t37=>CND t37 (LN 2 t10 w_10 fun t45=>SN 2 t6 t45 w_10 fun w_11=>LN 2 t6 w_11 fun r6_1=>R (.tuple #[r6_1,.int .i64 0]) w_11) (PV (binN .lss a0 (.int .i64 1048576)) fun t40=>CND t40 (PV (binN .mul (.int .i64 2) a0) fun t47=>PV (fldV 0 t10) fun t48=>S1 t48 t47 w_10 fun w_12=>LN 2 t10 w_12 fun t49=>SN 2 t6 t49 w_12 fun w_13=>LN 2 t6 w_13 fun r6_2=>R (.tuple #[r6_2,.int .i64 0]) w_13) (PV (binN .lss a1 t20) fun t44=>CND t44 (LN 2 t10 w_10 fun t49_1=>SN 2 t6 t49_1 w_10 fun w_14=>LN 2 t6 w_14 fun r6_3=>R (.tuple #[r6_3,.int .i64 0]) w_14) (PV (buildV [(0,1),(1,1)] (.agg #[.int .i64 0,.bool false]) []) fun t50=>SN 2 t6 t50 w_10 fun w_15=>LN 2 t6 w_15 fun r6_4=>R (.tuple #[r6_4,.int .i64 7]) w_15))))
theorem c_308 (h:F_308 R a0 a1 a2 w):Call Pg 308 #[a0,a1,a2] w R:=ci o308 [] [] h
theorem o309:OK 309 f309 28:=fo func309
def F_309 (R:RR) (a0 a1 a2:Value) (w:World):Prop:=PV (binB (.ptr 361) .eql a0 (.pointer none)) fun t9=>GRD t9 false w (fun k=>k a0 w) fun t11 w_1=>GRD t9 false w_1 (fun k_1=>PV (nilV t11) fun t12=>k_1 t12 w_1) fun t12_1 w_2=>GRD t9 false w_2 (fun k_2=>PV (fldV 0 t12_1) fun t13=>k_2 t13 w_2) fun t13_1 w_3=>GRD t9 false w_3 (fun k_3=>L1 t13_1 w_3 fun t14=>k_3 t14 w_3) fun t14_1 w_4=>GRD t9 false w_4 (fun k_4=>PV (binB (.ptr 352) .eql t14_1 (.pointer none)) fun t15=>k_4 t15 w_4) fun t15_1 w_5=>PV (pickV t9 (.bool true) t15_1) fun t16=>CND t16 (R (.int .i64 1) w_5) (PV (binN .geq a1 (.int .u32 4194304)) fun t19=>GRD t19 false w_5 (fun k_5=>k_5 a2 w_5) fun t21 w_6=>GRD t19 false w_6 (fun k_6=>PV (binN .lss t21 (.int .i64 0)) fun t22=>k_6 t22 w_6) fun t22_1 w_7=>PV (pickV t19 (.bool true) t22_1) fun t23=>GRD t23 false w_7 (fun k_7=>k_7 a2 w_7) fun t25 w_8=>GRD t23 false w_8 (fun k_8=>PV (binN .geq t25 (.int .i64 256)) fun t26=>k_8 t26 w_8) fun t26_1 w_9=>PV (pickV t23 (.bool true) t26_1) fun t27=>CND t27 (R (.int .i64 2) w_9) (R (.int .i64 0) w_9))
theorem c_309 (h:F_309 R a0 a1 a2 w):Call Pg 309 #[a0,a1,a2] w R:=ci o309 [] [] h
theorem o310:OK 310 f310 32:=fo func310
def B_310_3 (R:RR) (s0 s6 s7:Value) (w:World):Prop:=Blk Tryz.prog 310 f310 (cd f310) 32 R 3 [(0,s0),(6,s6),(7,s7)] [] w
def P_310_3 (R:RR) (s0 s6 s7:Value) (w:World):Prop:=PV (binN .lss s7 (.int .i64 4)) fun t15=>CND t15 (PV (nilV s0) fun t20=>PV (idxA 4 1 t20 s7) fun t21=>L1 t21 w fun t22=>PV (binN .and t22 s6) fun t24=>PV (binN .neq t24 (.int .u64 0)) fun t26=>CND t26 (PV (binN .mul (.int .i64 64) s7) fun t28=>Call Pg 343 #[t24] w fun t30 w_1=>PV (binN .add t28 t30) fun t31=>R (.tuple #[t31,.bool true]) w_1) (PV (binN .add s7 (.int .i64 1)) fun t17=>B_310_3 R s0 (.int .u64 18446744073709551615) t17 w)) (R (.tuple #[.int .i64 0,.bool false]) w)
theorem B_310_3.intro (h:P_310_3 R s0 s6 s7 w):B_310_3 R s0 s6 s7 w:=bi o310 [3] [(3,[0,6,7])] h
def F_310 (R:RR) (a0 a1:Value) (w:World):Prop:=PV (binN .rem a1 (.int .i64 64)) fun t10=>PV (binN .shl (.int .u64 18446744073709551615) t10) fun t11=>PV (binN .quo a1 (.int .i64 64)) fun t13=>B_310_3 R a0 t11 t13 w
theorem c_310 (h:F_310 R a0 a1 w):Call Pg 310 #[a0,a1] w R:=ci o310 [3] [(3,[0,6,7])] h
theorem o311:OK 311 f311 20:=fo func311
def F_311 (R:RR) (a0 a1:Value) (w:World):Prop:=Call Pg 309 #[a0,.int .u32 0,a1] w fun t9 w_1=>PV (binN .neq t9 (.int .i64 0)) fun t11=>CND t11 (R (.tuple #[.slice none 0 0,t9]) w_1) (PV (nilV a0) fun t14=>PV (fldV 0 t14) fun t15=>L1 t15 w_1 fun t16=>Call Pg 227 #[t16,a1] w_1 fun t18 w_2=>Call Pg 344 #[t18] w_2 fun t19 w_3=>R (.tuple #[t19,.int .i64 0]) w_3)
theorem c_311 (h:F_311 R a0 a1 w):Call Pg 311 #[a0,a1] w R:=ci o311 [] [] h
theorem o312:OK 312 f312 42:=fo func312
def B_312_4 (R:RR) (s0 s1 s4 s5 s19 s20:Value) (w:World):Prop:=Blk Tryz.prog 312 f312 (cd f312) 42 R 4 [(0,s0),(1,s1),(4,s4),(5,s5),(19,s19),(20,s20)] [] w
def P_312_4 (R:RR) (s0 s1 s4 s5 s19 s20:Value) (w:World):Prop:=PV (binN .lss s20 s19) fun t21=>CND t21 (PV (convI .u32 s20) fun t26=>PV (idxS 1 s5 s20) fun t27=>S1 t27 t26 w fun w_1=>PV (binN .add s20 (.int .i64 1)) fun t28=>B_312_4 R s0 s1 s4 s5 s19 t28 w_1) (PV (nilV s0) fun t30=>PV (fldV 0 t30) fun t31=>L1 t31 w fun t32=>PV (binN .mul (.int .i64 2) s4) fun t35=>PV (convI .i64 s1) fun t37=>PV (binN .add t37 (.int .i64 1)) fun t38=>PV (maxV t35 t38) fun t39=>PV (minV (.int .i64 4194304) t39) fun t40=>Call Pg 339 #[t32,s5,t40] w fun t41 w_2=>R (.tuple #[]) w_2)
theorem B_312_4.intro (h:P_312_4 R s0 s1 s4 s5 s19 s20 w):B_312_4 R s0 s1 s4 s5 s19 s20 w:=bi o312 [4] [(4,[0,1,4,5,19,20])] h
def F_312 (R:RR) (a0 a1:Value) (w:World):Prop:=PV (nilV a0) fun t8=>PV (fldV 0 t8) fun t9=>L1 t9 w fun t10=>Call Pg 338 #[t10] w fun t11 w_1=>PV (convI .i64 a1) fun t13=>PV (binN .lss t13 t11) fun t15=>CND t15 (R (.tuple #[]) w_1) (MKS 114 4 (.int .u32 0) t11 t11 w_1 fun t17 w_2=>PV (lenS t17) fun t19=>B_312_4 R a0 a1 t11 t17 t19 (.int .i64 0) w_2)
theorem c_312 (h:F_312 R a0 a1 w):Call Pg 312 #[a0,a1] w R:=ci o312 [4] [(4,[0,1,4,5,19,20])] h
theorem o313:OK 313 f313 16:=fo func313
def F_313 (R:RR) (a0 a1:Value) (w:World):Prop:=PV (binN .quo a1 (.int .i64 64)) fun t6=>PV (nilV a0) fun t7=>PV (idxA 4 1 t7 t6) fun t8=>L1 t8 (World.drew w) fun t9=>PV (binN .rem a1 (.int .i64 64)) fun t11=>PV (binN .shl (.int .u64 1) t11) fun t12=>PV (binN .or t9 t12) fun t13=>PV (nilV a0) fun t14=>PV (idxA 4 1 t14 t6) fun t15=>S1 t15 t13 (World.drew w) fun w_1=>R (.tuple #[]) w_1
theorem c_313 (h:F_313 R a0 a1 w):Call Pg 313 #[a0,a1] w R:=ci o313 [] [] h
theorem o323:OK 323 f323 27:=fo func323
def F_323 (R:RR) (a0 a1:Value) (w:World):Prop:=Call Pg 309 #[a0,a1,.int .i64 0] w fun t11 w_1=>PV (binN .neq t11 (.int .i64 0)) fun t13=>CND t13 (R (.tuple #[.int .i64 0,t11]) w_1) (PV (nilV a0) fun t17=>PV (fldV 0 t17) fun t18=>L1 t18 w_1 fun t19=>Call Pg 282 #[t19,a1] w_1 fun t21 w_2=>PV (extV 0 t21) fun t22=>PV (extV 1 t21) fun t23=>PV (binN .neq t23 (.int .i64 0)) fun t25=>CND t25 (R (.tuple #[.int .i64 0,.int .i64 9]) w_2) (R (.tuple #[t22,.int .i64 0]) w_2))
theorem c_323 (h:F_323 R a0 a1 w):Call Pg 323 #[a0,a1] w R:=ci o323 [] [] h
theorem o324:OK 324 f324 16:=fo func324
def F_324 (R:RR) (a0 a1:Value) (w:World):Prop:=PV (binN .quo a1 (.int .i64 64)) fun t6=>PV (nilV a0) fun t7=>PV (idxA 4 1 t7 t6) fun t8=>L1 t8 (World.drew w) fun t9=>PV (binN .rem a1 (.int .i64 64)) fun t11=>PV (binN .shl (.int .u64 1) t11) fun t12=>PV (binN .andNot t9 t12) fun t13=>PV (nilV a0) fun t14=>PV (idxA 4 1 t14 t6) fun t15=>S1 t15 t13 (World.drew w) fun w_1=>R (.tuple #[]) w_1
theorem c_324 (h:F_324 R a0 a1 w):Call Pg 324 #[a0,a1] w R:=ci o324 [] [] h
theorem o325:OK 325 f325 19:=fo func325
def B_325_2 (R:RR) (s0 s1 s7 s8:Value) (w:World):Prop:=Blk Tryz.prog 325 f325 (cd f325) 19 R 2 [(0,s0),(1,s1),(7,s7),(8,s8)] [] w
def P_325_2 (R:RR) (s0 s1 s7 s8:Value) (w:World):Prop:=PV (binN .lss s8 s7) fun t9=>CND t9 (PV (idxS 2 s0 s8) fun t14=>LN 2 t14 w fun t15=>CallV Pg s1 #[t15] w fun t16 w_1=>CND t16 (R s8 w_1) (PV (binN .add s8 (.int .i64 1)) fun t18=>B_325_2 R s0 s1 s7 t18 w_1)) (R (.int .i64 (-1)) w)
theorem B_325_2.intro (h:P_325_2 R s0 s1 s7 s8 w):B_325_2 R s0 s1 s7 s8 w:=bi o325 [2] [(2,[0,1,7,8])] h
def F_325 (R:RR) (a0 a1:Value) (w:World):Prop:=PV (lenS a0) fun t7=>B_325_2 R a0 a1 t7 (.int .i64 0) w
theorem c_325 (h:F_325 R a0 a1 w):Call Pg 325 #[a0,a1] w R:=ci o325 [2] [(2,[0,1,7,8])] h
theorem o326:OK 326 f326 21:=fo func326
def F_326 (R:RR) (a0 a1:Value) (w:World):Prop:=Call Pg 350 #[a0,a1] w fun t8 w_1=>PV (binN .neq t8 (.int .i64 0)) fun t10=>CND t10 (R t8 w_1) (PV (nilV a0) fun t13=>PV (fldV 0 t13) fun t14=>L1 t14 w_1 fun t15=>PV (idxS 3 t15 a1) fun t17=>PV (fldV 2 t17) fun t18=>L1 t18 w_1 fun t19=>PV (binN .eql t19 (.int .u32 0)) fun t20=>CND t20 (R (.int .i64 9) w_1) (R (.int .i64 0) w_1))
theorem c_326 (h:F_326 R a0 a1 w):Call Pg 326 #[a0,a1] w R:=ci o326 [] [] h
theorem o327:OK 327 f327 17:=fo func327
def F_327 (R:RR) (a0 a1:Value) (w:World):Prop:=Call Pg 210 #[a0] w fun t7 w_1=>PV (unV .not t7) fun t8=>CND t8 (R (.int .i64 2) w_1) (PV (binN .lss a1 (.int .i64 0)) fun t11=>GRD t11 false w_1 (fun k=>k a1 w_1) fun t13 w_2=>GRD t11 false w_2 (fun k_1=>k_1 a0 w_2) fun t14 w_3=>GRD t11 false w_3 (fun k_2=>PV (binN .geq t13 t14) fun t15=>k_2 t15 w_3) fun t15_1 w_4=>PV (pickV t11 (.bool true) t15_1) fun t16=>CND t16 (R (.int .i64 3) w_4) (R (.int .i64 0) w_4))
theorem c_327 (h:F_327 R a0 a1 w):Call Pg 327 #[a0,a1] w R:=ci o327 [] [] h
theorem o328:OK 328 f328 18:=fo func328
def B_328_1 (R:RR) (s0 s2 s3 s6 s7:Value) (w:World):Prop:=Blk Tryz.prog 328 f328 (cd f328) 18 R 1 [(0,s0),(2,s2),(3,s3),(6,s6),(7,s7)] [] w
def P_328_1 (R:RR) (s0 s2 s3 s6 s7:Value) (w:World):Prop:=PV (binN .lss s7 s6) fun t8=>CND t8 (L1 s2 w fun t11=>L1 s3 w fun t12=>Call Pg 329 #[t11,t12,s7] w fun t14 w_1=>CallV Pg s0 #[t14] w_1 fun t15 w_2=>PV (unV .not t15) fun t16=>CND t16 (R (.tuple #[]) w_2) (PV (binN .add s7 (.int .i64 1)) fun t17=>B_328_1 R s0 s2 s3 s6 t17 w_2)) (R (.tuple #[]) w)
theorem B_328_1.intro (h:P_328_1 R s0 s2 s3 s6 s7 w):B_328_1 R s0 s2 s3 s6 s7 w:=bi o328 [1] [(1,[0,2,3,6,7])] h
def F_328 (R:RR) (a0 a1 a2 a3:Value) (w:World):Prop:=L1 a1 w fun t6=>B_328_1 R a0 a2 a3 t6 (.int .i64 0) w
theorem c_328 (h:F_328 R a0 a1 a2 a3 w):Call Pg 328 #[a0,a1,a2,a3] w R:=ci o328 [1] [(1,[0,2,3,6,7])] h
theorem o329:OK 329 f329 20:=fo func329
def F_329 (R:RR) (a0 a1 a2:Value) (w:World):Prop:=PV (binN .add a2 (.int .i64 1)) fun t10=>PV (binN .mul a2 t10) fun t11=>PV (binN .quo t11 (.int .i64 2)) fun t12=>PV (convI .u64 t12) fun t13=>PV (binN .add a0 t13) fun t14=>PV (binN .sub a1 (.int .i64 1)) fun t16=>PV (convI .u64 t16) fun t17=>PV (binN .and t14 t17) fun t18=>PV (convI .i64 t18) fun t19=>R t19 w
theorem c_329 (h:F_329 R a0 a1 a2 w):Call Pg 329 #[a0,a1,a2] w R:=ci o329 [] [] h
theorem o330:OK 330 f330 16:=fo func330
def B_330_1 (R:RR) (s0 s3:Value) (w:World):Prop:=Blk Tryz.prog 330 f330 (cd f330) 16 R 1 [(0,s0),(3,s3)] [] w
def P_330_1 (R:RR) (s0 s3:Value) (w:World):Prop:=PV (binN .neq s3 (.int .u8 0)) fun t6=>CND t6 (Call Pg 331 #[s3] w fun t13 w_1=>CallV Pg s0 #[t13] w_1 fun t14 w_2=>PV (unV .not t14) fun t15=>CND t15 (R (.tuple #[]) w_2) (PV (binN .sub s3 (.int .u8 1)) fun t9=>PV (binN .and s3 t9) fun t10=>B_330_1 R s0 t10 w_2)) (R (.tuple #[]) w)
theorem B_330_1.intro (h:P_330_1 R s0 s3 w):B_330_1 R s0 s3 w:=bi o330 [1] [(1,[0,3])] h
def F_330 (R:RR) (a0 a1:Value) (w:World):Prop:=L1 a1 w fun t4=>B_330_1 R a0 t4 w
theorem c_330 (h:F_330 R a0 a1 w):Call Pg 330 #[a0,a1] w R:=ci o330 [1] [(1,[0,3])] h
theorem o331:OK 331 f331 5:=fo func331
def F_331 (R:RR) (a0:Value) (w:World):Prop:=Call Pg 351 #[a0] w fun t4 w_1=>R t4 w_1
theorem c_331 (h:F_331 R a0 w):Call Pg 331 #[a0] w R:=ci o331 [] [] h
theorem o332:OK 332 f332 9:=fo func332
def F_332 (R:RR) (a0:Value) (w:World):Prop:=Call Pg 335 #[a0] w fun t4 w_1=>Call Pg 290 #[a0] w_1 fun t6 w_2=>PV (binN .or t4 t6) fun t7=>PV (binN .eql t7 (.int .u8 255)) fun t8=>R t8 w_2
theorem c_332 (h:F_332 R a0 w):Call Pg 332 #[a0] w R:=ci o332 [] [] h
theorem o333:OK 333 f333 6:=fo func333
def F_333 (R:RR) (a0:Value) (w:World):Prop:=PV (binN .andNot a0 (.int .u64 9187201950435737471)) fun t4=>Call Pg 334 #[t4] w fun t5 w_1=>R t5 w_1
theorem c_333 (h:F_333 R a0 w):Call Pg 333 #[a0] w R:=ci o333 [] [] h
theorem o334:OK 334 f334 8:=fo func334
def F_334 (R:RR) (a0:Value) (w:World):Prop:=PV (binN .shr a0 (.int .u64 7)) fun t4=>PV (binN .mul t4 (.int .u64 72624976668147840)) fun t5=>PV (binN .shr t5 (.int .u64 56)) fun t6=>PV (convI .u8 t6) fun t7=>R t7 w
theorem c_334 (h:F_334 R a0 w):Call Pg 334 #[a0] w R:=ci o334 [] [] h
theorem o335:OK 335 f335 8:=fo func335
def F_335 (R:RR) (a0:Value) (w:World):Prop:=Call Pg 235 #[a0] w fun t4 w_1=>Call Pg 292 #[a0,.int .u8 254] w_1 fun t6 w_2=>PV (binN .or t4 t6) fun t7=>R t7 w_2
theorem c_335 (h:F_335 R a0 w):Call Pg 335 #[a0] w R:=ci o335 [] [] h
theorem o336:OK 336 f336 31:=fo func336
def F_336 (R:RR) (a0 a1 a2:Value) (w:World):Prop:=PV (binN .gtr a2 (.int .u8 127)) fun t10=>GRD t10 true w (fun k=>k a2 w) fun t12 w_1=>GRD t10 true w_1 (fun k_1=>PV (binN .neq t12 (.int .u8 128)) fun t13=>k_1 t13 w_1) fun t13_1 w_2=>PV (pickV t10 t13_1 (.bool false)) fun t14=>GRD t14 true w_2 (fun k_2=>k_2 a2 w_2) fun t16 w_3=>GRD t14 true w_3 (fun k_3=>PV (binN .neq t16 (.int .u8 254)) fun t17=>k_3 t17 w_3) fun t17_1 w_4=>PV (pickV t14 t17_1 (.bool false)) fun t18=>CND t18 (R (.tuple #[.int .u64 0,.int .i64 2]) w_4) (Call Pg 289 #[a0,a1] w_4 fun t21 w_5=>PV (binN .neq t21 (.int .i64 0)) fun t23=>CND t23 (R (.tuple #[.int .u64 0,t21]) w_5) (Call Pg 291 #[a0,a1,a2] w_5 fun t28 w_6=>PV (extV 0 t28) fun t29=>PV (extV 1 t28) fun t30=>R (.tuple #[t29,t30]) w_6))
theorem c_336 (h:F_336 R a0 a1 a2 w):Call Pg 336 #[a0,a1,a2] w R:=ci o336 [] [] h
theorem o337:OK 337 f337 12:=fo func337
def F_337 (R:RR) (a0:Value) (w:World):Prop:=PV (binB (.ptr 352) .eql a0 (.pointer none)) fun t4=>GRD t4 false w (fun k=>k a0 w) fun t6 w_1=>GRD t4 false w_1 (fun k_1=>PV (nilV t6) fun t7=>k_1 t7 w_1) fun t7_1 w_2=>GRD t4 false w_2 (fun k_2=>PV (fldV 0 t7_1) fun t8=>k_2 t8 w_2) fun t8_1 w_3=>GRD t4 false w_3 (fun k_3=>L1 t8_1 w_3 fun t9=>k_3 t9 w_3) fun t9_1 w_4=>GRD t4 false w_4 (fun k_4=>PV (binB (.slice 356) .eql t9_1 (.slice none 0 0)) fun t10=>k_4 t10 w_4) fun t10_1 w_5=>PV (pickV t4 (.bool true) t10_1) fun t11=>R t11 w_5
theorem c_337 (h:F_337 R a0 w):Call Pg 337 #[a0] w R:=ci o337 [] [] h
theorem o338:OK 338 f338 9:=fo func338
def F_338 (R:RR) (a0:Value) (w:World):Prop:=Call Pg 337 #[a0] w fun t4 w_1=>CND t4 (R (.int .i64 0) w_1) (PV (nilV a0) fun t6=>PV (fldV 1 t6) fun t7=>L1 t7 w_1 fun t8=>R t8 w_1)
theorem c_338 (h:F_338 R a0 w):Call Pg 338 #[a0] w R:=ci o338 [] [] h
theorem o339:OK 339 f339 66:=fo func339
def B_339_7 (R:RR) (s0 s1 s7 s39 s40:Value) (w:World):Prop:=Blk Tryz.prog 339 f339 (cd f339) 66 R 7 [(0,s0),(1,s1),(7,s7),(39,s39),(40,s40)] [] w
def B_339_10 (R:RR) (s0 s1 s7 s9 s39 s40 s45 s46 s47:Value) (w:World):Prop:=Blk Tryz.prog 339 f339 (cd f339) 66 R 10 [(0,s0),(1,s1),(7,s7),(9,s9),(39,s39),(40,s40),(45,s45),(46,s46),(47,s47)] [] w
def P_339_7 (R:RR) (s0 s1 s7 s39 s40:Value) (w:World):Prop:=PV (binN .lss s40 s39) fun t41=>CND t41 (Call Pg 280 #[s0,s40] w fun t45 w_1=>PV (lenS t45) fun t46=>B_339_10 R s0 s1 s7 s40 s39 s40 t45 t46 (.int .i64 0) w_1) (PV (nilV s7) fun t63=>LN 3 t63 w fun t64=>PV (nilV s0) fun t65=>SN 3 t65 t64 w fun w_2=>R (.int .i64 0) w_2)
theorem B_339_7.intro (h:P_339_7 R s0 s1 s7 s39 s40 w):B_339_7 R s0 s1 s7 s39 s40 w:=bi o339 [7,10] [(7,[0,1,7,39,40]),(10,[0,1,7,9,39,40,45,46,47])] h
def P_339_10 (R:RR) (s0 s1 s7 s9 s39 s40 s45 s46 s47:Value) (w:World):Prop:=PV (binN .lss s47 s46) fun t48=>CND t48 (PV (idxS 1 s45 s47) fun t49=>L1 t49 w fun t50=>PV (idxS 1 s1 t50) fun t55=>L1 t55 w fun t56=>Call Pg 304 #[s7,s9,t56] w fun t57 w_1=>PV (binN .neq t57 (.int .i64 0)) fun t58=>CND t58 (R (.int .i64 2) w_1) (PV (binN .add s47 (.int .i64 1)) fun t59=>B_339_10 R s0 s1 s7 s9 s39 s40 s45 s46 t59 w_1)) (PV (binN .add s40 (.int .i64 1)) fun t60=>B_339_7 R s0 s1 s7 s39 t60 w)
theorem B_339_10.intro (h:P_339_10 R s0 s1 s7 s9 s39 s40 s45 s46 s47 w):B_339_10 R s0 s1 s7 s9 s39 s40 s45 s46 s47 w:=bi o339 [7,10] [(7,[0,1,7,39,40]),(10,[0,1,7,9,39,40,45,46,47])] h
def F_339 (R:RR) (a0 a1 a2:Value) (w:World):Prop:=Call Pg 337 #[a0] w fun t13 w_1=>CND t13 (R (.int .i64 1) w_1) (PV (nilV a0) fun t17=>PV (fldV 2 t17) fun t18=>L1 t18 w_1 fun t19=>PV (lenS t19) fun t20=>Call Pg 209 #[a2,t20] w_1 fun t21 w_2=>PV (extV 0 t21) fun t22=>PV (extV 1 t21) fun t23=>PV (binN .neq t23 (.int .i64 0)) fun t25=>GRD t25 false w_2 (fun k=>k a1 w_2) fun t27 w_3=>GRD t25 false w_3 (fun k_1=>PV (lenS t27) fun t28=>k_1 t28 w_3) fun t28_1 w_4=>GRD t25 false w_4 (fun k_2=>k_2 a0 w_4) fun t29 w_5=>GRD t25 false w_5 (fun k_3=>PV (nilV t29) fun t30=>k_3 t30 w_5) fun t30_1 w_6=>GRD t25 false w_6 (fun k_4=>PV (fldV 1 t30_1) fun t31=>k_4 t31 w_6) fun t31_1 w_7=>GRD t25 false w_7 (fun k_5=>L1 t31_1 w_7 fun t32=>k_5 t32 w_7) fun t32_1 w_8=>GRD t25 false w_8 (fun k_6=>PV (binN .neq t28_1 t32_1) fun t33=>k_6 t33 w_8) fun t33_1 w_9=>PV (pickV t25 (.bool true) t33_1) fun t34=>CND t34 (R (.int .i64 2) w_9) (PV (nilV a0) fun t36=>PV (fldV 2 t36) fun t37=>L1 t37 w_9 fun t38=>PV (lenS t38) fun t39=>B_339_7 R a0 a1 t22 t39 (.int .i64 0) w_9))
theorem c_339 (h:F_339 R a0 a1 a2 w):Call Pg 339 #[a0,a1,a2] w R:=ci o339 [7,10] [(7,[0,1,7,39,40]),(10,[0,1,7,9,39,40,45,46,47])] h
theorem o340:OK 340 f340 19:=fo func340
def B_340_3 (R:RR) (s3 s8 s9:Value) (w:World):Prop:=Blk Tryz.prog 340 f340 (cd f340) 19 R 3 [(3,s3),(8,s8),(9,s9)] [] w
def P_340_3 (R:RR) (s3 s8 s9:Value) (w:World):Prop:=PV (binN .lss s9 s8) fun t10=>CND t10 (PV (convI .u32 s9) fun t15=>PV (idxS 1 s3 s9) fun t16=>S1 t16 t15 w fun w_1=>PV (binN .add s9 (.int .i64 1)) fun t17=>B_340_3 R s3 s8 t17 w_1) (R s3 w)
theorem B_340_3.intro (h:P_340_3 R s3 s8 s9 w):B_340_3 R s3 s8 s9 w:=bi o340 [3] [(3,[3,8,9])] h
def F_340 (R:RR) (a0:Value) (w:World):Prop:=MKS 114 4 (.int .u32 0) a0 a0 w fun t6 w_1=>PV (lenS t6) fun t8=>B_340_3 R t6 t8 (.int .i64 0) w_1
theorem c_340 (h:F_340 R a0 w):Call Pg 340 #[a0] w R:=ci o340 [3] [(3,[3,8,9])] h
theorem o341:OK 341 f341 49:=fo func341
def F_341 (R:RR) (a0 a1 a2 a3:Value) (w:World):Prop:=Call Pg 301 #[a0,a1] w fun t14 w_1=>PV (binN .neq t14 (.int .i64 0)) fun t16=>CND t16 (R t14 w_1) (Call Pg 350 #[a0,a2] w_1 fun t20 w_2=>PV (binN .neq t20 (.int .i64 0)) fun t22=>CND t22 (R t20 w_2) (PV (nilV a0) fun t25=>PV (fldV 0 t25) fun t26=>L1 t26 w_2 fun t27=>PV (idxS 3 t27 a2) fun t29=>PV (fldV 2 t29) fun t30=>L1 t30 w_2 fun t31=>PV (binN .neq t31 (.int .u32 0)) fun t32=>CND t32 (R (.int .i64 11) w_2) (Call Pg 264 #[a1,a0] w_2 fun t35 w_3=>CND a3 (PV (nilV a0) fun t38=>PV (fldV 0 t38) fun t39=>L1 t39 w_3 fun t40=>PV (idxS 3 t40 t35) fun t42=>PV (fldV 1 t42) fun t43=>L1 t43 w_3 fun t44=>Call Pg 352 #[a0,a2,t44] w_3 fun t48 w_4=>R (.int .i64 0) w_4) (Call Pg 352 #[a0,a2,t35] w_3 fun t48_1 w_5=>R (.int .i64 0) w_5))))
theorem c_341 (h:F_341 R a0 a1 a2 a3 w):Call Pg 341 #[a0,a1,a2,a3] w R:=ci o341 [] [] h
theorem o342:OK 342 f342 5:=fo func342
def F_342 (R:RR) (a0:Value) (w:World):Prop:=PV (binN .mul (.int .i64 7) a0) fun t4=>R t4 w
theorem c_342 (h:F_342 R a0 w):Call Pg 342 #[a0] w R:=ci o342 [] [] h
theorem o343:OK 343 f343 14:=fo func343
def F_343 (R:RR) (a0:Value) (w:World):Prop:=PV (binN .eql a0 (.int .u64 0)) fun t4=>CND t4 (R (.int .i64 64) w) (PV (unV .neg a0) fun t7=>PV (binN .and a0 t7) fun t8=>PV (binN .mul t8 (.int .u64 285870213051353865)) fun t9=>PV (binN .shr t9 (.int .u64 58)) fun t10=>PV (idxA 64 1 (.pointer (some ⟨1,0,none⟩)) t10) fun t11=>L1 t11 w fun t12=>PV (convI .i64 t12) fun t13=>R t13 w)
theorem c_343 (h:F_343 R a0 w):Call Pg 343 #[a0] w R:=ci o343 [] [] h
theorem o344:OK 344 f344 5:=fo func344
def F_344 (R:RR) (a0:Value) (w:World):Prop:=Call Pg 353 #[.slice none 0 0,a0] w fun t4 w_1=>R t4 w_1
theorem c_344 (h:F_344 R a0 w):Call Pg 344 #[a0] w R:=ci o344 [] [] h
theorem o350:OK 350 f350 16:=fo func350
def F_350 (R:RR) (a0 a1:Value) (w:World):Prop:=Call Pg 337 #[a0] w fun t7 w_1=>CND t7 (R (.int .i64 1) w_1) (PV (convI .i64 a1) fun t10=>PV (nilV a0) fun t12=>PV (fldV 1 t12) fun t13=>L1 t13 w_1 fun t14=>PV (binN .geq t10 t14) fun t15=>CND t15 (R (.int .i64 2) w_1) (R (.int .i64 0) w_1))
theorem c_350 (h:F_350 R a0 a1 w):Call Pg 350 #[a0,a1] w R:=ci o350 [] [] h
theorem o351:OK 351 f351 6:=fo func351
def F_351 (R:RR) (a0:Value) (w:World):Prop:=PV (idxStr (.string ⟨#[8,0,1,0,2,0,1,0,3,0,1,0,2,0,1,0,4,0,1,0,2,0,1,0,3,0,1,0,2,0,1,0,5,0,1,0,2,0,1,0,3,0,1,0,2,0,1,0,4,0,1,0,2,0,1,0,3,0,1,0,2,0,1,0,6,0,1,0,2,0,1,0,3,0,1,0,2,0,1,0,4,0,1,0,2,0,1,0,3,0,1,0,2,0,1,0,5,0,1,0,2,0,1,0,3,0,1,0,2,0,1,0,4,0,1,0,2,0,1,0,3,0,1,0,2,0,1,0,7,0,1,0,2,0,1,0,3,0,1,0,2,0,1,0,4,0,1,0,2,0,1,0,3,0,1,0,2,0,1,0,5,0,1,0,2,0,1,0,3,0,1,0,2,0,1,0,4,0,1,0,2,0,1,0,3,0,1,0,2,0,1,0,6,0,1,0,2,0,1,0,3,0,1,0,2,0,1,0,4,0,1,0,2,0,1,0,3,0,1,0,2,0,1,0,5,0,1,0,2,0,1,0,3,0,1,0,2,0,1,0,4,0,1,0,2,0,1,0,3,0,1,0,2,0,1,0]⟩) a0) fun t4=>PV (convI .i64 t4) fun t5=>R t5 w
theorem c_351 (h:F_351 R a0 w):Call Pg 351 #[a0] w R:=ci o351 [] [] h
theorem o352:OK 352 f352 65:=fo func352
def F_352 (R:RR) (a0 a1 a2:Value) (w:World):Prop:=PV (nilV a0) fun t8=>PV (fldV 0 t8) fun t9=>L1 t9 w fun t10=>PV (idxS 3 t10 a2) fun t12=>PV (fldV 0 t12) fun t13=>L1 t13 w fun t14=>PV (nilV a0) fun t16=>PV (fldV 0 t16) fun t17=>L1 t17 (World.drew w) fun t18=>PV (nilV a0) fun t23=>PV (fldV 0 t23) fun t24=>L1 t24 (World.drew w) fun t25=>PV (idxS 3 t25 a2) fun t27=>PV (fldV 2 t27) fun t28=>L1 t28 (World.drew w) fun t29=>PV (buildV [(0,1),(1,1),(2,1)] (.agg #[.int .u32 0,.int .u32 0,.int .u32 0]) [(0,t14),(1,a2),(2,t29)]) fun t30=>PV (idxS 3 t18 a1) fun t31=>SN 3 t31 t30 (World.drew w) fun w_1=>PV (nilV a0) fun t33=>PV (fldV 0 t33) fun t34=>L1 t34 (World.drew w_1) fun t35=>PV (nilV a0) fun t38=>PV (fldV 0 t38) fun t39=>L1 t39 (World.drew w_1) fun t40=>PV (idxS 3 t35 t14) fun t44=>PV (fldV 1 t44) fun t45=>S1 t45 a1 (World.drew w_1) fun w_2=>PV (idxS 3 t40 a2) fun t46=>PV (fldV 0 t46) fun t47=>S1 t47 a1 w_2 fun w_3=>PV (nilV a0) fun t49=>PV (fldV 2 t49) fun t50=>L1 t50 (World.drew w_3) fun t51=>PV (nilV a0) fun t53=>PV (fldV 0 t53) fun t54=>L1 t54 (World.drew w_3) fun t55=>PV (idxS 3 t55 a1) fun t57=>PV (fldV 2 t57) fun t58=>L1 t58 (World.drew w_3) fun t59=>PV (binN .sub t59 (.int .u32 1)) fun t60=>PV (idxS 1 t51 t60) fun t61=>L1 t61 (World.drew w_3) fun t62=>PV (binN .add t62 (.int .i64 1)) fun t63=>PV (idxS 1 t51 t60) fun t64=>S1 t64 t63 (World.drew w_3) fun w_4=>R (.tuple #[]) w_4
theorem c_352 (h:F_352 R a0 a1 a2 w):Call Pg 352 #[a0,a1,a2] w R:=ci o352 [] [] h
theorem o353:OK 353 f353 13:=fo func353
def par_353_3:Array Tmp:=#[7]
noncomputable def as_353_3:Code:=rfAs 3 (cd f353)
noncomputable def bd_353_3:Code:=rfBody 3 (cd f353)
theorem rd_353_3:RdOk 13 [7] as_353_3 bd_353_3:=⟨by kernel_rfl,by kernel_rfl,by kernel_rfl,by kernel_rfl,by kernel_rfl⟩
def D_353_3 (R:RR) (l:Nat) (s2 x7:Value) (w:World):Prop:=BR l w fun w_1=>L1 s2 w_1 fun t8=>NEWS 114 1 (buildS 1 (.int .u32 0) 1 [(0,x7)]) w_1 fun t10 w_2=>APP 114 1 4 (.int .u32 0) t8 t10 w_2 fun t11 w_3=>S1 s2 t11 w_3 fun w_4=>ER l none w_4 R
theorem y_353_3 {R:RR} {l:Nat} {s2 x7:Value} {w:World} {r:Loop} (hl:w.heap[l]?=some (.loop r)) (hf:r.fn=353) (hp:r.params=par_353_3) (ha:r.assign=as_353_3) (hb:r.body=bd_353_3) (hn:r.tmps.size=13)
  (hlive:∀x∈([(2,s2)]:List (Nat×Value)),r.tmps.getD x.1 undef=x.2) (h:D_353_3 R l s2 x7 w):CallV Pg (.func (.yield l) #[] #[]) #[x7] w R:=
 yield_intro Tryz.tabOk Tryz.calOk Tryz.mixed rd_353_3 (L:=[(3,[2])]) (by kernel_rfl) (ps:=[7]) (args:=[x7]) hl hf hp ha hb hn hlive rfl (Q:=D_353_3 R l s2 x7 w) (fun d=>by kernel_rfl) h
def F_353 (R:RR) (a0 a1:Value) (w:World):Prop:=NEW 112 (Value.cells a0) w fun t2 w_1=>RF Pg 353 none 13 [(2,t2)] a1 par_353_3 as_353_3 bd_353_3 ([]) w_1 fun j df_1 w_2=>JMP j (L1 t2 w_2 fun t12=>RET Pg df_1 w_2 fun w_3=>R t12 w_3) (fun id=>exM id 0 (L1 t2 w_2 fun t12_1=>RET Pg df_1 w_2 fun w_4=>R t12_1 w_4) (False)) (RET Pg df_1 w_2 fun w_5=>R (.slice none 0 0) w_5)
theorem c_353 (h:F_353 R a0 a1 w):Call Pg 353 #[a0,a1] w R:=ci o353 [] [(3,[2])] h
end Go.Cub
