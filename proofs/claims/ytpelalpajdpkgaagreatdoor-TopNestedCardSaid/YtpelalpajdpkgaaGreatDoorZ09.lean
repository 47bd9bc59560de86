/-
  Part 10 of the proof that TopNested returns true and leaves what it was given as it was. CONDITIONS: those of the given row and card.
-/
import Derived.Test.YtpelalpajdpkgaaGreatDoorZ05
import Derived.Test.YtpelalpajdpkgaaGreatDoorZ08
import Derived.Test.YtpelalpajdpkgaaGreatDoorChecked
import Derived.KernelRfl
set_option linter.all false
namespace Go.Cub
open Go Go.IntWalk
theorem drew_L1 (t:Value) (w:World) (K:Value→Prop):L1 t w.drew K=L1 t w K:=rfl
theorem drew_cellsAt (w:World) (a:Addr) (i n:Nat):w.drew.cellsAt? a i n=w.cellsAt? a i n:=by
 induction n generalizing i with
 |zero=>rfl
 |succ n ih=>simp only[World.cellsAt?,ih];rfl
theorem drew_LN (n:Nat) (t:Value) (w:World) (K:Value→Prop):LN n t w.drew K=LN n t w K:=by
 unfold LN
 simp only[drew_cellsAt]
theorem drew_LK (d:TD) (ok:Bool) (z m k:Value) (w:World) (K:Value→Prop):LK d ok z m k w.drew K=LK d ok z m k w K:=rfl
theorem wp:
  (∀v K,PV (some v) K=K v)∧(∀A B,CND (.bool true) A B=A)∧(∀A B,CND (.bool false) A B=B)∧
  (∀w ex K,GRD (.bool true) true w ex K=ex K)∧(∀w ex K,GRD (.bool false) false w ex K=ex K)∧(∀w ex K,GRD (.bool true) false w ex K=K undef w)∧(∀w ex K,GRD (.bool false) true w ex K=K undef w)∧
  (∀a b,pickV (.bool true) a b=some a)∧(∀a b,pickV (.bool false) a b=some b)∧(∀a,nilV (.pointer (some a))=some (.pointer (some a)))∧
  (∀a b,extV 0 (.tuple #[a,b])=some a)∧(∀a b,extV 1 (.tuple #[a,b])=some b)∧(∀a b c,extV 0 (.tuple #[a,b,c])=some a)∧(∀a b c,extV 1 (.tuple #[a,b,c])=some b)∧(∀a b c,extV 2 (.tuple #[a,b,c])=some c)∧
  (∀off b o,fldV off (.pointer (some ⟨b,o,none⟩))=some (.pointer (some ⟨b,o+off,none⟩)))∧(∀o k v i j,fldV o (elp k v i j)=some (elp k v i (j+o)))∧(∀k v i j,nilV (elp k v i j)=some (elp k v i j))∧
  (∀off size (cs:Array Value),partV false off size (.agg cs)=cs[off]?)∧(∀off size (cs:Array Value),partV true off size (.agg cs)=some (.agg (cs.extract off (off+size))))∧
  (∀a n c,lenS (.slice a n c)=some (.int .i64 n))∧(∀s,lenStr (.string s)=some (.int .i64 s.size))∧
  (∀b,unV .not (.bool b)=some (.bool !b))∧(∀s,convS (.string s)=some (.string s))∧(∀k k' n,convI k (.int k' n)=some (.int k (k.wrap n)))∧
  (∀k k' x y,maxV (.int k x) (.int k' y)=some (.int k (if y>x then y else x)))∧(∀k k' x y,minV (.int k x) (.int k' y)=some (.int k (if y<x then y else x)))∧
  (∀k a b,binN .add (.int k a) (.int k b)=some (.int k (k.wrap (a+b))))∧(∀k a b,binN .sub (.int k a) (.int k b)=some (.int k (k.wrap (a - b))))∧(∀k a b,binN .mul (.int k a) (.int k b)=some (.int k (k.wrap (a * b))))∧
  (∀k a b,binN .eql (.int k a) (.int k b)=some (.bool (decide (a=b))))∧(∀k a b,binN .neq (.int k a) (.int k b)=some (.bool (decide (¬a=b))))∧
  (∀k a b,binN .lss (.int k a) (.int k b)=some (.bool (decide (a<b))))∧(∀k a b,binN .leq (.int k a) (.int k b)=some (.bool (decide (a≤b))))∧
  (∀k a b,binN .gtr (.int k a) (.int k b)=some (.bool (decide (b<a))))∧(∀k a b,binN .geq (.int k a) (.int k b)=some (.bool (decide (b≤a))))∧
  (∀k a b,binN .and (.int k a) (.int k b)=some (.int k (bitI .and k a b)))∧(∀k a b,binN .or (.int k a) (.int k b)=some (.int k (bitI .or k a b)))∧
  (∀k a b,binN .xor (.int k a) (.int k b)=some (.int k (bitI .xor k a b)))∧(∀k a b,binN .andNot (.int k a) (.int k b)=some (.int k (bitI .andNot k a b)))∧
  (∀s t,binB .string .eql (.string s) (.string t)=some (.bool (decide (s=t))))∧(∀s t,binB .string .neq (.string s) (.string t)=some (.bool (decide (¬s=t))))∧
  (∀e a,binB (.ptr e) .eql (.pointer a) (.pointer none)=some (.bool a.isNone))∧(∀e a,binB (.ptr e) .neq (.pointer a) (.pointer none)=some (.bool a.isSome))∧
  (∀e a n c,binB (.slice e) .eql (.slice a n c) (.slice none 0 0)=some (.bool a.isNone))∧(∀e a n c,binB (.slice e) .neq (.slice a n c) (.slice none 0 0)=some (.bool a.isSome))∧
  (∀k e a,binB (.map k e) .eql (.map a) (.map none)=some (.bool a.isNone))∧
  (∀f a b,binB .func .eql (.func f a b) .nilFunc=some (.bool false))∧(∀f a b,binB .func .neq (.func f a b) .nilFunc=some (.bool true))∧
  (∀ {α:Type} (a:α),Option.isNone (some a)=false)∧(∀ {α:Type} (a:α),Option.isSome (some a)=true)∧(∀ {α:Type},Option.isNone (none:Option α)=true)∧(∀ {α:Type},Option.isSome (none:Option α)=false)∧
  (∀t w K,L1 t w.drew K=L1 t w K)∧(∀n t w K,LN n t w.drew K=LN n t w K)∧(∀d ok z m k w K,LK d ok z m k w.drew K=LK d ok z m k w K)∧
  (∀s,Value.cells (.string s)=#[.string s])∧(∀k n,Value.cells (.int k n)=#[.int k n])∧(∀b,Value.cells (.bool b)=#[.bool b])∧(∀a,Value.cells (.pointer a)=#[.pointer a])∧(∀a n c,Value.cells (.slice a n c)=#[.slice a n c])∧(∀r,Value.cells (.map r)=#[.map r])∧
  (∀f a b,Value.cells (.func f a b)=#[.func f a b])∧(∀cs,Value.cells (.agg cs)=cs)∧(∀k v i j,Value.cells (elp k v i j)=#[elp k v i j])∧
  (∀n:Nat,0+n=n)∧(∀n:Nat,n+0=n)∧(∀b,(!(!b))=b)∧((!true)=false)∧((!false)=true)∧(∀(d:Decidable True), @decide True d=true)∧(∀(d:Decidable False), @decide False d=false)∧((¬True)=False)∧((¬False)=True)∧(∀p:Prop,(True∧p)=p)∧(∀p:Prop,(p∧True)=p)∧(∀ {α:Type} (a:α),(a=a)=True)∧(∀ {α:Type},([]:List α).length=0)∧(∀b w ex K,GRD undef b w ex K=K undef w):=by
 refine⟨fun _ _=>rfl,fun _ _=>rfl,fun _ _=>rfl,fun _ _ _=>rfl,fun _ _ _=>rfl,fun _ _ _=>rfl,fun _ _ _=>rfl,fun _ _=>rfl,fun _ _=>rfl,fun _=>rfl,
  fun _ _=>rfl,fun _ _=>rfl,fun _ _ _=>rfl,fun _ _ _=>rfl,fun _ _ _=>rfl,fldV_some,fldV_elp,fun _ _ _ _=>rfl,fun _ _ _=>rfl,fun _ _ _=>rfl,fun _ _ _=>rfl,fun _=>rfl,
  fun _=>rfl,fun _=>rfl,fun _ _ _=>rfl,fun _ _ _ _=>rfl,fun _ _ _ _=>rfl,binN_add,binN_sub,binN_mul,binN_eql,binN_neq,binN_lss,binN_leq,binN_gtr,binN_geq,binN_and,binN_or,binN_xor,binN_andNot,
  fun _ _=>rfl,fun _ _=>rfl,binB_ptr_eql,binB_ptr_neq,binB_slice_eql,binB_slice_neq,binB_map_eql,fun _ _ _=>rfl,fun _ _ _=>rfl,fun _=>rfl,fun _=>rfl,rfl,rfl,drew_L1,drew_LN,drew_LK,
  fun _=>rfl,fun _ _=>rfl,fun _=>rfl,fun _=>rfl,fun _ _ _=>rfl,fun _=>rfl,fun _ _ _=>rfl,fun _=>rfl,fun _ _ _ _=>rfl,Nat.zero_add,Nat.add_zero,Bool.not_not,rfl,rfl,fun d=>by simp,fun d=>by simp,by simp,by simp,by simp,by simp,by simp,rfl,fun _ _ _ _=>rfl⟩
theorem idxA_int {m s b off:Nat} {kd:IntKind} {z:Int} (h:0≤z∧z<m):idxA m s (.pointer (some ⟨b,off,none⟩)) (.int kd z)=some (.pointer (some ⟨b,off+z.toNat * s,none⟩)):=by
 obtain⟨i,rfl⟩:=Int.eq_ofNat_of_zero_le h.1
 rw[idxA_ptr (by omega)];rfl
theorem idxA_elpI {k m s j l:Nat} {v:Value} {kd:IntKind} {z:Int} (h:0≤z∧z<m):idxA m s (elp k v l j) (.int kd z)=some (elp k v l (j+z.toNat * s)):=by
 obtain⟨i,rfl⟩:=Int.eq_ofNat_of_zero_le h.1
 rw[idxA_elp (by omega)];rfl
theorem binN_shl' {k k':IntKind} {a b:Int} (h:0≤b):binN .shl (.int k a) (.int k' b)=some (.int k (k.wrap (a * 2^(min b.toNat k.bits)))):=binN_shl k a b k' h
theorem binN_shr' {k k':IntKind} {a b:Int} (h:0≤b):binN .shr (.int k a) (.int k' b)=some (.int k (a.fdiv (2^(min b.toNat k.bits)))):=binN_shr k a b k' h
theorem wc:
  (∀n:Int, -9223372036854775808≤n∧n≤9223372036854775807→IntKind.i64.wrap n=n)∧(∀n:Int,0≤n∧n≤18446744073709551615→IntKind.u64.wrap n=n)∧
  (∀n:Int,0≤n∧n≤4294967295→IntKind.u32.wrap n=n)∧(∀n:Int,0≤n∧n≤255→IntKind.u8.wrap n=n)∧
  (∀(p:Prop) (d:Decidable p),p→ @decide p d=true)∧(∀(p:Prop) (d:Decidable p),¬p→ @decide p d=false)∧
  (∀m s b off kd (z:Int),0≤z∧z<(m:Nat)→idxA m s (.pointer (some ⟨b,off,none⟩)) (.int kd z)=some (.pointer (some ⟨b,off+z.toNat * s,none⟩)))∧
  (∀k v l j m s kd (z:Int),0≤z∧z<(m:Nat)→idxA m s (elp k v l j) (.int kd z)=some (elp k v l (j+z.toNat * s)))∧
  (∀n:Nat,Int.toNat (n:Int)=n)∧
  (∀k k' (a b:Int),0≤b→binN .shl (.int k a) (.int k' b)=some (.int k (k.wrap (a * 2^(min b.toNat k.bits)))))∧
  (∀k k' (a b:Int),0≤b→binN .shr (.int k a) (.int k' b)=some (.int k (a.fdiv (2^(min b.toNat k.bits)))))∧
  (∀k (a b:Int),¬b=0→binN .rem (.int k a) (.int k b)=some (.int k (a.tmod b)))∧(∀k (a b:Int),¬b=0→binN .quo (.int k a) (.int k b)=some (.int k (k.wrap (a.tdiv b)))):=
 ⟨i64_in,u64_in,u32_in,u8_in,fun p d h=>by simp[h],fun p d h=>by simp[h],fun _ _ _ _ _ _ h=>idxA_int h,fun _ _ _ _ _ _ _ _ h=>idxA_elpI h,Int.toNat_natCast,fun _ _ _ _ h=>binN_shl' h,fun _ _ _ _ h=>binN_shr' h,fun k a b h=>binN_rem k a b h,fun k a b h=>binN_quo k a b h⟩
theorem Ob {p q:Prop} (h:q) (e:p=q:=by(try simp(disch:=omega) only[wp,wc,Nat.reduceAdd,Nat.reduceMul,Int.reduceToNat]);rfl):p:=by rw[e];exact h
theorem Oc {p q:Prop} (h:q) (e:p=q:=by simp(disch:=omega) only[wp,wc,Nat.reduceAdd,Nat.reduceMul,Int.reduceToNat];rfl):p:=by rw[e];exact h
theorem Os {p q:Prop} (h:q) (e:p=q:=by(try simp only[wp,Nat.reduceAdd,Nat.reduceMul,Int.reduceEq,Int.reduceLT,Int.reduceLE]);rfl):p:=by rw[e];exact h
end Go.Cub
namespace Go.Cub
open Go Go.Proofs
def e3:TI:=⟨(.int .i64),1,8,.int .i64 0,[]⟩
def e4:TI:=⟨.bool,1,1,.bool false,[]⟩
def e5:TI:=⟨(.int .u8),1,1,.int .u8 0,[]⟩
def e9:TI:=⟨.string,1,16,.string ⟨#[]⟩,[]⟩
def e22:TI:=⟨(.slice 5),1,24,.slice none 0 0,[]⟩
def e23:TI:=⟨(.int .u64),1,8,.int .u64 0,[]⟩
def e27:TI:=⟨(.struct [(0,3),(1,3),(2,3),(3,23),(4,4)]),5,40,.agg #[.int .i64 0,.int .i64 0,.int .i64 0,.int .u64 0,.bool false],[.int .i64,.int .i64,.int .i64,.int .u64,.bool]⟩
def e29:TI:=⟨(.slice 41),1,24,.slice none 0 0,[]⟩
def e30:TI:=⟨(.int .i64),1,8,.int .i64 0,[]⟩
def e33:TI:=⟨(.int .i64),1,8,.int .i64 0,[]⟩
def e34:TI:=⟨(.int .u64),1,8,.int .u64 0,[]⟩
def e36:TI:=⟨(.struct [(0,33),(1,34),(2,9),(3,22),(4,34),(5,3),(6,3),(7,3),(8,23)]),9,96,.agg #[.int .i64 0,.int .u64 0,.string ⟨#[]⟩,.slice none 0 0,.int .u64 0,.int .i64 0,.int .i64 0,.int .i64 0,.int .u64 0],[]⟩
def e38:TI:=⟨(.struct [(0,9),(1,22),(2,34),(3,23)]),4,56,.agg #[.string ⟨#[]⟩,.slice none 0 0,.int .u64 0,.int .u64 0],[]⟩
def e39:TI:=⟨(.slice 74),1,24,.slice none 0 0,[]⟩
def e41:TI:=⟨(.struct [(0,36),(9,34),(10,30),(11,4),(12,22),(13,38),(17,3),(18,39),(19,3),(20,3)]),21,248,.agg #[.int .i64 0,.int .u64 0,.string ⟨#[]⟩,.slice none 0 0,.int .u64 0,.int .i64 0,.int .i64 0,.int .i64 0,.int .u64 0,.int .u64 0,.int .i64 0,.bool false,.slice none 0 0,.string ⟨#[]⟩,.slice none 0 0,.int .u64 0,.int .u64 0,.int .i64 0,.slice none 0 0,.int .i64 0,.int .i64 0],[]⟩
def e42:TI:=⟨(.ptr 80),1,8,.pointer none,[]⟩
def e44:TI:=⟨(.slice 36),1,24,.slice none 0 0,[]⟩
def e51:TI:=⟨(.ptr 106),1,8,.pointer none,[]⟩
def e58:TI:=⟨(.slice 5),1,24,.slice none 0 0,[]⟩
def e62:TI:=⟨.func,1,8,.nilFunc,[]⟩
def e72:TI:=⟨(.int .i64),1,8,.int .i64 0,[]⟩
def e74:TI:=⟨(.struct [(0,72),(1,9),(2,22),(3,23),(4,34),(5,34)]),6,72,.agg #[.int .i64 0,.string ⟨#[]⟩,.slice none 0 0,.int .u64 0,.int .u64 0,.int .u64 0],[]⟩
def e75:TI:=⟨(.slice 38),1,24,.slice none 0 0,[]⟩
def e77:TI:=⟨(.int .u64),1,8,.int .u64 0,[]⟩
def e78:TI:=⟨(.array 64 23),64,512,.agg #[.int .u64 0,.int .u64 0,.int .u64 0,.int .u64 0,.int .u64 0,.int .u64 0,.int .u64 0,.int .u64 0,.int .u64 0,.int .u64 0,.int .u64 0,.int .u64 0,.int .u64 0,.int .u64 0,.int .u64 0,.int .u64 0,.int .u64 0,.int .u64 0,.int .u64 0,.int .u64 0,.int .u64 0,.int .u64 0,.int .u64 0,.int .u64 0,.int .u64 0,.int .u64 0,.int .u64 0,.int .u64 0,.int .u64 0,.int .u64 0,.int .u64 0,.int .u64 0,.int .u64 0,.int .u64 0,.int .u64 0,.int .u64 0,.int .u64 0,.int .u64 0,.int .u64 0,.int .u64 0,.int .u64 0,.int .u64 0,.int .u64 0,.int .u64 0,.int .u64 0,.int .u64 0,.int .u64 0,.int .u64 0,.int .u64 0,.int .u64 0,.int .u64 0,.int .u64 0,.int .u64 0,.int .u64 0,.int .u64 0,.int .u64 0,.int .u64 0,.int .u64 0,.int .u64 0,.int .u64 0,.int .u64 0,.int .u64 0,.int .u64 0,.int .u64 0],[]⟩
def e80:TI:=⟨(.struct [(0,51),(1,77),(2,78)]),66,528,.agg #[.pointer none,.int .u64 0,.int .u64 0,.int .u64 0,.int .u64 0,.int .u64 0,.int .u64 0,.int .u64 0,.int .u64 0,.int .u64 0,.int .u64 0,.int .u64 0,.int .u64 0,.int .u64 0,.int .u64 0,.int .u64 0,.int .u64 0,.int .u64 0,.int .u64 0,.int .u64 0,.int .u64 0,.int .u64 0,.int .u64 0,.int .u64 0,.int .u64 0,.int .u64 0,.int .u64 0,.int .u64 0,.int .u64 0,.int .u64 0,.int .u64 0,.int .u64 0,.int .u64 0,.int .u64 0,.int .u64 0,.int .u64 0,.int .u64 0,.int .u64 0,.int .u64 0,.int .u64 0,.int .u64 0,.int .u64 0,.int .u64 0,.int .u64 0,.int .u64 0,.int .u64 0,.int .u64 0,.int .u64 0,.int .u64 0,.int .u64 0,.int .u64 0,.int .u64 0,.int .u64 0,.int .u64 0,.int .u64 0,.int .u64 0,.int .u64 0,.int .u64 0,.int .u64 0,.int .u64 0,.int .u64 0,.int .u64 0,.int .u64 0,.int .u64 0,.int .u64 0,.int .u64 0],[]⟩
def e87:TI:=⟨(.array 16 3),16,128,.agg #[.int .i64 0,.int .i64 0,.int .i64 0,.int .i64 0,.int .i64 0,.int .i64 0,.int .i64 0,.int .i64 0,.int .i64 0,.int .i64 0,.int .i64 0,.int .i64 0,.int .i64 0,.int .i64 0,.int .i64 0,.int .i64 0],[]⟩
def e88:TI:=⟨(.slice 93),1,24,.slice none 0 0,[]⟩
def e90:TI:=⟨.func,1,8,.nilFunc,[]⟩
def e91:TI:=⟨.func,1,8,.nilFunc,[]⟩
def e93:TI:=⟨(.struct [(0,90),(1,91)]),2,16,.agg #[.nilFunc,.nilFunc],[]⟩
def e96:TI:=⟨(.slice 3),1,24,.slice none 0 0,[]⟩
def e97:TI:=⟨(.ptr 182),1,8,.pointer none,[]⟩
def e98:TI:=⟨(.ptr 238),1,8,.pointer none,[]⟩
def e99:TI:=⟨(.ptr 211),1,8,.pointer none,[]⟩
def e100:TI:=⟨(.ptr 187),1,8,.pointer none,[]⟩
def e101:TI:=⟨(.ptr 168),1,8,.pointer none,[]⟩
def e102:TI:=⟨(.ptr 174),1,8,.pointer none,[]⟩
def e104:TI:=⟨(.struct [(0,97),(1,98),(2,99),(3,100),(4,101),(5,102)]),6,48,.agg #[.pointer none,.pointer none,.pointer none,.pointer none,.pointer none,.pointer none],[]⟩
def e106:TI:=⟨(.struct [(0,104),(6,27)]),11,88,.agg #[.pointer none,.pointer none,.pointer none,.pointer none,.pointer none,.pointer none,.int .i64 0,.int .i64 0,.int .i64 0,.int .u64 0,.bool false],[]⟩
def e112:TI:=⟨(.slice 114),1,24,.slice none 0 0,[]⟩
def e114:TI:=⟨(.int .u32),1,4,.int .u32 0,[]⟩
def e118:TI:=⟨.func,1,8,.nilFunc,[]⟩
def e143:TI:=⟨(.slice 23),1,24,.slice none 0 0,[]⟩
def e145:TI:=⟨(.int .i64),1,8,.int .i64 0,[]⟩
def e153:TI:=⟨(.struct [(0,23),(1,4)]),2,16,.agg #[.int .u64 0,.bool false],[]⟩
def e160:TI:=⟨(.int .u64),1,8,.int .u64 0,[]⟩
def e164:TI:=⟨(.ptr 245),1,8,.pointer none,[]⟩
def e165:TI:=⟨(.map 23 114),1,8,.map none,[]⟩
def e166:TI:=⟨(.map 114 193),1,8,.map none,[]⟩
def e168:TI:=⟨(.struct [(0,164),(1,165),(2,166)]),3,24,.agg #[.pointer none,.map none,.map none],[]⟩
def e169:TI:=⟨(.ptr 176),1,8,.pointer none,[]⟩
def e170:TI:=⟨(.array 6 23),6,48,.agg #[.int .u64 0,.int .u64 0,.int .u64 0,.int .u64 0,.int .u64 0,.int .u64 0],[]⟩
def e172:TI:=⟨(.struct [(0,170),(6,3)]),7,56,.agg #[.int .u64 0,.int .u64 0,.int .u64 0,.int .u64 0,.int .u64 0,.int .u64 0,.int .i64 0],[]⟩
def e174:TI:=⟨(.struct [(0,169),(1,169),(2,172),(9,4)]),10,80,.agg #[.pointer none,.pointer none,.int .u64 0,.int .u64 0,.int .u64 0,.int .u64 0,.int .u64 0,.int .u64 0,.int .i64 0,.bool false],[]⟩
def e176:TI:=⟨(.struct [(0,74),(6,169)]),7,80,.agg #[.int .i64 0,.string ⟨#[]⟩,.slice none 0 0,.int .u64 0,.int .u64 0,.int .u64 0,.pointer none],[]⟩
def e177:TI:=⟨(.ptr 247),1,8,.pointer none,[]⟩
def e179:TI:=⟨(.struct [(0,177)]),1,8,.agg #[.pointer none],[]⟩
def e180:TI:=⟨(.ptr 306),1,8,.pointer none,[]⟩
def e182:TI:=⟨(.struct [(0,179),(1,153),(3,180)]),4,32,.agg #[.pointer none,.int .u64 0,.bool false,.pointer none],[]⟩
def e184:TI:=⟨(.struct [(0,3),(1,3)]),2,16,.agg #[.int .i64 0,.int .i64 0],[.int .i64,.int .i64]⟩
def e185:TI:=⟨(.array 2 184),4,32,.agg #[.int .i64 0,.int .i64 0,.int .i64 0,.int .i64 0],[]⟩
def e187:TI:=⟨(.struct [(0,184),(2,185)]),6,48,.agg #[.int .i64 0,.int .i64 0,.int .i64 0,.int .i64 0,.int .i64 0,.int .i64 0],[]⟩
def e189:TI:=⟨(.slice 30),1,24,.slice none 0 0,[]⟩
def e190:TI:=⟨(.slice 193),1,24,.slice none 0 0,[]⟩
def e193:TI:=⟨(.struct [(0,114),(1,34),(2,23)]),3,24,.agg #[.int .u32 0,.int .u64 0,.int .u64 0],[]⟩
def e195:TI:=⟨(.slice 230),1,24,.slice none 0 0,[]⟩
def e206:TI:=⟨(.ptr 303),1,8,.pointer none,[]⟩
def e207:TI:=⟨(.array 2 206),2,16,.agg #[.pointer none,.pointer none],[]⟩
def e208:TI:=⟨(.array 2 3),2,16,.agg #[.int .i64 0,.int .i64 0],[]⟩
def e209:TI:=⟨(.map 114 3),1,8,.map none,[]⟩
def e211:TI:=⟨(.struct [(0,207),(2,208),(4,209),(5,3)]),6,48,.agg #[.pointer none,.pointer none,.int .i64 0,.int .i64 0,.map none,.int .i64 0],[]⟩
def e214:TI:=⟨(.struct [(0,112),(1,3)]),2,32,.agg #[.slice none 0 0,.int .i64 0],[]⟩
def e230:TI:=⟨(.struct [(0,114),(1,3)]),2,16,.agg #[.int .u32 0,.int .i64 0],[]⟩
def e238:TI:=⟨(.struct [(0,4),(1,23)]),2,16,.agg #[.bool false,.int .u64 0],[]⟩
def e241:TI:=⟨(.ptr 361),1,8,.pointer none,[]⟩
def e242:TI:=⟨(.array 8 241),8,64,.agg #[.pointer none,.pointer none,.pointer none,.pointer none,.pointer none,.pointer none,.pointer none,.pointer none],[]⟩
def e243:TI:=⟨(.map 23 321),1,8,.map none,[]⟩
def e245:TI:=⟨(.struct [(0,34),(1,242),(9,166),(10,243)]),11,88,.agg #[.int .u64 0,.pointer none,.pointer none,.pointer none,.pointer none,.pointer none,.pointer none,.pointer none,.pointer none,.map none,.map none],[]⟩
def e247:TI:=⟨(.struct [(0,4),(1,75),(2,3)]),3,40,.agg #[.bool false,.slice none 0 0,.int .i64 0],[]⟩
def e253:TI:=⟨(.struct [(0,195),(1,114)]),2,32,.agg #[.slice none 0 0,.int .u32 0],[]⟩
def e265:TI:=⟨.func,1,8,.nilFunc,[]⟩
def e271:TI:=⟨.func,1,8,.nilFunc,[]⟩
def e273:TI:=⟨(.struct [(0,3),(1,4)]),2,16,.agg #[.int .i64 0,.bool false],[]⟩
def e299:TI:=⟨(.ptr 352),1,8,.pointer none,[]⟩
def e303:TI:=⟨(.struct [(0,299)]),1,8,.agg #[.pointer none],[]⟩
def e304:TI:=⟨(.slice 309),1,24,.slice none 0 0,[]⟩
def e306:TI:=⟨(.struct [(0,304),(1,3),(2,3)]),3,40,.agg #[.slice none 0 0,.int .i64 0,.int .i64 0],[]⟩
def e307:TI:=⟨(.array 8 114),8,32,.agg #[.int .u32 0,.int .u32 0,.int .u32 0,.int .u32 0,.int .u32 0,.int .u32 0,.int .u32 0,.int .u32 0],[]⟩
def e309:TI:=⟨(.struct [(0,23),(1,307)]),9,40,.agg #[.int .u64 0,.int .u32 0,.int .u32 0,.int .u32 0,.int .u32 0,.int .u32 0,.int .u32 0,.int .u32 0,.int .u32 0],[]⟩
def e320:TI:=⟨(.map 114 321),1,8,.map none,[]⟩
def e321:TI:=⟨(.struct []),0,0,.agg #[],[]⟩
def e327:TI:=⟨(.ptr 309),1,8,.pointer none,[]⟩
def e350:TI:=⟨(.slice 356),1,24,.slice none 0 0,[]⟩
def e352:TI:=⟨(.struct [(0,350),(1,3),(2,96)]),3,56,.agg #[.slice none 0 0,.int .i64 0,.slice none 0 0],[]⟩
def e356:TI:=⟨(.struct [(0,114),(1,114),(2,114)]),3,12,.agg #[.int .u32 0,.int .u32 0,.int .u32 0],[]⟩
def e359:TI:=⟨(.array 4 23),4,32,.agg #[.int .u64 0,.int .u64 0,.int .u64 0,.int .u64 0],[]⟩
def e361:TI:=⟨(.struct [(0,299),(1,359),(5,3)]),6,48,.agg #[.pointer none,.int .u64 0,.int .u64 0,.int .u64 0,.int .u64 0,.int .i64 0],[]⟩
def e369:TI:=⟨(.slice 195),1,24,.slice none 0 0,[]⟩
def e396:TI:=⟨(.struct [(0,4),(1,30)]),2,16,.agg #[.bool false,.int .i64 0],[]⟩
def e400:TI:=⟨(.int .i64),1,8,.int .i64 0,[]⟩
def e412:TI:=⟨(.slice 396),1,24,.slice none 0 0,[]⟩
def e415:TI:=⟨(.int .u64),1,8,.int .u64 0,[]⟩
def e421:TI:=⟨(.array 64 5),64,64,.agg #[.int .u8 0,.int .u8 0,.int .u8 0,.int .u8 0,.int .u8 0,.int .u8 0,.int .u8 0,.int .u8 0,.int .u8 0,.int .u8 0,.int .u8 0,.int .u8 0,.int .u8 0,.int .u8 0,.int .u8 0,.int .u8 0,.int .u8 0,.int .u8 0,.int .u8 0,.int .u8 0,.int .u8 0,.int .u8 0,.int .u8 0,.int .u8 0,.int .u8 0,.int .u8 0,.int .u8 0,.int .u8 0,.int .u8 0,.int .u8 0,.int .u8 0,.int .u8 0,.int .u8 0,.int .u8 0,.int .u8 0,.int .u8 0,.int .u8 0,.int .u8 0,.int .u8 0,.int .u8 0,.int .u8 0,.int .u8 0,.int .u8 0,.int .u8 0,.int .u8 0,.int .u8 0,.int .u8 0,.int .u8 0,.int .u8 0,.int .u8 0,.int .u8 0,.int .u8 0,.int .u8 0,.int .u8 0,.int .u8 0,.int .u8 0,.int .u8 0,.int .u8 0,.int .u8 0,.int .u8 0,.int .u8 0,.int .u8 0,.int .u8 0,.int .u8 0],[]⟩
def Tryz.tab:List (Nat×TI):=[(3,e3),(4,e4),(5,e5),(9,e9),(22,e22),(23,e23),(27,e27),(29,e29),(30,e30),(33,e33),(34,e34),(36,e36),(38,e38),(39,e39),(41,e41),(42,e42),(44,e44),(51,e51),(58,e58),(62,e62),(72,e72),(74,e74),(75,e75),(77,e77),(78,e78),(80,e80),(87,e87),(88,e88),(90,e90),(91,e91),(93,e93),(96,e96),(97,e97),(98,e98),(99,e99),(100,e100),(101,e101),(102,e102),(104,e104),(106,e106),(112,e112),(114,e114),(118,e118),(143,e143),(145,e145),(153,e153),(160,e160),(164,e164),(165,e165),(166,e166),(168,e168),(169,e169),(170,e170),(172,e172),(174,e174),(176,e176),(177,e177),(179,e179),(180,e180),(182,e182),(184,e184),(185,e185),(187,e187),(189,e189),(190,e190),(193,e193),(195,e195),(206,e206),(207,e207),(208,e208),(209,e209),(211,e211),(214,e214),(230,e230),(238,e238),(241,e241),(242,e242),(243,e243),(245,e245),(247,e247),(253,e253),(265,e265),(271,e271),(273,e273),(299,e299),(303,e303),(304,e304),(306,e306),(307,e307),(309,e309),(320,e320),(321,e321),(327,e327),(350,e350),(352,e352),(356,e356),(359,e359),(361,e361),(369,e369),(396,e396),(400,e400),(412,e412),(415,e415),(421,e421)]
def Tryz.tt:TTab:=lookTI Tryz.tab
theorem Tryz.ty3:TyOk Tryz.prog 3 e3:=⟨by rw[Tryz.underlying3];exact rfl,by kernel_rfl,by kernel_rfl,.inl rfl⟩
theorem Tryz.ty4:TyOk Tryz.prog 4 e4:=⟨by rw[Tryz.underlying4];exact trivial,by kernel_rfl,by kernel_rfl,.inl rfl⟩
theorem Tryz.ty5:TyOk Tryz.prog 5 e5:=⟨by rw[Tryz.underlying5];exact rfl,by kernel_rfl,by kernel_rfl,.inl rfl⟩
theorem Tryz.ty9:TyOk Tryz.prog 9 e9:=⟨by rw[Tryz.underlying9];exact trivial,by kernel_rfl,by kernel_rfl,.inl rfl⟩
theorem Tryz.ty22:TyOk Tryz.prog 22 e22:=⟨by rw[Tryz.underlying22];exact rfl,by kernel_rfl,by kernel_rfl,.inl rfl⟩
theorem Tryz.ty23:TyOk Tryz.prog 23 e23:=⟨by rw[Tryz.underlying23];exact rfl,by kernel_rfl,by kernel_rfl,.inl rfl⟩
theorem Tryz.ty27:TyOk Tryz.prog 27 e27:=⟨by rw[Tryz.underlying27];exact rfl,by kernel_rfl,by kernel_rfl,.inr (eqOk_struct Tryz.underlying27 (by simp[e27,FldOk,fitsE,Tryz.underlying3,Tryz.underlying23,Tryz.underlying4]) (by kernel_rfl) (by kernel_rfl))⟩
theorem Tryz.ty29:TyOk Tryz.prog 29 e29:=⟨by rw[Tryz.underlying29];exact rfl,by kernel_rfl,by kernel_rfl,.inl rfl⟩
theorem Tryz.ty30:TyOk Tryz.prog 30 e30:=⟨by rw[Tryz.underlying30];exact rfl,by kernel_rfl,by kernel_rfl,.inl rfl⟩
theorem Tryz.ty33:TyOk Tryz.prog 33 e33:=⟨by rw[Tryz.underlying33];exact rfl,by kernel_rfl,by kernel_rfl,.inl rfl⟩
theorem Tryz.ty34:TyOk Tryz.prog 34 e34:=⟨by rw[Tryz.underlying34];exact rfl,by kernel_rfl,by kernel_rfl,.inl rfl⟩
theorem Tryz.ty36:TyOk Tryz.prog 36 e36:=⟨by rw[Tryz.underlying36];exact rfl,by kernel_rfl,by kernel_rfl,.inl rfl⟩
theorem Tryz.ty38:TyOk Tryz.prog 38 e38:=⟨by rw[Tryz.underlying38];exact rfl,by kernel_rfl,by kernel_rfl,.inl rfl⟩
theorem Tryz.ty39:TyOk Tryz.prog 39 e39:=⟨by rw[Tryz.underlying39];exact rfl,by kernel_rfl,by kernel_rfl,.inl rfl⟩
theorem Tryz.ty41:TyOk Tryz.prog 41 e41:=⟨by rw[Tryz.underlying41];exact rfl,by kernel_rfl,by kernel_rfl,.inl rfl⟩
theorem Tryz.ty42:TyOk Tryz.prog 42 e42:=⟨by rw[Tryz.underlying42];exact rfl,by kernel_rfl,by kernel_rfl,.inl rfl⟩
theorem Tryz.ty44:TyOk Tryz.prog 44 e44:=⟨by rw[Tryz.underlying44];exact rfl,by kernel_rfl,by kernel_rfl,.inl rfl⟩
theorem Tryz.ty51:TyOk Tryz.prog 51 e51:=⟨by rw[Tryz.underlying51];exact rfl,by kernel_rfl,by kernel_rfl,.inl rfl⟩
theorem Tryz.ty58:TyOk Tryz.prog 58 e58:=⟨by rw[Tryz.underlying58];exact rfl,by kernel_rfl,by kernel_rfl,.inl rfl⟩
theorem Tryz.ty62:TyOk Tryz.prog 62 e62:=⟨by rw[Tryz.underlying62];exact trivial,by kernel_rfl,by kernel_rfl,.inl rfl⟩
theorem Tryz.ty72:TyOk Tryz.prog 72 e72:=⟨by rw[Tryz.underlying72];exact rfl,by kernel_rfl,by kernel_rfl,.inl rfl⟩
theorem Tryz.ty74:TyOk Tryz.prog 74 e74:=⟨by rw[Tryz.underlying74];exact rfl,by kernel_rfl,by kernel_rfl,.inl rfl⟩
theorem Tryz.ty75:TyOk Tryz.prog 75 e75:=⟨by rw[Tryz.underlying75];exact rfl,by kernel_rfl,by kernel_rfl,.inl rfl⟩
theorem Tryz.ty77:TyOk Tryz.prog 77 e77:=⟨by rw[Tryz.underlying77];exact rfl,by kernel_rfl,by kernel_rfl,.inl rfl⟩
theorem Tryz.ty78:TyOk Tryz.prog 78 e78:=⟨by rw[Tryz.underlying78];exact⟨rfl,rfl⟩,by kernel_rfl,by kernel_rfl,.inl rfl⟩
theorem Tryz.ty80:TyOk Tryz.prog 80 e80:=⟨by rw[Tryz.underlying80];exact rfl,by kernel_rfl,by kernel_rfl,.inl rfl⟩
theorem Tryz.ty87:TyOk Tryz.prog 87 e87:=⟨by rw[Tryz.underlying87];exact⟨rfl,rfl⟩,by kernel_rfl,by kernel_rfl,.inl rfl⟩
theorem Tryz.ty88:TyOk Tryz.prog 88 e88:=⟨by rw[Tryz.underlying88];exact rfl,by kernel_rfl,by kernel_rfl,.inl rfl⟩
theorem Tryz.ty90:TyOk Tryz.prog 90 e90:=⟨by rw[Tryz.underlying90];exact trivial,by kernel_rfl,by kernel_rfl,.inl rfl⟩
theorem Tryz.ty91:TyOk Tryz.prog 91 e91:=⟨by rw[Tryz.underlying91];exact trivial,by kernel_rfl,by kernel_rfl,.inl rfl⟩
theorem Tryz.ty93:TyOk Tryz.prog 93 e93:=⟨by rw[Tryz.underlying93];exact rfl,by kernel_rfl,by kernel_rfl,.inl rfl⟩
theorem Tryz.ty96:TyOk Tryz.prog 96 e96:=⟨by rw[Tryz.underlying96];exact rfl,by kernel_rfl,by kernel_rfl,.inl rfl⟩
theorem Tryz.ty97:TyOk Tryz.prog 97 e97:=⟨by rw[Tryz.underlying97];exact rfl,by kernel_rfl,by kernel_rfl,.inl rfl⟩
theorem Tryz.ty98:TyOk Tryz.prog 98 e98:=⟨by rw[Tryz.underlying98];exact rfl,by kernel_rfl,by kernel_rfl,.inl rfl⟩
theorem Tryz.ty99:TyOk Tryz.prog 99 e99:=⟨by rw[Tryz.underlying99];exact rfl,by kernel_rfl,by kernel_rfl,.inl rfl⟩
theorem Tryz.ty100:TyOk Tryz.prog 100 e100:=⟨by rw[Tryz.underlying100];exact rfl,by kernel_rfl,by kernel_rfl,.inl rfl⟩
theorem Tryz.ty101:TyOk Tryz.prog 101 e101:=⟨by rw[Tryz.underlying101];exact rfl,by kernel_rfl,by kernel_rfl,.inl rfl⟩
theorem Tryz.ty102:TyOk Tryz.prog 102 e102:=⟨by rw[Tryz.underlying102];exact rfl,by kernel_rfl,by kernel_rfl,.inl rfl⟩
theorem Tryz.ty104:TyOk Tryz.prog 104 e104:=⟨by rw[Tryz.underlying104];exact rfl,by kernel_rfl,by kernel_rfl,.inl rfl⟩
theorem Tryz.ty106:TyOk Tryz.prog 106 e106:=⟨by rw[Tryz.underlying106];exact rfl,by kernel_rfl,by kernel_rfl,.inl rfl⟩
theorem Tryz.ty112:TyOk Tryz.prog 112 e112:=⟨by rw[Tryz.underlying112];exact rfl,by kernel_rfl,by kernel_rfl,.inl rfl⟩
theorem Tryz.ty114:TyOk Tryz.prog 114 e114:=⟨by rw[Tryz.underlying114];exact rfl,by kernel_rfl,by kernel_rfl,.inl rfl⟩
theorem Tryz.ty118:TyOk Tryz.prog 118 e118:=⟨by rw[Tryz.underlying118];exact trivial,by kernel_rfl,by kernel_rfl,.inl rfl⟩
theorem Tryz.ty143:TyOk Tryz.prog 143 e143:=⟨by rw[Tryz.underlying143];exact rfl,by kernel_rfl,by kernel_rfl,.inl rfl⟩
theorem Tryz.ty145:TyOk Tryz.prog 145 e145:=⟨by rw[Tryz.underlying145];exact rfl,by kernel_rfl,by kernel_rfl,.inl rfl⟩
theorem Tryz.ty153:TyOk Tryz.prog 153 e153:=⟨by rw[Tryz.underlying153];exact rfl,by kernel_rfl,by kernel_rfl,.inl rfl⟩
theorem Tryz.ty160:TyOk Tryz.prog 160 e160:=⟨by rw[Tryz.underlying160];exact rfl,by kernel_rfl,by kernel_rfl,.inl rfl⟩
theorem Tryz.ty164:TyOk Tryz.prog 164 e164:=⟨by rw[Tryz.underlying164];exact rfl,by kernel_rfl,by kernel_rfl,.inl rfl⟩
theorem Tryz.ty165:TyOk Tryz.prog 165 e165:=⟨by rw[Tryz.underlying165];exact⟨rfl,rfl⟩,by kernel_rfl,by kernel_rfl,.inl rfl⟩
theorem Tryz.ty166:TyOk Tryz.prog 166 e166:=⟨by rw[Tryz.underlying166];exact⟨rfl,rfl⟩,by kernel_rfl,by kernel_rfl,.inl rfl⟩
theorem Tryz.ty168:TyOk Tryz.prog 168 e168:=⟨by rw[Tryz.underlying168];exact rfl,by kernel_rfl,by kernel_rfl,.inl rfl⟩
theorem Tryz.ty169:TyOk Tryz.prog 169 e169:=⟨by rw[Tryz.underlying169];exact rfl,by kernel_rfl,by kernel_rfl,.inl rfl⟩
theorem Tryz.ty170:TyOk Tryz.prog 170 e170:=⟨by rw[Tryz.underlying170];exact⟨rfl,rfl⟩,by kernel_rfl,by kernel_rfl,.inl rfl⟩
theorem Tryz.ty172:TyOk Tryz.prog 172 e172:=⟨by rw[Tryz.underlying172];exact rfl,by kernel_rfl,by kernel_rfl,.inl rfl⟩
theorem Tryz.ty174:TyOk Tryz.prog 174 e174:=⟨by rw[Tryz.underlying174];exact rfl,by kernel_rfl,by kernel_rfl,.inl rfl⟩
theorem Tryz.ty176:TyOk Tryz.prog 176 e176:=⟨by rw[Tryz.underlying176];exact rfl,by kernel_rfl,by kernel_rfl,.inl rfl⟩
theorem Tryz.ty177:TyOk Tryz.prog 177 e177:=⟨by rw[Tryz.underlying177];exact rfl,by kernel_rfl,by kernel_rfl,.inl rfl⟩
theorem Tryz.ty179:TyOk Tryz.prog 179 e179:=⟨by rw[Tryz.underlying179];exact rfl,by kernel_rfl,by kernel_rfl,.inl rfl⟩
theorem Tryz.ty180:TyOk Tryz.prog 180 e180:=⟨by rw[Tryz.underlying180];exact rfl,by kernel_rfl,by kernel_rfl,.inl rfl⟩
theorem Tryz.ty182:TyOk Tryz.prog 182 e182:=⟨by rw[Tryz.underlying182];exact rfl,by kernel_rfl,by kernel_rfl,.inl rfl⟩
theorem Tryz.ty184:TyOk Tryz.prog 184 e184:=⟨by rw[Tryz.underlying184];exact rfl,by kernel_rfl,by kernel_rfl,.inr (eqOk_struct Tryz.underlying184 (by simp[e184,FldOk,fitsE,Tryz.underlying3]) (by kernel_rfl) (by kernel_rfl))⟩
theorem Tryz.ty185:TyOk Tryz.prog 185 e185:=⟨by rw[Tryz.underlying185];exact⟨rfl,rfl⟩,by kernel_rfl,by kernel_rfl,.inl rfl⟩
theorem Tryz.ty187:TyOk Tryz.prog 187 e187:=⟨by rw[Tryz.underlying187];exact rfl,by kernel_rfl,by kernel_rfl,.inl rfl⟩
theorem Tryz.ty189:TyOk Tryz.prog 189 e189:=⟨by rw[Tryz.underlying189];exact rfl,by kernel_rfl,by kernel_rfl,.inl rfl⟩
theorem Tryz.ty190:TyOk Tryz.prog 190 e190:=⟨by rw[Tryz.underlying190];exact rfl,by kernel_rfl,by kernel_rfl,.inl rfl⟩
theorem Tryz.ty193:TyOk Tryz.prog 193 e193:=⟨by rw[Tryz.underlying193];exact rfl,by kernel_rfl,by kernel_rfl,.inl rfl⟩
theorem Tryz.ty195:TyOk Tryz.prog 195 e195:=⟨by rw[Tryz.underlying195];exact rfl,by kernel_rfl,by kernel_rfl,.inl rfl⟩
theorem Tryz.ty206:TyOk Tryz.prog 206 e206:=⟨by rw[Tryz.underlying206];exact rfl,by kernel_rfl,by kernel_rfl,.inl rfl⟩
theorem Tryz.ty207:TyOk Tryz.prog 207 e207:=⟨by rw[Tryz.underlying207];exact⟨rfl,rfl⟩,by kernel_rfl,by kernel_rfl,.inl rfl⟩
theorem Tryz.ty208:TyOk Tryz.prog 208 e208:=⟨by rw[Tryz.underlying208];exact⟨rfl,rfl⟩,by kernel_rfl,by kernel_rfl,.inl rfl⟩
theorem Tryz.ty209:TyOk Tryz.prog 209 e209:=⟨by rw[Tryz.underlying209];exact⟨rfl,rfl⟩,by kernel_rfl,by kernel_rfl,.inl rfl⟩
theorem Tryz.ty211:TyOk Tryz.prog 211 e211:=⟨by rw[Tryz.underlying211];exact rfl,by kernel_rfl,by kernel_rfl,.inl rfl⟩
theorem Tryz.ty214:TyOk Tryz.prog 214 e214:=⟨by rw[Tryz.underlying214];exact rfl,by kernel_rfl,by kernel_rfl,.inl rfl⟩
theorem Tryz.ty230:TyOk Tryz.prog 230 e230:=⟨by rw[Tryz.underlying230];exact rfl,by kernel_rfl,by kernel_rfl,.inl rfl⟩
theorem Tryz.ty238:TyOk Tryz.prog 238 e238:=⟨by rw[Tryz.underlying238];exact rfl,by kernel_rfl,by kernel_rfl,.inl rfl⟩
theorem Tryz.ty241:TyOk Tryz.prog 241 e241:=⟨by rw[Tryz.underlying241];exact rfl,by kernel_rfl,by kernel_rfl,.inl rfl⟩
theorem Tryz.ty242:TyOk Tryz.prog 242 e242:=⟨by rw[Tryz.underlying242];exact⟨rfl,rfl⟩,by kernel_rfl,by kernel_rfl,.inl rfl⟩
theorem Tryz.ty243:TyOk Tryz.prog 243 e243:=⟨by rw[Tryz.underlying243];exact⟨rfl,rfl⟩,by kernel_rfl,by kernel_rfl,.inl rfl⟩
theorem Tryz.ty245:TyOk Tryz.prog 245 e245:=⟨by rw[Tryz.underlying245];exact rfl,by kernel_rfl,by kernel_rfl,.inl rfl⟩
theorem Tryz.ty247:TyOk Tryz.prog 247 e247:=⟨by rw[Tryz.underlying247];exact rfl,by kernel_rfl,by kernel_rfl,.inl rfl⟩
theorem Tryz.ty253:TyOk Tryz.prog 253 e253:=⟨by rw[Tryz.underlying253];exact rfl,by kernel_rfl,by kernel_rfl,.inl rfl⟩
theorem Tryz.ty265:TyOk Tryz.prog 265 e265:=⟨by rw[Tryz.underlying265];exact trivial,by kernel_rfl,by kernel_rfl,.inl rfl⟩
theorem Tryz.ty271:TyOk Tryz.prog 271 e271:=⟨by rw[Tryz.underlying271];exact trivial,by kernel_rfl,by kernel_rfl,.inl rfl⟩
theorem Tryz.ty273:TyOk Tryz.prog 273 e273:=⟨by rw[Tryz.underlying273];exact rfl,by kernel_rfl,by kernel_rfl,.inl rfl⟩
theorem Tryz.ty299:TyOk Tryz.prog 299 e299:=⟨by rw[Tryz.underlying299];exact rfl,by kernel_rfl,by kernel_rfl,.inl rfl⟩
theorem Tryz.ty303:TyOk Tryz.prog 303 e303:=⟨by rw[Tryz.underlying303];exact rfl,by kernel_rfl,by kernel_rfl,.inl rfl⟩
theorem Tryz.ty304:TyOk Tryz.prog 304 e304:=⟨by rw[Tryz.underlying304];exact rfl,by kernel_rfl,by kernel_rfl,.inl rfl⟩
theorem Tryz.ty306:TyOk Tryz.prog 306 e306:=⟨by rw[Tryz.underlying306];exact rfl,by kernel_rfl,by kernel_rfl,.inl rfl⟩
theorem Tryz.ty307:TyOk Tryz.prog 307 e307:=⟨by rw[Tryz.underlying307];exact⟨rfl,rfl⟩,by kernel_rfl,by kernel_rfl,.inl rfl⟩
theorem Tryz.ty309:TyOk Tryz.prog 309 e309:=⟨by rw[Tryz.underlying309];exact rfl,by kernel_rfl,by kernel_rfl,.inl rfl⟩
theorem Tryz.ty320:TyOk Tryz.prog 320 e320:=⟨by rw[Tryz.underlying320];exact⟨rfl,rfl⟩,by kernel_rfl,by kernel_rfl,.inl rfl⟩
theorem Tryz.ty321:TyOk Tryz.prog 321 e321:=⟨by rw[Tryz.underlying321];exact rfl,by kernel_rfl,by kernel_rfl,.inl rfl⟩
theorem Tryz.ty327:TyOk Tryz.prog 327 e327:=⟨by rw[Tryz.underlying327];exact rfl,by kernel_rfl,by kernel_rfl,.inl rfl⟩
theorem Tryz.ty350:TyOk Tryz.prog 350 e350:=⟨by rw[Tryz.underlying350];exact rfl,by kernel_rfl,by kernel_rfl,.inl rfl⟩
theorem Tryz.ty352:TyOk Tryz.prog 352 e352:=⟨by rw[Tryz.underlying352];exact rfl,by kernel_rfl,by kernel_rfl,.inl rfl⟩
theorem Tryz.ty356:TyOk Tryz.prog 356 e356:=⟨by rw[Tryz.underlying356];exact rfl,by kernel_rfl,by kernel_rfl,.inl rfl⟩
theorem Tryz.ty359:TyOk Tryz.prog 359 e359:=⟨by rw[Tryz.underlying359];exact⟨rfl,rfl⟩,by kernel_rfl,by kernel_rfl,.inl rfl⟩
theorem Tryz.ty361:TyOk Tryz.prog 361 e361:=⟨by rw[Tryz.underlying361];exact rfl,by kernel_rfl,by kernel_rfl,.inl rfl⟩
theorem Tryz.ty369:TyOk Tryz.prog 369 e369:=⟨by rw[Tryz.underlying369];exact rfl,by kernel_rfl,by kernel_rfl,.inl rfl⟩
theorem Tryz.ty396:TyOk Tryz.prog 396 e396:=⟨by rw[Tryz.underlying396];exact rfl,by kernel_rfl,by kernel_rfl,.inl rfl⟩
theorem Tryz.ty400:TyOk Tryz.prog 400 e400:=⟨by rw[Tryz.underlying400];exact rfl,by kernel_rfl,by kernel_rfl,.inl rfl⟩
theorem Tryz.ty412:TyOk Tryz.prog 412 e412:=⟨by rw[Tryz.underlying412];exact rfl,by kernel_rfl,by kernel_rfl,.inl rfl⟩
theorem Tryz.ty415:TyOk Tryz.prog 415 e415:=⟨by rw[Tryz.underlying415];exact rfl,by kernel_rfl,by kernel_rfl,.inl rfl⟩
theorem Tryz.ty421:TyOk Tryz.prog 421 e421:=⟨by rw[Tryz.underlying421];exact⟨rfl,rfl⟩,by kernel_rfl,by kernel_rfl,.inl rfl⟩
theorem Tryz.tabOk:TabOk Tryz.prog Tryz.tt:=tabOk_of ⟨Tryz.ty3,Tryz.ty4,Tryz.ty5,Tryz.ty9,Tryz.ty22,Tryz.ty23,Tryz.ty27,Tryz.ty29,Tryz.ty30,Tryz.ty33,Tryz.ty34,Tryz.ty36,Tryz.ty38,Tryz.ty39,Tryz.ty41,Tryz.ty42,Tryz.ty44,Tryz.ty51,Tryz.ty58,Tryz.ty62,Tryz.ty72,Tryz.ty74,Tryz.ty75,Tryz.ty77,Tryz.ty78,Tryz.ty80,Tryz.ty87,Tryz.ty88,Tryz.ty90,Tryz.ty91,Tryz.ty93,Tryz.ty96,Tryz.ty97,Tryz.ty98,Tryz.ty99,Tryz.ty100,Tryz.ty101,Tryz.ty102,Tryz.ty104,Tryz.ty106,Tryz.ty112,Tryz.ty114,Tryz.ty118,Tryz.ty143,Tryz.ty145,Tryz.ty153,Tryz.ty160,Tryz.ty164,Tryz.ty165,Tryz.ty166,Tryz.ty168,Tryz.ty169,Tryz.ty170,Tryz.ty172,Tryz.ty174,Tryz.ty176,Tryz.ty177,Tryz.ty179,Tryz.ty180,Tryz.ty182,Tryz.ty184,Tryz.ty185,Tryz.ty187,Tryz.ty189,Tryz.ty190,Tryz.ty193,Tryz.ty195,Tryz.ty206,Tryz.ty207,Tryz.ty208,Tryz.ty209,Tryz.ty211,Tryz.ty214,Tryz.ty230,Tryz.ty238,Tryz.ty241,Tryz.ty242,Tryz.ty243,Tryz.ty245,Tryz.ty247,Tryz.ty253,Tryz.ty265,Tryz.ty271,Tryz.ty273,Tryz.ty299,Tryz.ty303,Tryz.ty304,Tryz.ty306,Tryz.ty307,Tryz.ty309,Tryz.ty320,Tryz.ty321,Tryz.ty327,Tryz.ty350,Tryz.ty352,Tryz.ty356,Tryz.ty359,Tryz.ty361,Tryz.ty369,Tryz.ty396,Tryz.ty400,Tryz.ty412,Tryz.ty415,Tryz.ty421,trivial⟩
def Tryz.cal (f:Nat):Bool:=Nat.blt 1 f&&Nat.blt f 355
theorem Tryz.calls:∀f:Nat,f<353→∀args w,(callFunc (f+2) args).run Tryz.prog w=.ok (.enter (f+2) args) w
 |0,_=>Tryz.call2
 |1,_=>Tryz.call3
 |2,_=>Tryz.call4
 |3,_=>Tryz.call5
 |4,_=>Tryz.call6
 |5,_=>Tryz.call7
 |6,_=>Tryz.call8
 |7,_=>Tryz.call9
 |8,_=>Tryz.call10
 |9,_=>Tryz.call11
 |10,_=>Tryz.call12
 |11,_=>Tryz.call13
 |12,_=>Tryz.call14
 |13,_=>Tryz.call15
 |14,_=>Tryz.call16
 |15,_=>Tryz.call17
 |16,_=>Tryz.call18
 |17,_=>Tryz.call19
 |18,_=>Tryz.call20
 |19,_=>Tryz.call21
 |20,_=>Tryz.call22
 |21,_=>Tryz.call23
 |22,_=>Tryz.call24
 |23,_=>Tryz.call25
 |24,_=>Tryz.call26
 |25,_=>Tryz.call27
 |26,_=>Tryz.call28
 |27,_=>Tryz.call29
 |28,_=>Tryz.call30
 |29,_=>Tryz.call31
 |30,_=>Tryz.call32
 |31,_=>Tryz.call33
 |32,_=>Tryz.call34
 |33,_=>Tryz.call35
 |34,_=>Tryz.call36
 |35,_=>Tryz.call37
 |36,_=>Tryz.call38
 |37,_=>Tryz.call39
 |38,_=>Tryz.call40
 |39,_=>Tryz.call41
 |40,_=>Tryz.call42
 |41,_=>Tryz.call43
 |42,_=>Tryz.call44
 |43,_=>Tryz.call45
 |44,_=>Tryz.call46
 |45,_=>Tryz.call47
 |46,_=>Tryz.call48
 |47,_=>Tryz.call49
 |48,_=>Tryz.call50
 |49,_=>Tryz.call51
 |50,_=>Tryz.call52
 |51,_=>Tryz.call53
 |52,_=>Tryz.call54
 |53,_=>Tryz.call55
 |54,_=>Tryz.call56
 |55,_=>Tryz.call57
 |56,_=>Tryz.call58
 |57,_=>Tryz.call59
 |58,_=>Tryz.call60
 |59,_=>Tryz.call61
 |60,_=>Tryz.call62
 |61,_=>Tryz.call63
 |62,_=>Tryz.call64
 |63,_=>Tryz.call65
 |64,_=>Tryz.call66
 |65,_=>Tryz.call67
 |66,_=>Tryz.call68
 |67,_=>Tryz.call69
 |68,_=>Tryz.call70
 |69,_=>Tryz.call71
 |70,_=>Tryz.call72
 |71,_=>Tryz.call73
 |72,_=>Tryz.call74
 |73,_=>Tryz.call75
 |74,_=>Tryz.call76
 |75,_=>Tryz.call77
 |76,_=>Tryz.call78
 |77,_=>Tryz.call79
 |78,_=>Tryz.call80
 |79,_=>Tryz.call81
 |80,_=>Tryz.call82
 |81,_=>Tryz.call83
 |82,_=>Tryz.call84
 |83,_=>Tryz.call85
 |84,_=>Tryz.call86
 |85,_=>Tryz.call87
 |86,_=>Tryz.call88
 |87,_=>Tryz.call89
 |88,_=>Tryz.call90
 |89,_=>Tryz.call91
 |90,_=>Tryz.call92
 |91,_=>Tryz.call93
 |92,_=>Tryz.call94
 |93,_=>Tryz.call95
 |94,_=>Tryz.call96
 |95,_=>Tryz.call97
 |96,_=>Tryz.call98
 |97,_=>Tryz.call99
 |98,_=>Tryz.call100
 |99,_=>Tryz.call101
 |100,_=>Tryz.call102
 |101,_=>Tryz.call103
 |102,_=>Tryz.call104
 |103,_=>Tryz.call105
 |104,_=>Tryz.call106
 |105,_=>Tryz.call107
 |106,_=>Tryz.call108
 |107,_=>Tryz.call109
 |108,_=>Tryz.call110
 |109,_=>Tryz.call111
 |110,_=>Tryz.call112
 |111,_=>Tryz.call113
 |112,_=>Tryz.call114
 |113,_=>Tryz.call115
 |114,_=>Tryz.call116
 |115,_=>Tryz.call117
 |116,_=>Tryz.call118
 |117,_=>Tryz.call119
 |118,_=>Tryz.call120
 |119,_=>Tryz.call121
 |120,_=>Tryz.call122
 |121,_=>Tryz.call123
 |122,_=>Tryz.call124
 |123,_=>Tryz.call125
 |124,_=>Tryz.call126
 |125,_=>Tryz.call127
 |126,_=>Tryz.call128
 |127,_=>Tryz.call129
 |128,_=>Tryz.call130
 |129,_=>Tryz.call131
 |130,_=>Tryz.call132
 |131,_=>Tryz.call133
 |132,_=>Tryz.call134
 |133,_=>Tryz.call135
 |134,_=>Tryz.call136
 |135,_=>Tryz.call137
 |136,_=>Tryz.call138
 |137,_=>Tryz.call139
 |138,_=>Tryz.call140
 |139,_=>Tryz.call141
 |140,_=>Tryz.call142
 |141,_=>Tryz.call143
 |142,_=>Tryz.call144
 |143,_=>Tryz.call145
 |144,_=>Tryz.call146
 |145,_=>Tryz.call147
 |146,_=>Tryz.call148
 |147,_=>Tryz.call149
 |148,_=>Tryz.call150
 |149,_=>Tryz.call151
 |150,_=>Tryz.call152
 |151,_=>Tryz.call153
 |152,_=>Tryz.call154
 |153,_=>Tryz.call155
 |154,_=>Tryz.call156
 |155,_=>Tryz.call157
 |156,_=>Tryz.call158
 |157,_=>Tryz.call159
 |158,_=>Tryz.call160
 |159,_=>Tryz.call161
 |160,_=>Tryz.call162
 |161,_=>Tryz.call163
 |162,_=>Tryz.call164
 |163,_=>Tryz.call165
 |164,_=>Tryz.call166
 |165,_=>Tryz.call167
 |166,_=>Tryz.call168
 |167,_=>Tryz.call169
 |168,_=>Tryz.call170
 |169,_=>Tryz.call171
 |170,_=>Tryz.call172
 |171,_=>Tryz.call173
 |172,_=>Tryz.call174
 |173,_=>Tryz.call175
 |174,_=>Tryz.call176
 |175,_=>Tryz.call177
 |176,_=>Tryz.call178
 |177,_=>Tryz.call179
 |178,_=>Tryz.call180
 |179,_=>Tryz.call181
 |180,_=>Tryz.call182
 |181,_=>Tryz.call183
 |182,_=>Tryz.call184
 |183,_=>Tryz.call185
 |184,_=>Tryz.call186
 |185,_=>Tryz.call187
 |186,_=>Tryz.call188
 |187,_=>Tryz.call189
 |188,_=>Tryz.call190
 |189,_=>Tryz.call191
 |190,_=>Tryz.call192
 |191,_=>Tryz.call193
 |192,_=>Tryz.call194
 |193,_=>Tryz.call195
 |194,_=>Tryz.call196
 |195,_=>Tryz.call197
 |196,_=>Tryz.call198
 |197,_=>Tryz.call199
 |198,_=>Tryz.call200
 |199,_=>Tryz.call201
 |200,_=>Tryz.call202
 |201,_=>Tryz.call203
 |202,_=>Tryz.call204
 |203,_=>Tryz.call205
 |204,_=>Tryz.call206
 |205,_=>Tryz.call207
 |206,_=>Tryz.call208
 |207,_=>Tryz.call209
 |208,_=>Tryz.call210
 |209,_=>Tryz.call211
 |210,_=>Tryz.call212
 |211,_=>Tryz.call213
 |212,_=>Tryz.call214
 |213,_=>Tryz.call215
 |214,_=>Tryz.call216
 |215,_=>Tryz.call217
 |216,_=>Tryz.call218
 |217,_=>Tryz.call219
 |218,_=>Tryz.call220
 |219,_=>Tryz.call221
 |220,_=>Tryz.call222
 |221,_=>Tryz.call223
 |222,_=>Tryz.call224
 |223,_=>Tryz.call225
 |224,_=>Tryz.call226
 |225,_=>Tryz.call227
 |226,_=>Tryz.call228
 |227,_=>Tryz.call229
 |228,_=>Tryz.call230
 |229,_=>Tryz.call231
 |230,_=>Tryz.call232
 |231,_=>Tryz.call233
 |232,_=>Tryz.call234
 |233,_=>Tryz.call235
 |234,_=>Tryz.call236
 |235,_=>Tryz.call237
 |236,_=>Tryz.call238
 |237,_=>Tryz.call239
 |238,_=>Tryz.call240
 |239,_=>Tryz.call241
 |240,_=>Tryz.call242
 |241,_=>Tryz.call243
 |242,_=>Tryz.call244
 |243,_=>Tryz.call245
 |244,_=>Tryz.call246
 |245,_=>Tryz.call247
 |246,_=>Tryz.call248
 |247,_=>Tryz.call249
 |248,_=>Tryz.call250
 |249,_=>Tryz.call251
 |250,_=>Tryz.call252
 |251,_=>Tryz.call253
 |252,_=>Tryz.call254
 |253,_=>Tryz.call255
 |254,_=>Tryz.call256
 |255,_=>Tryz.call257
 |256,_=>Tryz.call258
 |257,_=>Tryz.call259
 |258,_=>Tryz.call260
 |259,_=>Tryz.call261
 |260,_=>Tryz.call262
 |261,_=>Tryz.call263
 |262,_=>Tryz.call264
 |263,_=>Tryz.call265
 |264,_=>Tryz.call266
 |265,_=>Tryz.call267
 |266,_=>Tryz.call268
 |267,_=>Tryz.call269
 |268,_=>Tryz.call270
 |269,_=>Tryz.call271
 |270,_=>Tryz.call272
 |271,_=>Tryz.call273
 |272,_=>Tryz.call274
 |273,_=>Tryz.call275
 |274,_=>Tryz.call276
 |275,_=>Tryz.call277
 |276,_=>Tryz.call278
 |277,_=>Tryz.call279
 |278,_=>Tryz.call280
 |279,_=>Tryz.call281
 |280,_=>Tryz.call282
 |281,_=>Tryz.call283
 |282,_=>Tryz.call284
 |283,_=>Tryz.call285
 |284,_=>Tryz.call286
 |285,_=>Tryz.call287
 |286,_=>Tryz.call288
 |287,_=>Tryz.call289
 |288,_=>Tryz.call290
 |289,_=>Tryz.call291
 |290,_=>Tryz.call292
 |291,_=>Tryz.call293
 |292,_=>Tryz.call294
 |293,_=>Tryz.call295
 |294,_=>Tryz.call296
 |295,_=>Tryz.call297
 |296,_=>Tryz.call298
 |297,_=>Tryz.call299
 |298,_=>Tryz.call300
 |299,_=>Tryz.call301
 |300,_=>Tryz.call302
 |301,_=>Tryz.call303
 |302,_=>Tryz.call304
 |303,_=>Tryz.call305
 |304,_=>Tryz.call306
 |305,_=>Tryz.call307
 |306,_=>Tryz.call308
 |307,_=>Tryz.call309
 |308,_=>Tryz.call310
 |309,_=>Tryz.call311
 |310,_=>Tryz.call312
 |311,_=>Tryz.call313
 |312,_=>Tryz.call314
 |313,_=>Tryz.call315
 |314,_=>Tryz.call316
 |315,_=>Tryz.call317
 |316,_=>Tryz.call318
 |317,_=>Tryz.call319
 |318,_=>Tryz.call320
 |319,_=>Tryz.call321
 |320,_=>Tryz.call322
 |321,_=>Tryz.call323
 |322,_=>Tryz.call324
 |323,_=>Tryz.call325
 |324,_=>Tryz.call326
 |325,_=>Tryz.call327
 |326,_=>Tryz.call328
 |327,_=>Tryz.call329
 |328,_=>Tryz.call330
 |329,_=>Tryz.call331
 |330,_=>Tryz.call332
 |331,_=>Tryz.call333
 |332,_=>Tryz.call334
 |333,_=>Tryz.call335
 |334,_=>Tryz.call336
 |335,_=>Tryz.call337
 |336,_=>Tryz.call338
 |337,_=>Tryz.call339
 |338,_=>Tryz.call340
 |339,_=>Tryz.call341
 |340,_=>Tryz.call342
 |341,_=>Tryz.call343
 |342,_=>Tryz.call344
 |343,_=>Tryz.call345
 |344,_=>Tryz.call346
 |345,_=>Tryz.call347
 |346,_=>Tryz.call348
 |347,_=>Tryz.call349
 |348,_=>Tryz.call350
 |349,_=>Tryz.call351
 |350,_=>Tryz.call352
 |351,_=>Tryz.call353
 |352,_=>Tryz.call354
 |n+353,h=>absurd h (Nat.not_lt.2 (Nat.le_add_left _ _))
theorem Tryz.calOk:CalOk Tryz.prog Tryz.cal:=by
 intro f hf
 simp only[Tryz.cal,Bool.and_eq_true,Nat.blt_eq] at hf
 obtain⟨h1,h2⟩:=hf
 have h3:(f:Nat) - 2<353:=by have h4:(f:Nat)<355:=h2;have h5:(1:Nat)<f:=h1;omega
 have :=Tryz.calls (f - 2) h3
 rwa[Nat.sub_add_cancel h1] at this
theorem Tryz.mixed:Tryz.prog.follows .mixedOrders=true:=by kernel_rfl
noncomputable abbrev Pg:Program:=Tryz.prog
abbrev RR:=Value→World→Prop
def cd (fn:Func):Code:=fn.body.getD .skip
abbrev OK (f:Nat) (fn:Func) (n:Nat):Prop:=FnOk Tryz.prog f fn (cd fn) n
theorem fo {f n:Nat} {fn:Func} (h:Tryz.prog.funcs[f]?=some fn) (q:(fn.body.isSome&&(Nat.beq fn.ntmps n&&(stat n false (cd fn)&&(uniq (cd fn)&&resLt n fn.results.toList))))=true:=by kernel_rfl):OK f fn n:=by
 simp only[Bool.and_eq_true] at q
 obtain⟨q1,q2,q3,q4,q5⟩:=q
 refine⟨h,?_,Nat.eq_of_beq_eq_true q2,q3,q4,q5⟩
 unfold cd
 cases hb:fn.body with
 |none=>rw[hb] at q1;cases q1
 |some c=>rfl
theorem ci {f n:Nat} {fn:Func} (F:OK f fn n) (stops:List Nat) (L:List (Nat×List Nat)) {args:Array Value} {w:World} {R:RR} {Q:Prop} (q:Q) (hL:(lvLt n L&&Nat.ble args.size n)=true:=by kernel_rfl) (h:fnDen Tryz.prog Tryz.tt Tryz.cal f fn (cd fn) n stops (lvOf L) (blks Tryz.prog f fn (cd fn) n L R) R (envOf args.toList) [] w=Q:=by kernel_rfl):Call Tryz.prog f args w R:=by
 simp only[Bool.and_eq_true] at hL
 exact call_intro Tryz.tabOk Tryz.calOk Tryz.mixed F hL.1 (Nat.le_of_ble_eq_true hL.2) h q
theorem bi {f n r:Nat} {fn:Func} (F:OK f fn n) (stops:List Nat) (L:List (Nat×List Nat)) {live:List (Nat×Value)} {df:List Deferred} {w:World} {R:RR} {Q:Prop} (q:Q) (hL:lvLt n L=true:=by kernel_rfl) (h:∀d,fnDenAt Tryz.prog Tryz.tt Tryz.cal f fn (cd fn) n stops (lvOf L) (blks Tryz.prog f fn (cd fn) n L R) R r (envL d live) df w=Q:=by intro d;kernel_rfl):Blk Tryz.prog f fn (cd fn) n R r live df w:=
 blk_intro Tryz.tabOk Tryz.calOk Tryz.mixed F hL h q
end Go.Cub
