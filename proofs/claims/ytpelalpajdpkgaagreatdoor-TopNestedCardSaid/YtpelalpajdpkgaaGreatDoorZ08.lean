/-
  Part 9 of the proof that TopNested returns true and leaves what it was given as it was. CONDITIONS: those of the given row and card.
-/
import Derived.Test.YtpelalpajdpkgaaGreatDoorZ07
set_option linter.all false
namespace Go.Cub
open Go
structure Hp where
 o:Array Obj
 e:Os×Array (Nat×ByteArray)
def _root_.Go.World.hp (w:World):Hp:=⟨w.heap,w.os,w.output⟩
def wh (h:Hp):World:= {heap:=h.o,tape:=fun _ _=>0,drawn:=0,os:=h.e.1,output:=h.e.2}
theorem Mod.he {S:List Nat} {w w':World} (h:Mod S w w'):w'.hp.e=w.hp.e:=Prod.ext h.env.1 h.env.2
structure HP where
 at':Hp→List Nat→List Nat→Prop
 keep:∀ {h h' F G},at' h F G→(∀b,b∈F∨b∈G→h'.o[b]?=h.o[b]?)→h'.e=h.e→at' h' F G
 lt:∀ {h F G},at' h F G→∀b,b∈F∨b∈G→b<h.o.size
 dj:∀ {h F G},at' h F G→∀b∈F,b∉G
def OwnF (h:Hp):List HP→List Nat→List Nat→Prop
 |[],F,G=>F=[]∧G=[]
 |A::L,F,G=>∃F1 F2 G1 G2,F=F1++F2∧G=G1++G2∧A.at' h F1 G1∧OwnF h L F2 G2∧(∀b∈F1,b∉F2∧b∉G2)∧(∀b∈F2,b∉G1)
def Own (h:Hp) (L:List HP):Prop:=∃F G,OwnF h L F G
theorem OwnF.keep {h h':Hp}:∀ {L F G},OwnF h L F G→(∀b,b∈F∨b∈G→h'.o[b]?=h.o[b]?)→h'.e=h.e→OwnF h' L F G
 |[],F,G,o,_,_=>o
 |A::L,F,G,⟨F1,F2,G1,G2,e1,e2,a,o,d⟩,hk,he=>by
  subst e1;subst e2
  exact⟨F1,F2,G1,G2,rfl,rfl,A.keep a (fun b hb=>hk b (by simp only[List.mem_append];rcases hb with hb |hb<;>simp[hb])) he,o.keep (fun b hb=>hk b (by simp only[List.mem_append];rcases hb with hb |hb<;>simp[hb])) he,d⟩
theorem OwnF.lt {h:Hp}:∀ {L F G},OwnF h L F G→∀b,b∈F∨b∈G→b<h.o.size
 |[],F,G,⟨e1,e2⟩,b,hb=>by subst e1;subst e2;simp at hb
 |A::L,F,G,⟨F1,F2,G1,G2,e1,e2,a,o,d⟩,b,hb=>by
  subst e1;subst e2
  simp only[List.mem_append] at hb
  rcases hb with (hb |hb) |(hb |hb)
  ·exact A.lt a b (.inl hb)
  ·exact o.lt b (.inl hb)
  ·exact A.lt a b (.inr hb)
  ·exact o.lt b (.inr hb)
theorem OwnF.dj {h:Hp}:∀ {L F G},OwnF h L F G→∀b∈F,b∉G
 |[],F,G,⟨e1,e2⟩,b,hb=>by subst e1;simp at hb
 |A::L,F,G,⟨F1,F2,G1,G2,e1,e2,a,o,d1,d2⟩,b,hb=>by
  subst e1;subst e2
  simp only[List.mem_append,not_or] at hb ⊢
  rcases hb with hb |hb
  ·exact⟨A.dj a b hb,(d1 b hb).2⟩
  ·exact⟨d2 b hb,o.dj b hb⟩
namespace HP
def all (L:List HP):HP:=⟨fun h F G=>OwnF h L F G,OwnF.keep,OwnF.lt,OwnF.dj⟩
def ex {α:Sort _} (A:α→HP):HP:=⟨fun h F G=>∃x,(A x).at' h F G,fun⟨x,a⟩ hk he=>⟨x,(A x).keep a hk he⟩,fun⟨x,a⟩=>(A x).lt a,fun⟨x,a⟩=>(A x).dj a⟩
def pu (p:Prop):HP:=⟨fun _ F G=>p∧F=[]∧G=[],fun h _ _=>h,fun h b hb=>by obtain⟨_,rfl,rfl⟩:=h;simp at hb,fun h b hb=>by obtain⟨_,rfl,_⟩:=h;simp at hb⟩
end HP
section
variable {h:Hp} {A B:HP} {L L' M:List HP}
theorem Own.drop (H:Own h (A::L)):Own h L:=by
 obtain⟨F,G,F1,F2,G1,G2,e1,e2,a,o,d⟩:=H
 exact⟨F2,G2,o⟩
theorem OwnF.cons {F1 F2 G1 G2:List Nat} (a:A.at' h F1 G1) (o:OwnF h L F2 G2) (d1:∀b∈F1,b∉F2∧b∉G2) (d2:∀b∈F2,b∉G1):OwnF h (A::L) (F1++F2) (G1++G2):=
 ⟨F1,F2,G1,G2,rfl,rfl,a,o,d1,d2⟩
theorem OwnF.perm (p:L.Perm L'):∀ {F G},OwnF h L F G→∃F' G',OwnF h L' F' G'∧(∀b,b∈F'↔b∈F)∧(∀b,b∈G'↔b∈G):=by
 induction p with
 |nil=>exact fun o=>⟨_,_,o,fun _=>.rfl,fun _=>.rfl⟩
 |cons A p ih=>
  rintro F G ⟨F1,F2,G1,G2,e1,e2,a,o,d1,d2⟩
  obtain⟨F',G',o',hF,hG⟩:=ih o
  subst e1;subst e2
  refine⟨_,_,OwnF.cons a o' (fun b hb=>?_) (fun b hb=>d2 b ((hF b).1 hb)),fun b=>?_,fun b=>?_⟩
  ·rw[hF,hG];exact d1 b hb
  ·simp[hF]
  ·simp[hG]
 |swap A B L=>
  rintro F G ⟨F1,F2,G1,G2,e1,e2,a,⟨F3,F4,G3,G4,e3,e4,a',o,d3,d4⟩,d1,d2⟩
  subst e1;subst e2;subst e3;subst e4
  simp only[List.mem_append,not_or] at d1 d2
  refine⟨_,_,OwnF.cons a' (OwnF.cons a o (fun b hb=>⟨(d1 b hb).1.2,(d1 b hb).2.2⟩) (fun b hb=>d2 b (.inr hb))) (fun b hb=>?_) (fun b hb=>?_),fun b=>?_,fun b=>?_⟩
  ·simp only[List.mem_append,not_or]
   exact⟨⟨fun hb'=>(d1 b hb').1.1 hb,(d3 b hb).1⟩,d2 b (.inl hb),(d3 b hb).2⟩
  ·simp only[List.mem_append] at hb
   rcases hb with hb |hb
   ·exact(d1 b hb).2.1
   ·exact d4 b hb
  ·simp only[List.mem_append];grind
  ·simp only[List.mem_append];grind
 |trans p q ih1 ih2=>
  intro F G o
  obtain⟨F',G',o',h1,h2⟩:=ih1 o
  obtain⟨F'',G'',o'',h3,h4⟩:=ih2 o'
  exact⟨F'',G'',o'',fun b=>(h3 b).trans (h1 b),fun b=>(h4 b).trans (h2 b)⟩
theorem Own.perm (H:Own h L) (p:L.Perm L'):Own h L':=by
 obtain⟨F,G,o⟩:=H
 obtain⟨F',G',o',_⟩:=o.perm p
 exact⟨F',G',o'⟩
theorem OwnF.append {F2 G2:List Nat}:∀ {L F1 G1},OwnF h L F1 G1→OwnF h M F2 G2→(∀b∈F1,b∉F2∧b∉G2)→(∀b∈F2,b∉G1)→OwnF h (L++M) (F1++F2) (G1++G2)
 |[],_,_,⟨e1,e2⟩,o',_,_=>by subst e1;subst e2;exact o'
 |A::L,_,_,⟨F3,F4,G3,G4,e1,e2,a,o,d1,d2⟩,o',d3,d4=>by
  subst e1;subst e2
  simp only[List.mem_append,not_or] at d3 d4
  have :=OwnF.append (L:=L) o o' (fun b hb=>d3 b (.inr hb)) (fun b hb=>(d4 b hb).2)
  rw[List.append_assoc,List.append_assoc]
  refine OwnF.cons a this (fun b hb=>?_) (fun b hb=>?_)
  ·simp only[List.mem_append,not_or]
   exact⟨⟨(d1 b hb).1,(d3 b (.inl hb)).1⟩,(d1 b hb).2,(d3 b (.inl hb)).2⟩
  ·simp only[List.mem_append] at hb
   rcases hb with hb |hb
   ·exact d2 b hb
   ·exact(d4 b hb).1
theorem OwnF.split:∀ {L F G},OwnF h (L++M) F G→∃F1 F2 G1 G2,F=F1++F2∧G=G1++G2∧OwnF h L F1 G1∧OwnF h M F2 G2∧(∀b∈F1,b∉F2∧b∉G2)∧(∀b∈F2,b∉G1)
 |[],F,G,o=>⟨[],F,[],G,rfl,rfl,⟨rfl,rfl⟩,o,by simp,by simp⟩
 |A::L,F,G,⟨F3,F4,G3,G4,e1,e2,a,o,d1,d2⟩=>by
  obtain⟨F1,F2,G1,G2,e3,e4,o1,o2,d3,d4⟩:=OwnF.split (L:=L) o
  subst e1;subst e2;subst e3;subst e4
  simp only[List.mem_append,not_or] at d1 d2
  refine⟨F3++F1,F2,G3++G1,G2,by simp,by simp,OwnF.cons a o1 (fun b hb=>⟨(d1 b hb).1.1,(d1 b hb).2.1⟩) (fun b hb=>d2 b (.inl hb)),o2,fun b hb=>?_,fun b hb=>?_⟩
  ·simp only[List.mem_append] at hb
   rcases hb with hb |hb
   ·exact⟨(d1 b hb).1.2,(d1 b hb).2.2⟩
   ·exact d3 b hb
  ·simp only[List.mem_append,not_or]
   exact⟨d2 b (.inr hb),d4 b hb⟩
theorem own_all:Own h (.all L::M)↔Own h (L++M):=by
 constructor
 ·rintro⟨F,G,F1,F2,G1,G2,e1,e2,a,o,d1,d2⟩
  exact⟨_,_,OwnF.append (show OwnF h L F1 G1 from a) o d1 d2⟩
 ·rintro⟨F,G,o⟩
  obtain⟨F1,F2,G1,G2,e1,e2,o1,o2,d1,d2⟩:=o.split
  exact⟨_,_,OwnF.cons (A:=.all L) o1 o2 d1 d2⟩
theorem Own.mv1 {A X:HP} (H:Own h (A::X::L)):Own h (X::A::L):=H.perm ((List.perm_append_comm (l₁:=[A]) (l₂:=[X])).append_right L)
theorem Own.dp1 {A X:HP} (H:Own h (A::X::L)):Own h (A::L):=H.mv1.drop
theorem Own.bk1 {A X:HP} (H:Own h (X::A::L)):Own h (A::X::L):=H.perm ((List.perm_append_comm (l₁:=[X]) (l₂:=[A])).append_right L)
theorem Own.mv2 {A B X:HP} (H:Own h (A::B::X::L)):Own h (X::A::B::L):=H.perm ((List.perm_append_comm (l₁:=[A,B]) (l₂:=[X])).append_right L)
theorem Own.dp2 {A B X:HP} (H:Own h (A::B::X::L)):Own h (A::B::L):=H.mv2.drop
theorem Own.bk2 {A B X:HP} (H:Own h (X::A::B::L)):Own h (A::B::X::L):=H.perm ((List.perm_append_comm (l₁:=[X]) (l₂:=[A,B])).append_right L)
theorem Own.mv3 {A B C X:HP} (H:Own h (A::B::C::X::L)):Own h (X::A::B::C::L):=H.perm ((List.perm_append_comm (l₁:=[A,B,C]) (l₂:=[X])).append_right L)
theorem Own.dp3 {A B C X:HP} (H:Own h (A::B::C::X::L)):Own h (A::B::C::L):=H.mv3.drop
theorem Own.bk3 {A B C X:HP} (H:Own h (X::A::B::C::L)):Own h (A::B::C::X::L):=H.perm ((List.perm_append_comm (l₁:=[X]) (l₂:=[A,B,C])).append_right L)
theorem Own.mv4 {A B C D X:HP} (H:Own h (A::B::C::D::X::L)):Own h (X::A::B::C::D::L):=H.perm ((List.perm_append_comm (l₁:=[A,B,C,D]) (l₂:=[X])).append_right L)
theorem Own.dp4 {A B C D X:HP} (H:Own h (A::B::C::D::X::L)):Own h (A::B::C::D::L):=H.mv4.drop
theorem Own.bk4 {A B C D X:HP} (H:Own h (X::A::B::C::D::L)):Own h (A::B::C::D::X::L):=H.perm ((List.perm_append_comm (l₁:=[X]) (l₂:=[A,B,C,D])).append_right L)
theorem Own.mv5 {A B C D E X:HP} (H:Own h (A::B::C::D::E::X::L)):Own h (X::A::B::C::D::E::L):=H.perm ((List.perm_append_comm (l₁:=[A,B,C,D,E]) (l₂:=[X])).append_right L)
theorem Own.dp5 {A B C D E X:HP} (H:Own h (A::B::C::D::E::X::L)):Own h (A::B::C::D::E::L):=H.mv5.drop
theorem Own.bk5 {A B C D E X:HP} (H:Own h (X::A::B::C::D::E::L)):Own h (A::B::C::D::E::X::L):=H.perm ((List.perm_append_comm (l₁:=[X]) (l₂:=[A,B,C,D,E])).append_right L)
theorem Own.mv6 {A B C D E F X:HP} (H:Own h (A::B::C::D::E::F::X::L)):Own h (X::A::B::C::D::E::F::L):=H.perm ((List.perm_append_comm (l₁:=[A,B,C,D,E,F]) (l₂:=[X])).append_right L)
theorem Own.dp6 {A B C D E F X:HP} (H:Own h (A::B::C::D::E::F::X::L)):Own h (A::B::C::D::E::F::L):=H.mv6.drop
theorem Own.bk6 {A B C D E F X:HP} (H:Own h (X::A::B::C::D::E::F::L)):Own h (A::B::C::D::E::F::X::L):=H.perm ((List.perm_append_comm (l₁:=[X]) (l₂:=[A,B,C,D,E,F])).append_right L)
theorem Own.mv7 {A B C D E F G1 X:HP} (H:Own h (A::B::C::D::E::F::G1::X::L)):Own h (X::A::B::C::D::E::F::G1::L):=H.perm ((List.perm_append_comm (l₁:=[A,B,C,D,E,F,G1]) (l₂:=[X])).append_right L)
theorem Own.dp7 {A B C D E F G1 X:HP} (H:Own h (A::B::C::D::E::F::G1::X::L)):Own h (A::B::C::D::E::F::G1::L):=H.mv7.drop
theorem Own.bk7 {A B C D E F G1 X:HP} (H:Own h (X::A::B::C::D::E::F::G1::L)):Own h (A::B::C::D::E::F::G1::X::L):=H.perm ((List.perm_append_comm (l₁:=[X]) (l₂:=[A,B,C,D,E,F,G1])).append_right L)
theorem Own.mv8 {A B C D E F G1 G2 X:HP} (H:Own h (A::B::C::D::E::F::G1::G2::X::L)):Own h (X::A::B::C::D::E::F::G1::G2::L):=H.perm ((List.perm_append_comm (l₁:=[A,B,C,D,E,F,G1,G2]) (l₂:=[X])).append_right L)
theorem Own.dp8 {A B C D E F G1 G2 X:HP} (H:Own h (A::B::C::D::E::F::G1::G2::X::L)):Own h (A::B::C::D::E::F::G1::G2::L):=H.mv8.drop
theorem Own.bk8 {A B C D E F G1 G2 X:HP} (H:Own h (X::A::B::C::D::E::F::G1::G2::L)):Own h (A::B::C::D::E::F::G1::G2::X::L):=H.perm ((List.perm_append_comm (l₁:=[X]) (l₂:=[A,B,C,D,E,F,G1,G2])).append_right L)
theorem Own.mv9 {A B C D E F G1 G2 G3 X:HP} (H:Own h (A::B::C::D::E::F::G1::G2::G3::X::L)):Own h (X::A::B::C::D::E::F::G1::G2::G3::L):=H.perm ((List.perm_append_comm (l₁:=[A,B,C,D,E,F,G1,G2,G3]) (l₂:=[X])).append_right L)
theorem Own.dp9 {A B C D E F G1 G2 G3 X:HP} (H:Own h (A::B::C::D::E::F::G1::G2::G3::X::L)):Own h (A::B::C::D::E::F::G1::G2::G3::L):=H.mv9.drop
theorem Own.bk9 {A B C D E F G1 G2 G3 X:HP} (H:Own h (X::A::B::C::D::E::F::G1::G2::G3::L)):Own h (A::B::C::D::E::F::G1::G2::G3::X::L):=H.perm ((List.perm_append_comm (l₁:=[X]) (l₂:=[A,B,C,D,E,F,G1,G2,G3])).append_right L)
theorem Own.mv10 {A B C D E F G1 G2 G3 G4 X:HP} (H:Own h (A::B::C::D::E::F::G1::G2::G3::G4::X::L)):Own h (X::A::B::C::D::E::F::G1::G2::G3::G4::L):=H.perm ((List.perm_append_comm (l₁:=[A,B,C,D,E,F,G1,G2,G3,G4]) (l₂:=[X])).append_right L)
theorem Own.dp10 {A B C D E F G1 G2 G3 G4 X:HP} (H:Own h (A::B::C::D::E::F::G1::G2::G3::G4::X::L)):Own h (A::B::C::D::E::F::G1::G2::G3::G4::L):=H.mv10.drop
theorem Own.mv11 {A B C D E F G1 G2 G3 G4 G5 X:HP} (H:Own h (A::B::C::D::E::F::G1::G2::G3::G4::G5::X::L)):Own h (X::A::B::C::D::E::F::G1::G2::G3::G4::G5::L):=H.perm ((List.perm_append_comm (l₁:=[A,B,C,D,E,F,G1,G2,G3,G4,G5]) (l₂:=[X])).append_right L)
theorem Own.dp11 {A B C D E F G1 G2 G3 G4 G5 X:HP} (H:Own h (A::B::C::D::E::F::G1::G2::G3::G4::G5::X::L)):Own h (A::B::C::D::E::F::G1::G2::G3::G4::G5::L):=H.mv11.drop
theorem Own.mv12 {A B C D E F G1 G2 G3 G4 G5 G6 X:HP} (H:Own h (A::B::C::D::E::F::G1::G2::G3::G4::G5::G6::X::L)):Own h (X::A::B::C::D::E::F::G1::G2::G3::G4::G5::G6::L):=H.perm ((List.perm_append_comm (l₁:=[A,B,C,D,E,F,G1,G2,G3,G4,G5,G6]) (l₂:=[X])).append_right L)
theorem Own.dp12 {A B C D E F G1 G2 G3 G4 G5 G6 X:HP} (H:Own h (A::B::C::D::E::F::G1::G2::G3::G4::G5::G6::X::L)):Own h (A::B::C::D::E::F::G1::G2::G3::G4::G5::G6::L):=H.mv12.drop
theorem Own.mv13 {A B C D E F G1 G2 G3 G4 G5 G6 G7 X:HP} (H:Own h (A::B::C::D::E::F::G1::G2::G3::G4::G5::G6::G7::X::L)):Own h (X::A::B::C::D::E::F::G1::G2::G3::G4::G5::G6::G7::L):=H.perm ((List.perm_append_comm (l₁:=[A,B,C,D,E,F,G1,G2,G3,G4,G5,G6,G7]) (l₂:=[X])).append_right L)
theorem Own.dp13 {A B C D E F G1 G2 G3 G4 G5 G6 G7 X:HP} (H:Own h (A::B::C::D::E::F::G1::G2::G3::G4::G5::G6::G7::X::L)):Own h (A::B::C::D::E::F::G1::G2::G3::G4::G5::G6::G7::L):=H.mv13.drop
theorem Own.mv14 {A B C D E F G1 G2 G3 G4 G5 G6 G7 G8 X:HP} (H:Own h (A::B::C::D::E::F::G1::G2::G3::G4::G5::G6::G7::G8::X::L)):Own h (X::A::B::C::D::E::F::G1::G2::G3::G4::G5::G6::G7::G8::L):=H.perm ((List.perm_append_comm (l₁:=[A,B,C,D,E,F,G1,G2,G3,G4,G5,G6,G7,G8]) (l₂:=[X])).append_right L)
theorem Own.dp14 {A B C D E F G1 G2 G3 G4 G5 G6 G7 G8 X:HP} (H:Own h (A::B::C::D::E::F::G1::G2::G3::G4::G5::G6::G7::G8::X::L)):Own h (A::B::C::D::E::F::G1::G2::G3::G4::G5::G6::G7::G8::L):=H.mv14.drop
theorem Own.mv15 {A B C D E F G1 G2 G3 G4 G5 G6 G7 G8 G9 X:HP} (H:Own h (A::B::C::D::E::F::G1::G2::G3::G4::G5::G6::G7::G8::G9::X::L)):Own h (X::A::B::C::D::E::F::G1::G2::G3::G4::G5::G6::G7::G8::G9::L):=H.perm ((List.perm_append_comm (l₁:=[A,B,C,D,E,F,G1,G2,G3,G4,G5,G6,G7,G8,G9]) (l₂:=[X])).append_right L)
theorem Own.mv16 {A B C D E F G1 G2 G3 G4 G5 G6 G7 G8 G9 I1 X:HP} (H:Own h (A::B::C::D::E::F::G1::G2::G3::G4::G5::G6::G7::G8::G9::I1::X::L)):Own h (X::A::B::C::D::E::F::G1::G2::G3::G4::G5::G6::G7::G8::G9::I1::L):=H.perm ((List.perm_append_comm (l₁:=[A,B,C,D,E,F,G1,G2,G3,G4,G5,G6,G7,G8,G9,I1]) (l₂:=[X])).append_right L)
theorem all1 {A:HP}:Own h (.all [A]::M)↔Own h (A::M):=own_all
theorem all2 {A B:HP}:Own h (.all [A,B]::M)↔Own h (A::B::M):=own_all
theorem all3 {A B C:HP}:Own h (.all [A,B,C]::M)↔Own h (A::B::C::M):=own_all
theorem all4 {A B C D:HP}:Own h (.all [A,B,C,D]::M)↔Own h (A::B::C::D::M):=own_all
theorem all5 {A B C D E:HP}:Own h (.all [A,B,C,D,E]::M)↔Own h (A::B::C::D::E::M):=own_all
theorem all6 {A B C D E F:HP}:Own h (.all [A,B,C,D,E,F]::M)↔Own h (A::B::C::D::E::F::M):=own_all
theorem tl1 {A:HP}:Own h (A::L)↔Own h [A,.all L]:=⟨fun H=>Own.bk1 (own_all.2 (H.perm (List.perm_append_comm (l₁:=[A]) (l₂:=L)))),fun H=>(own_all.1 H.mv1).perm (List.perm_append_comm (l₁:=L) (l₂:=[A]))⟩
theorem tl2 {A B:HP}:Own h (A::B::L)↔Own h [A,B,.all L]:=⟨fun H=>Own.bk2 (own_all.2 (H.perm (List.perm_append_comm (l₁:=[A,B]) (l₂:=L)))),fun H=>(own_all.1 H.mv2).perm (List.perm_append_comm (l₁:=L) (l₂:=[A,B]))⟩
theorem tl3 {A B C:HP}:Own h (A::B::C::L)↔Own h [A,B,C,.all L]:=⟨fun H=>Own.bk3 (own_all.2 (H.perm (List.perm_append_comm (l₁:=[A,B,C]) (l₂:=L)))),fun H=>(own_all.1 H.mv3).perm (List.perm_append_comm (l₁:=L) (l₂:=[A,B,C]))⟩
theorem tl4 {A B C D:HP}:Own h (A::B::C::D::L)↔Own h [A,B,C,D,.all L]:=⟨fun H=>Own.bk4 (own_all.2 (H.perm (List.perm_append_comm (l₁:=[A,B,C,D]) (l₂:=L)))),fun H=>(own_all.1 H.mv4).perm (List.perm_append_comm (l₁:=L) (l₂:=[A,B,C,D]))⟩
theorem tl5 {A B C D E:HP}:Own h (A::B::C::D::E::L)↔Own h [A,B,C,D,E,.all L]:=⟨fun H=>Own.bk5 (own_all.2 (H.perm (List.perm_append_comm (l₁:=[A,B,C,D,E]) (l₂:=L)))),fun H=>(own_all.1 H.mv5).perm (List.perm_append_comm (l₁:=L) (l₂:=[A,B,C,D,E]))⟩
theorem tl6 {A B C D E F:HP}:Own h (A::B::C::D::E::F::L)↔Own h [A,B,C,D,E,F,.all L]:=⟨fun H=>Own.bk6 (own_all.2 (H.perm (List.perm_append_comm (l₁:=[A,B,C,D,E,F]) (l₂:=L)))),fun H=>(own_all.1 H.mv6).perm (List.perm_append_comm (l₁:=L) (l₂:=[A,B,C,D,E,F]))⟩
theorem tl7 {A B C D E F G1:HP}:Own h (A::B::C::D::E::F::G1::L)↔Own h [A,B,C,D,E,F,G1,.all L]:=⟨fun H=>Own.bk7 (own_all.2 (H.perm (List.perm_append_comm (l₁:=[A,B,C,D,E,F,G1]) (l₂:=L)))),fun H=>(own_all.1 H.mv7).perm (List.perm_append_comm (l₁:=L) (l₂:=[A,B,C,D,E,F,G1]))⟩
theorem tl8 {A B C D E F G1 G2:HP}:Own h (A::B::C::D::E::F::G1::G2::L)↔Own h [A,B,C,D,E,F,G1,G2,.all L]:=⟨fun H=>Own.bk8 (own_all.2 (H.perm (List.perm_append_comm (l₁:=[A,B,C,D,E,F,G1,G2]) (l₂:=L)))),fun H=>(own_all.1 H.mv8).perm (List.perm_append_comm (l₁:=L) (l₂:=[A,B,C,D,E,F,G1,G2]))⟩
theorem all7 {A B C D E F G1:HP}:Own h (.all [A,B,C,D,E,F,G1]::M)↔Own h (A::B::C::D::E::F::G1::M):=own_all
theorem all8 {A B C D E F G1 G2:HP}:Own h (.all [A,B,C,D,E,F,G1,G2]::M)↔Own h (A::B::C::D::E::F::G1::G2::M):=own_all
theorem all9 {A B C D E F G1 G2 G3:HP}:Own h (.all [A,B,C,D,E,F,G1,G2,G3]::M)↔Own h (A::B::C::D::E::F::G1::G2::G3::M):=own_all
theorem all10 {A B C D E F G1 G2 G3 G4:HP}:Own h (.all [A,B,C,D,E,F,G1,G2,G3,G4]::M)↔Own h (A::B::C::D::E::F::G1::G2::G3::G4::M):=own_all
theorem all13 {A B C D E F G1 G2 G3 G4 G5 G6 G7:HP}:Own h (.all [A,B,C,D,E,F,G1,G2,G3,G4,G5,G6,G7]::M)↔Own h (A::B::C::D::E::F::G1::G2::G3::G4::G5::G6::G7::M):=own_all
theorem all14 {A B C D E F G1 G2 G3 G4 G5 G6 G7 G8:HP}:Own h (.all [A,B,C,D,E,F,G1,G2,G3,G4,G5,G6,G7,G8]::M)↔Own h (A::B::C::D::E::F::G1::G2::G3::G4::G5::G6::G7::G8::M):=own_all
theorem tl9 {A B C D E F G1 G2 G3:HP}:Own h (A::B::C::D::E::F::G1::G2::G3::L)↔Own h [A,B,C,D,E,F,G1,G2,G3,.all L]:=⟨fun H=>Own.bk9 (own_all.2 (H.perm (List.perm_append_comm (l₁:=[A,B,C,D,E,F,G1,G2,G3]) (l₂:=L)))),fun H=>(own_all.1 H.mv9).perm (List.perm_append_comm (l₁:=L) (l₂:=[A,B,C,D,E,F,G1,G2,G3]))⟩
theorem own_ex {α:Sort _} {A:α→HP}:Own h (.ex A::M)↔∃x,Own h (A x::M):=by
 constructor
 ·rintro⟨F,G,F1,F2,G1,G2,e1,e2,⟨x,a⟩,o,d1,d2⟩
  exact⟨x,_,_,OwnF.cons a o d1 d2⟩
 ·rintro⟨x,F,G,F1,F2,G1,G2,e1,e2,a,o,d1,d2⟩
  exact⟨_,_,OwnF.cons (A:=.ex A) ⟨x,a⟩ o d1 d2⟩
theorem own_pu {p:Prop}:Own h (.pu p::M)↔p∧Own h M:=by
 constructor
 ·rintro⟨F,G,F1,F2,G1,G2,e1,e2,⟨x,e3,e4⟩,o,d1,d2⟩
  exact⟨x,_,_,o⟩
 ·rintro⟨x,F,G,o⟩
  exact⟨_,_,OwnF.cons (A:=.pu p) (F1:=[]) (G1:=[]) ⟨x,rfl,rfl⟩ o (by simp) (by simp)⟩
theorem Own.upd (H:Own h (A::L)):∃F G,A.at' h F G∧∀h' A' F' G',(∀b,b<h.o.size→b∉F→h'.o[b]?=h.o[b]?)→h'.e=h.e→A'.at' h' F' G'→(∀b∈F',b∈F∨h.o.size≤b)→(∀b∈G',b∈F∨b∈G∨h.o.size≤b)→Own h' (A'::L):=by
 obtain⟨F,G,F1,F2,G1,G2,e1,e2,a,o,d1,d2⟩:=H
 refine⟨F1,G1,a,fun h' A' F' G' hk he a' hF hG=>?_⟩
 have lt:=o.lt
 refine⟨_,_,OwnF.cons a' (o.keep (fun b hb=>hk b (lt b hb) fun hb'=>?_) he) (fun b hb=>?_) (fun b hb hb'=>?_)⟩
 ·rcases hb with hb |hb
  ·exact(d1 b hb').1 hb
  ·exact(d1 b hb').2 hb
 ·rcases hF b hb with h1 |h1
  ·exact d1 b h1
  ·exact⟨fun h2=>by have :=lt b (.inl h2);omega,fun h2=>by have :=lt b (.inr h2);omega⟩
 ·rcases hG b hb' with h1 |h1 |h1
  ·exact(d1 b h1).1 hb
  ·exact d2 b hb h1
  ·have :=lt b (.inl hb);omega
theorem Own.new (H:Own h L) {h':Hp} {A':HP} {F':List Nat} (hk:∀b,b<h.o.size→h'.o[b]?=h.o[b]?) (he:h'.e=h.e) (a:A'.at' h' F' []) (hF:∀b∈F',h.o.size≤b):Own h' (A'::L):=by
 obtain⟨F,G,o⟩:=H
 have lt:=o.lt
 refine⟨_,_,OwnF.cons a (o.keep (fun b hb=>hk b (lt b hb)) he) (fun b hb=>?_) (by simp)⟩
 have :=hF b hb
 exact⟨fun h2=>by have :=lt b (.inl h2);omega,fun h2=>by have :=lt b (.inr h2);omega⟩
theorem Own.ext (H:Own h L) {h':Hp} (hk:∀b,b<h.o.size→h'.o[b]?=h.o[b]?) (he:h'.e=h.e):Own h' L:=by
 obtain⟨F,G,o⟩:=H
 exact⟨_,_,o.keep (fun b hb=>hk b (o.lt b hb)) he⟩
theorem Own.imp (H:Own h (A::L)) (i:∀F G,A.at' h F G→∃F' G',B.at' h F' G'∧(∀b∈F',b∈F)∧(∀b∈G',b∈F∨b∈G)):Own h (B::L):=by
 obtain⟨F,G,a,hu⟩:=H.upd
 obtain⟨F',G',a',h1,h2⟩:=i F G a
 exact hu h B F' G' (fun _ _ _=>rfl) rfl a' (fun b hb=>.inl (h1 b hb)) (fun b hb=>by rcases h2 b hb with h |h<;>simp[h])
theorem Own.dup (H:Own h (A::L)) (i:∀F G,A.at' h F G→∃G',B.at' h [] G'∧(∀b∈G',b∈G)):Own h (B::A::L):=by
 obtain⟨F,G,F1,F2,G1,G2,e1,e2,a,o,d1,d2⟩:=H
 obtain⟨G',a',hG⟩:=i _ _ a
 subst e1;subst e2
 refine⟨_,_,OwnF.cons a' (OwnF.cons a o d1 d2) (by simp) (fun b hb hb'=>?_)⟩
 simp only[List.mem_append] at hb
 rcases hb with hb |hb
 ·exact A.dj a b hb (hG b hb')
 ·exact d2 b hb (hG b hb')
end
inductive Key where
 |b (n:Nat)
 |v (v:Value)
class Keyed (A:HP) (k:outParam Key):Prop where
class Foc (L:List HP) (k:Key) (A:outParam HP) (u:outParam (HP→List HP)) where
 rest:List HP
 eq:L=u A
 perm:∀A',(u A').Perm (A'::rest)
instance Foc.head {A:HP} {k:Key} {L:List HP} [Keyed A k]:Foc (A::L) k A (fun A'=>A'::L):=⟨L,rfl,fun _=>.refl _⟩
instance Foc.tail {A B:HP} {k:Key} {L:List HP} {u:HP→List HP} [f:Foc L k A u]:Foc (B::L) k A (fun A'=>B::u A'):=
 ⟨B::f.rest,by rw[←f.eq],fun A'=>((f.perm A').cons B).trans (.swap ..)⟩
section
variable {h:Hp} {L:List HP} {k:Key} {A:HP} {u:HP→List HP}
theorem Foc.get (f:Foc L k A u) (H:Own h L):Own h (A::f.rest):=by
 have :=f.eq
 rw[this] at H
 exact H.perm (f.perm A)
theorem Foc.put (f:Foc L k A u) {A':HP} (H:Own h (A'::f.rest)):Own h (u A'):=H.perm (f.perm A').symm
theorem Foc.put1 (f:Foc L k A u) {A' X:HP} (H:Own h (X::A'::f.rest)):Own h (X::u A'):=H.perm ((f.perm A').symm.cons X)
theorem Foc.put2 (f:Foc L k A u) {A' X Y:HP} (H:Own h (X::Y::A'::f.rest)):Own h (X::Y::u A'):=H.perm (((f.perm A').symm.cons Y).cons X)
end
end Go.Cub
namespace Go.Cub
open Go
theorem row_get {h h':Hp} {b:Nat} (e:h'.o[b]?=h.o[b]?):row (wh h') b=row (wh h) b:=by simp only[row,wh,e]
theorem mapAt_get {h h':Hp} {b:Nat} (e:h'.o[b]?=h.o[b]?):mapAt (wh h') b=mapAt (wh h) b:=by simp only[mapAt,wh,e]
abbrev ptrV (p:Nat):Value:=.pointer (some ⟨p,0,none⟩)
def pt (b:Nat) (cs:List Value):HP:=⟨fun h F G=>row (wh h) b=some cs∧F=[b]∧G=[],
 fun⟨h1,h2,h3⟩ hk _=>⟨by rw[row_get (hk b (by simp[h2]))];exact h1,h2,h3⟩,
 fun⟨h1,h2,h3⟩ x hx=>by subst h2;subst h3;simp at hx;subst hx;exact row_lt h1,
 fun⟨h1,h2,h3⟩ x hx=>by subst h3;simp⟩
def mpi (r:Nat) (k:IntKind) (ps:List (Nat×Value)):HP:=⟨fun h F G=>MapI (wh h) r k ps∧F=[r]∧G=[],
 fun⟨h1,h2,h3⟩ hk _=>⟨by
  obtain⟨es,clock,h4,h5⟩:=h1
  exact⟨es,clock,by rw[mapAt_get (hk r (by simp[h2]))];exact h4,h5⟩,h2,h3⟩,
 fun⟨h1,h2,h3⟩ x hx=>by subst h2;subst h3;simp at hx;subst hx;exact h1.lt,
 fun⟨h1,h2,h3⟩ x hx=>by subst h3;simp⟩
theorem Sl.get {h h':Hp} {v:Value} {size n:Nat} {cells:List Value} {F:List Nat} (s:Sl (wh h) v size n cells F) (hk:∀b∈F,h'.o[b]?=h.o[b]?):Sl (wh h') v size n cells F:=by
 obtain⟨h1,h2⟩:=s
 refine⟨h1,?_⟩
 rcases h2 with h2 |⟨b,off,cap,cs,e1,e2,e3,e4⟩
 ·exact .inl h2
 ·exact .inr ⟨b,off,cap,cs,e1,e2,by rw[row_get (hk b (by simp[e2]))];exact e3,e4⟩
structure Enc (α:Type) where
 k:Nat
 c:α→List Value
 hk:∀x,(c x).length=k
 one:∀x,∀v∈c x,v.oneCell'=true
def Enc.fl {α:Type} (E:Enc α) (xs:List α):List Value:=xs.flatMap E.c
def sle {α:Type} (v:Value) (E:Enc α) (xs:List α):HP:=⟨fun h F G=>Sl (wh h) v E.k xs.length (E.fl xs) F∧G=[],
 fun⟨h1,h2⟩ hk _=>⟨h1.get fun b hb=>hk b (.inl hb),h2⟩,
 fun⟨h1,h2⟩ x hx=>by subst h2;simp at hx;exact h1.lt x hx,
 fun⟨h1,h2⟩ x hx=>by subst h2;simp⟩
def imm (v:Value) (bs:List UInt8):HP:=⟨fun h F G=>Bs (wh h) v bs G∧F=[],
 fun⟨h1,h2⟩ hk _=>⟨Bs.keepG h1 fun b hb=>hk b (.inr hb),h2⟩,
 fun⟨h1,h2⟩ x hx=>by subst h2;simp at hx;exact h1.lt x hx,
 fun⟨h1,h2⟩ x hx=>by subst h2;simp at hx⟩
def prd (b:Nat) (cs:List Value):HP:=⟨fun h F G=>row (wh h) b=some cs∧F=[]∧G=[b],
 fun⟨h1,h2,h3⟩ hk _=>⟨by rw[row_get (hk b (by simp[h3]))];exact h1,h2,h3⟩,
 fun⟨h1,h2,h3⟩ x hx=>by subst h2;subst h3;simp at hx;subst hx;exact row_lt h1,
 fun⟨h1,h2,h3⟩ x hx=>by subst h2;simp at hx⟩
instance {b:Nat} {cs:List Value}:Keyed (prd b cs) (.b b):=⟨⟩
instance {b:Nat} {cs:List Value}:Keyed (pt b cs) (.b b):=⟨⟩
instance {b:Nat} {k:IntKind} {ps:List (Nat×Value)}:Keyed (mpi b k ps) (.b b):=⟨⟩
instance {α:Type} {v:Value} {E:Enc α} {xs:List α}:Keyed (sle v E xs) (.v v):=⟨⟩
instance {v:Value} {bs:List UInt8}:Keyed (imm v bs) (.v v):=⟨⟩
section
variable {w:World} {b off n:Nat} {cs:List Value} {L:List HP} {u:HP→List HP} {v x:Value}
theorem Mod.heap {S:List Nat} {w w':World} (h:Mod S w w'):∀b,b<w.heap.size→b∉S→w'.heap[b]?=w.heap[b]?:=h.same
theorem Own.mod {A A':HP} {w':World} {S F' G':List Nat} (H:Own w.hp (A::L)) (hm:Mod S w w') (hS:∀F G,A.at' w.hp F G→∀b∈S,b∈F) (a:∀F G,A.at' w.hp F G→A'.at' w'.hp F' G')
  (hF:∀F G,A.at' w.hp F G→∀b∈F',b∈F∨w.heap.size≤b) (hG:∀F G,A.at' w.hp F G→∀b∈G',b∈F∨b∈G∨w.heap.size≤b):Own w'.hp (A'::L):=by
 obtain⟨F,G,a0,hu⟩:=H.upd
 exact hu _ _ F' G' (fun b hb hF=>hm.same b hb fun hb'=>hF (hS F G a0 b hb')) hm.he (a F G a0) (hF F G a0) (hG F G a0)
theorem Own.modNew {A':HP} {w':World} {F':List Nat} (H:Own w.hp L) (hm:Ext w w') (a:A'.at' w'.hp F' []) (hF:∀b∈F',w.heap.size≤b):Own w'.hp (A'::L):=
 H.new (fun b hb=>hm.same b hb (by simp)) hm.he a hF
theorem Own.row (H:Own w.hp (pt b cs::L)):row w b=some cs:=by
 obtain⟨F,G,F1,F2,G1,G2,e1,e2,a,o,d⟩:=H
 exact a.1
theorem own_pt {w':World} {cs':List Value} (H:Own w.hp (pt b cs::L)) (hm:Mod [b] w w') (hr:Go.Cub.row w' b=some cs'):Own w'.hp (pt b cs'::L):=
 H.mod hm (fun F G a x hx=>by rw[a.2.1];exact hx) (F':=[b]) (G':=[]) (fun F G a=>⟨hr,rfl,rfl⟩) (fun F G a x hx=>.inl (by rw[a.2.1];exact hx)) (by simp)
theorem L1o {K:Value→Prop} [f:Foc L (.b b) (pt b cs) u] (H:Own w.hp L) (hv:cs[off]?=some v) (hk:K v):L1 (.pointer (some ⟨b,off,none⟩)) w K:=
 L1_of (f.get H).row hv hk
theorem L1r {K:Value→Prop} [f:Foc L (.b b) (prd b cs) u] (H:Own w.hp L) (hv:cs[off]?=some v) (hk:K v):L1 (.pointer (some ⟨b,off,none⟩)) w K:=by
 obtain⟨F,G,F1,F2,G1,G2,e1,e2,a,o,d⟩:=f.get H
 exact L1_of a.1 hv hk
theorem LNo {K:Value→Prop} [f:Foc L (.b b) (pt b cs) u] (H:Own w.hp L) (hv:off+n≤cs.length) (hk:K (.agg ((cs.drop off).take n).toArray)):LN n (.pointer (some ⟨b,off,none⟩)) w K:=
 LN_of (f.get H).row hv hk
theorem S1o {K:World→Prop} [f:Foc L (.b b) (pt b cs) u] (H:Own w.hp L) (ho:(cs[off]?).isSome=true) (hx:x.oneCell'=true) (hk:∀w',Own w'.hp (u (pt b (cs.set off x)))→K w'):
  S1 (.pointer (some ⟨b,off,none⟩)) x w K:=by
 refine S1_of (f.get H).row ?_ hx fun w' hr hm _=>hk w' (f.put (own_pt (f.get H) hm hr))
 rcases Nat.lt_or_ge off cs.length with h |h
 ·exact h
 ·rw[List.getElem?_eq_none h] at ho;cases ho
theorem SNo {K:World→Prop} [f:Foc L (.b b) (pt b cs) u] (H:Own w.hp L) (hn:v.cells.size=n) (ho:off+n≤cs.length) (hx:∀x∈v.cells.toList,x.oneCell'=true)
  (hk:∀w',Own w'.hp (u (pt b (splice cs off v.cells.toList)))→K w'):SN n (.pointer (some ⟨b,off,none⟩)) v w K:=
 SN_of (f.get H).row hn ho hx fun w' hr hm _=>hk w' (f.put (own_pt (f.get H) hm hr))
theorem NEWo {e:TypeId} {c:Array Value} {K:Value→World→Prop} (H:Own w.hp L) (hk:∀b w',Own w'.hp (pt b c.toList::L)→K (ptrV b) w'):NEW e c w K:=
 NEW_of fun b w' hb hr he _=>hk b w' (H.modNew he (F':=[b]) ⟨hr,rfl,rfl⟩ (by simp[hb]))
theorem NSo {e:TypeId} {c:Array Value} {K:Value→World→Prop} (H:Own w.hp L) (hc:c.size=n) (hn:v.cells.size=n) (hx:∀x∈v.cells.toList,x.oneCell'=true)
  (hk:∀b w',Own w'.hp (pt b v.cells.toList::L)→K (ptrV b) w'):NEW e c w fun t w'=>SN n t v w' fun w''=>K t w'':=by
 refine NEWo H fun b w' H=>SNo H hn ?_ hx fun w'' H=>hk b w'' ?_
 ·simp[hc]
 ·have :splice c.toList 0 v.cells.toList=v.cells.toList:=by simp[splice,hc,hn]
  rw[this] at H;exact H
def sbase:Value→Nat×Nat
 |.slice (some a) _ _=>(a.block,a.off)
 |_=>(0,0)
def elp (k:Nat) (v:Value) (i j:Nat):Value:=.pointer (some ⟨(sbase v).1,(sbase v).2+i * k+j,none⟩)
@[simp] theorem fldV_elp (o k:Nat) (v:Value) (i j:Nat):fldV o (elp k v i j)=some (elp k v i (j+o)):=by simp[elp,Nat.add_assoc]
@[simp] theorem nilV_elp (k:Nat) (v:Value) (i j:Nat):nilV (elp k v i j)=some (elp k v i j):=rfl
theorem idxA_ptr {m s:Nat} {kd:IntKind} {i:Nat} (hi:i<m):idxA m s (.pointer (some ⟨b,off,none⟩)) (.int kd i)=some (.pointer (some ⟨b,off+i * s,none⟩)):=by
 have hadd:(Addr.add ⟨b,off,none⟩ (i * s))=⟨b,off+i * s,none⟩:=by unfold Addr.add;by_cases e:i * s=0<;>simp[e]
 simp only[idxA,Int.toNat_natCast,hadd]
 rw[if_pos ⟨by omega,by omega⟩]
theorem idxA_elp {k m s j l:Nat} {kd:IntKind} {i:Nat} (hi:i<m):idxA m s (elp k v l j) (.int kd i)=some (elp k v l (j+i * s)):=by
 simp only[elp]
 rw[idxA_ptr hi,Nat.add_assoc]
section
variable {α:Type} {E:Enc α} {xs:List α} {i k:Nat} {kd:IntKind} {y:α}
theorem Enc.fl_length (E:Enc α) (xs:List α):(E.fl xs).length=xs.length * E.k:=by
 unfold Enc.fl
 induction xs with
 |nil=>simp
 |cons x xs ih=>simp[ih,E.hk,Nat.add_mul,Nat.add_comm]
theorem Enc.fl_get (E:Enc α):∀(xs:List α) (i:Nat) (y:α),xs[i]?=some y→∀j,j<E.k→(E.fl xs)[i * E.k+j]?=(E.c y)[j]?
 |[],i,y,h,j,hj=>by simp at h
 |x::xs,0,y,h,j,hj=>by
  simp only[List.getElem?_cons_zero,Option.some.injEq] at h
  subst h
  simp only[Enc.fl,List.flatMap_cons,Nat.zero_mul,Nat.zero_add]
  rw[List.getElem?_append_left (by rw[E.hk];exact hj)]
 |x::xs,i+1,y,h,j,hj=>by
  have ih:=Enc.fl_get E xs i y (by simpa using h) j hj
  have e:(E.fl (x::xs))=E.c x++E.fl xs:=rfl
  rw[e,List.getElem?_append_right (by rw[E.hk,Nat.add_one_mul];omega),E.hk,Nat.add_one_mul, ←ih]
  congr 1;omega
theorem Enc.fl_append (E:Enc α) (xs ys:List α):E.fl (xs++ys)=E.fl xs++E.fl ys:=by simp[Enc.fl]
theorem Enc.fl_splice (E:Enc α):∀(xs:List α) (i:Nat) (y y':α) (q:Nat) (vs:List Value),xs[i]?=some y→splice (E.c y) q vs=E.c y'→q+vs.length≤E.k→splice (E.fl xs) (i * E.k+q) vs=E.fl (xs.set i y')
 |[],i,y,y',q,vs,h,_,_=>by simp at h
 |x::xs,0,y,y',q,vs,h,he,hq=>by
  simp only[List.getElem?_cons_zero,Option.some.injEq] at h
  subst h
  have e:(E.fl (x::xs))=E.c x++E.fl xs:=rfl
  have e':(E.fl ((x::xs).set 0 y'))=E.c y'++E.fl xs:=rfl
  rw[e,e', ←he]
  have hl:=E.hk x
  simp only[splice,Nat.zero_mul,Nat.zero_add]
  rw[List.take_append_of_le_length (by omega),List.drop_append_of_le_length (by omega)]
  simp
 |x::xs,i+1,y,y',q,vs,h,he,hq=>by
  have ih:=Enc.fl_splice E xs i y y' q vs (by simpa using h) he hq
  have e:(E.fl (x::xs))=E.c x++E.fl xs:=rfl
  have e':(E.fl ((x::xs).set (i+1) y'))=E.c x++E.fl (xs.set i y'):=rfl
  have hl:=E.hk x
  rw[e,e', ←ih]
  simp only[splice,Nat.add_one_mul]
  rw[show i * E.k+E.k+q=(E.c x).length+(i * E.k+q) by omega,List.take_length_add_append,Nat.add_assoc,List.drop_length_add_append]
  simp
theorem Own.sl (H:Own w.hp (sle v E xs::L)):∃F,Sl w v E.k xs.length (E.fl xs) F:=by
 obtain⟨F,G,F1,F2,G1,G2,e1,e2,a,o,d⟩:=H
 exact⟨_,a.1⟩
theorem own_sle {w':World} {xs':List α} (H:Own w.hp (sle v E xs::L)) (h:∀F,Sl w v E.k xs.length (E.fl xs) F→Mod F w w'∧Sl w' x E.k xs'.length (E.fl xs') F):Own w'.hp (sle x E xs'::L):=by
 obtain⟨F,G,a,hu⟩:=H.upd
 obtain⟨h1,h2⟩:=h F a.1
 exact hu _ _ F [] (fun b hb hF=>h1.same b hb hF) h1.he ⟨h2,rfl⟩ (fun b hb=>.inl hb) (by simp)
theorem leno [f:Foc L (.v v) (sle v E xs) u] (H:Own w.hp L):lenS v=some (.int .i64 xs.length):=by
 obtain⟨F,s⟩:=(f.get H).sl
 exact s.len
theorem Sl.elp {w:World} {size n:Nat} {cells:List Value} {F:List Nat} (h:Sl w v size n cells F) {i:Nat} (hi:i<n):∃b o cs,v=.slice (some ⟨b,o,none⟩) n (match v with |.slice _ _ c=>c |_=>0)∧F=[b]∧row w b=some cs∧o+i * size+size≤cs.length∧
  Go.Cub.elp size v i 0=.pointer (some ⟨b,o+i * size,none⟩)∧idxS size v (.int kd i)=some (Go.Cub.elp size v i 0)∧(∀j,j<size→cs[o+i * size+j]?=cells[i * size+j]?)∧
  (∀(vs:List Value) (q:Nat),q+vs.length≤size→∀w',row w' b=some (splice cs (o+i * size+q) vs)→Sl w' v size n (splice cells (i * size+q) vs) F):=by
 obtain⟨b,o,cs,h1,h2,h3,h4,h5,h6⟩:=h.idx (k:=kd) hi
 rcases h.2 with ⟨rfl,rfl,_⟩ |⟨b',off,cap,cs',rfl,e2,e3,e4,e5,e6⟩
 ·omega
 ·have hadd:(Addr.add ⟨b',off,none⟩ (i * size))=⟨b',off+i * size,none⟩:=by unfold Addr.add;by_cases e:i * size=0<;>simp[e]
  have h1':=h1
  simp only[idxS,Int.toNat_natCast,hadd] at h1'
  rw[if_pos ⟨by omega,by omega⟩] at h1'
  simp only[Option.some.injEq,Value.pointer.injEq,Addr.mk.injEq] at h1'
  obtain⟨rfl,rfl,_⟩:=h1'
  exact⟨b',off,cs,rfl,h2,h3,h4,by simp[Go.Cub.elp,sbase],by rw[h1];simp[Go.Cub.elp,sbase],h5,h6⟩
theorem idxo [f:Foc L (.v v) (sle v E xs) u] {K:Value→Prop} (H:Own w.hp L) (hi:i<xs.length) (hk:K (elp E.k v i 0)):PV (idxS E.k v (.int kd i)) K:=by
 obtain⟨F,s⟩:=(f.get H).sl
 obtain⟨b,o,cs,_,_,_,_,_,h,_⟩:=s.elp (kd:=kd) hi
 rw[h];exact hk
theorem elp_add (k:Nat) (v:Value) (i j:Nat) {b o:Nat} (h:elp k v i 0=.pointer (some ⟨b,o,none⟩)):elp k v i j=.pointer (some ⟨b,o+j,none⟩):=by
 simp only[elp,Value.pointer.injEq,Option.some.injEq,Addr.mk.injEq,Nat.add_zero,and_true] at h ⊢
 exact⟨h.1,by rw[h.2]⟩
theorem lt_of_get {α:Type} {l:List α} {i:Nat} {x:α} (h:l[i]?=some x):i<l.length:=by
 rcases Nat.lt_or_ge i l.length with h1 |h1
 ·exact h1
 ·rw[List.getElem?_eq_none h1] at h;cases h
theorem L1e [f:Foc L (.v v) (sle v E xs) u] {K:Value→Prop} {z:Value} {j:Nat} (H:Own w.hp L) (hx:xs[i]?=some y) (hj:(E.c y)[j]?=some z) (hk:K z):L1 (elp E.k v i j) w K:=by
 obtain⟨F,s⟩:=(f.get H).sl
 obtain⟨b,o,cs,_,_,h1,h2,h3,h,h4,_⟩:=s.elp (kd:=.i64) (lt_of_get hx)
 have hjk:j<E.k:=by have :=lt_of_get hj;rwa[E.hk] at this
 rw[elp_add _ _ _ j h3]
 exact L1_of h1 (by rw[h4 j hjk,E.fl_get xs i y hx j hjk,hj]) hk
theorem LNe [f:Foc L (.v v) (sle v E xs) u] {K:Value→Prop} (H:Own w.hp L) (hx:xs[i]?=some y) (hk:K (.agg (E.c y).toArray)):LN E.k (elp E.k v i 0) w K:=by
 obtain⟨F,s⟩:=(f.get H).sl
 obtain⟨b,o,cs,_,_,h1,h2,h3,h,h4,_⟩:=s.elp (kd:=.i64) (lt_of_get hx)
 rw[h3]
 refine LN_of h1 (by omega) ?_
 have :(cs.drop (o+i * E.k)).take E.k=E.c y:=by
  apply List.ext_getElem?
  intro j
  by_cases hj:j<E.k
  ·rw[List.getElem?_take,if_pos hj,List.getElem?_drop,h4 j hj,E.fl_get xs i y hx j hj]
  ·rw[List.getElem?_take,if_neg hj,List.getElem?_eq_none (by rw[E.hk];omega)]
 rw[this];exact hk
theorem S1e [f:Foc L (.v v) (sle v E xs) u] {K:World→Prop} {z:Value} {j:Nat} (y':α) (H:Own w.hp L) (hx:xs[i]?=some y) (hj:j<E.k) (he:(E.c y).set j z=E.c y') (hz:z.oneCell'=true)
  (hk:∀w',Own w'.hp (u (sle v E (xs.set i y')))→K w'):S1 (elp E.k v i j) z w K:=by
 obtain⟨F,s⟩:=(f.get H).sl
 obtain⟨b,o,cs,_,hF,h1,h2,h3,h,h4,h5⟩:=s.elp (kd:=.i64) (lt_of_get hx)
 rw[elp_add _ _ _ j h3]
 refine S1_of h1 (by omega) hz fun w' hr hm _=>hk w' (f.put (own_sle (f.get H) fun F' s'=>?_))
 obtain⟨b',o',cs',_,hF',h1',h2',h3',h',h4',h5'⟩:=s'.elp (kd:=.i64) (lt_of_get hx)
 rw[h3] at h3'
 simp only[Value.pointer.injEq,Option.some.injEq,Addr.mk.injEq,and_true] at h3'
 obtain⟨rfl,h3'⟩:=h3'
 rw[h1] at h1'
 simp only[Option.some.injEq] at h1'
 subst h1'
 refine⟨by rw[hF'];exact hm,?_⟩
 have h6:=h5' [z] j (by simp;omega) w' (by rw[splice_one (by omega), ←h3'];exact hr)
 rw[E.fl_splice xs i y y' j [z] hx (by rw[splice_one (by rw[E.hk];exact hj)];exact he) (by simp;omega)] at h6
 simpa using h6
theorem SNe [f:Foc L (.v v) (sle v E xs) u] {K:World→Prop} {z:Value} (y':α) (H:Own w.hp L) (hx:xs[i]?=some y) (he:z.cells.toList=E.c y') (hk:∀w',Own w'.hp (u (sle v E (xs.set i y')))→K w'):
  SN E.k (elp E.k v i 0) z w K:=by
 obtain⟨F,s⟩:=(f.get H).sl
 obtain⟨b,o,cs,_,hF,h1,h2,h3,h,h4,h5⟩:=s.elp (kd:=.i64) (lt_of_get hx)
 rw[h3]
 have hl:z.cells.size=E.k:=by rw[←Array.length_toList,he,E.hk]
 refine SN_of h1 hl h2 (by rw[he];exact E.one y') fun w' hr hm _=>hk w' (f.put (own_sle (f.get H) fun F' s'=>?_))
 obtain⟨b',o',cs',_,hF',h1',h2',h3',h',h4',h5'⟩:=s'.elp (kd:=.i64) (lt_of_get hx)
 rw[h3] at h3'
 simp only[Value.pointer.injEq,Option.some.injEq,Addr.mk.injEq,and_true] at h3'
 obtain⟨rfl,h3'⟩:=h3'
 rw[h1] at h1'
 simp only[Option.some.injEq] at h1'
 subst h1'
 refine⟨by rw[hF'];exact hm,?_⟩
 have h6:=h5' z.cells.toList 0 (by simp[hl]) w' (by rw[←h3',Nat.add_zero];exact hr)
 rw[E.fl_splice xs i y y' 0 _ hx (by simp[splice,he,E.hk]) (by simp[hl])] at h6
 simpa using h6
theorem sl_nil (E:Enc α) (H:Own w.hp L):Own w.hp (sle (.slice none 0 0) E []::L):=
 H.modNew (Mod.refl _ _) (F':=[]) ⟨Sl.nil _ _,rfl⟩ (by simp)
theorem NEWSo {e:TypeId} {m:Nat} {o:Option (Array Value)} {cs:Array Value} {K:Value→World→Prop} (E:Enc α) (xs:List α) (H:Own w.hp L) (ho:o=some cs) (hx:cs.toList=E.fl xs) (hm:xs.length=m)
  (hk:∀v w',Own w'.hp (sle v E xs::L)→K v w'):NEWS e m o w K:=by
 refine NEWS_of E.k ho ?_ fun v w' F' s he hF=>hk v w' (H.modNew he (F':=F') ⟨?_,rfl⟩ hF)
 ·rw[←Array.length_toList,hx,E.fl_length,hm]
 ·rw[hx, ←hm] at s;exact s
theorem MKSo {e by_ m c:Nat} {z:Value} {k1 k2:IntKind} {K:Value→World→Prop} (E:Enc α) (y:α) (H:Own w.hp L) (hz:z.cells.toList=E.c y) (hm:m≤c) (hc:c≤1099511627776) (hb:by_≤256)
  (hk:∀v w',Own w'.hp (sle v E (List.replicate m y)::L)→K v w'):MKS e by_ z (.int k1 m) (.int k2 c) w K:=by
 refine MKS_of E.k ?_ hm hc hb fun v w' F' s he hF=>hk v w' (H.modNew he (F':=F') ⟨?_,rfl⟩ hF)
 ·rw[←Array.length_toList,hz,E.hk]
 ·have :zeros z.cells.toList m=E.fl (List.replicate m y):=by simp[zeros,Enc.fl,hz,List.flatMap]
  rw[this] at s
  have e:(List.replicate m y).length=m:=by simp
  show Sl w' v E.k (List.replicate m y).length _ F'
  rw[e];exact s
theorem APPo [f:Foc L (.v v) (sle v E xs) u] {u2:HP→List HP} {ys:List α} [g:Foc L (.v x) (sle x E ys) u2] {e by_:Nat} {z:Value} {K:Value→World→Prop} (H:Own w.hp L) (hz:z.cells.size=E.k) (hb:0<by_∧by_≤1024)
  (hn:xs.length+ys.length≤68719476736) (hk:∀v' w',Own w'.hp (u (sle v' E (xs++ys)))→K v' w'):APP e E.k by_ z v x w K:=by
 obtain⟨F,G,a,hu⟩:=(f.get H).upd
 obtain⟨Fy,sy⟩:=(g.get H).sl
 refine APP_of (show Sl w v E.k xs.length (E.fl xs) F from a.1) sy.srcLen sy.src sy.length ?_ hb hz hn fun s' w' F' s hm hF=>?_
 ·intro t ht
  simp only[Enc.fl,List.mem_flatMap] at ht
  obtain⟨y,_,hy⟩:=ht
  exact E.one y t hy
 ·refine hk s' w' (f.put (hu _ _ F' [] (fun b hb hF=>hm.same b hb hF) hm.he ⟨?_,rfl⟩ hF (by simp)))
  rw[←E.fl_append] at s
  show Sl w' s' E.k (xs++ys).length _ F'
  rw[List.length_append];exact s
end
section
variable {bs:List UInt8}
theorem Own.im (H:Own w.hp (imm v bs::L)):∃G,Bs w v bs G:=by
 obtain⟨F,G,F1,F2,G1,G2,e1,e2,a,o,d⟩:=H
 exact⟨_,a.1⟩
theorem imlen [f:Foc L (.v v) (imm v bs) u] (H:Own w.hp L):lenS v=some (.int .i64 bs.length):=by
 obtain⟨G,s⟩:=(f.get H).im
 exact s.len
theorem imm_nil (H:Own w.hp L):Own w.hp (imm (.slice none 0 0) []::L):=
 H.new (fun _ _=>rfl) rfl (F':=[]) (A':=imm (.slice none 0 0) []) ⟨Bs.nil _,rfl⟩ (by simp)
theorem imdup [f:Foc L (.v v) (imm v bs) u] {h:Hp} (H:Own h L):Own h (imm v bs::L):=by
 have h1:=(f.get H).dup (B:=imm v bs) fun F G a=>⟨G,⟨a.1,rfl⟩,fun _ h=>h⟩
 have h2:=f.eq
 exact(h1.perm ((f.perm (imm v bs)).symm.cons _)).perm (by rw[←h2])
def u8E:Enc UInt8:=⟨1,fun b=>[u8V b],fun _=>rfl,fun b v hv=>by simp at hv;subst hv;rfl⟩
theorem u8E_fl (bs:List UInt8):u8E.fl bs=bs.map u8V:=by
 induction bs with
 |nil=>rfl
 |cons b bs ih=>
  show[u8V b]++u8E.fl bs=_
  rw[ih];rfl
theorem freeze [f:Foc L (.v v) (sle v u8E bs) u] {h:Hp} (H:Own h L):Own h (u (imm v bs)):=
 f.put ((f.get H).imp fun F G a=>⟨[],F,⟨by
  have :=a.1
  rw[u8E_fl] at this
  exact Bs.of_sl this,rfl⟩,by simp,fun b hb=>.inl hb⟩)
theorem BTSo [f:Foc L (.v v) (imm v bs) u] {K:Value→Prop} (H:Own w.hp L) (hk:K (.string ⟨bs.toArray⟩)):BTS v w K:=by
 obtain⟨G,s⟩:=(f.get H).im
 exact s.bts hk
end
section
variable {k k':IntKind} {ps:List (Nat×Value)} {r i:Nat}
theorem Own.mp (H:Own w.hp (mpi r k ps::L)):MapI w r k ps:=by
 obtain⟨F,G,F1,F2,G1,G2,e1,e2,a,o,d⟩:=H
 exact a.1
theorem own_mp {w':World} {ps':List (Nat×Value)} (H:Own w.hp (mpi r k ps::L)) (hm:Mod [r] w w') (h:MapI w' r k ps'):Own w'.hp (mpi r k ps'::L):=
 H.mod hm (fun F G a x hx=>by rw[a.2.1];exact hx) (F':=[r]) (G':=[]) (fun F G a=>⟨h,rfl,rfl⟩) (fun F G a x hx=>.inl (by rw[a.2.1];exact hx)) (by simp)
theorem LKo [f:Foc L (.b r) (mpi r k ps) u] {z:Value} {K:Value→Prop} (H:Own w.hp L) (hk:K (.tuple #[(lookP ps i).getD z,.bool (lookP ps i).isSome])):LK (.int k) true z (.map (some r)) (.int k i) w K:=
 (f.get H).mp.look hk
theorem LKo' [f:Foc L (.b r) (mpi r k ps) u] {z:Value} {K:Value→Prop} (H:Own w.hp L) (hk:K ((lookP ps i).getD z)):LK (.int k) false z (.map (some r)) (.int k i) w K:=
 (f.get H).mp.look' hk
theorem MUo [f:Foc L (.b r) (mpi r k ps) u] {K:World→Prop} (H:Own w.hp L) (hk:∀w',Own w'.hp (u (mpi r k (setP ps i v)))→K w'):MU (.int k) (.map (some r)) (.int k i) v w K:=
 (f.get H).mp.set fun w' h hm _=>hk w' (f.put (own_mp (f.get H) hm h))
theorem DELo [f:Foc L (.b r) (mpi r k ps) u] {K:World→Prop} (H:Own w.hp L) (hk:∀w',Own w'.hp (u (mpi r k (delP ps i)))→K w'):DEL (.int k) (.map (some r)) (.int k i) w K:=
 (f.get H).mp.del fun w' h hm _=>hk w' (f.put (own_mp (f.get H) hm h))
theorem LENMo [f:Foc L (.b r) (mpi r k ps) u] {K:Value→Prop} (H:Own w.hp L) (hk:K (.int .i64 ps.length)):LENM (.map (some r)) w K:=
 (f.get H).mp.len hk
theorem MKMo {K:Value→World→Prop} (k:IntKind) (H:Own w.hp L) (hk:∀r w',Own w'.hp (mpi r k []::L)→K (.map (some r)) w'):MKM w K:=
 MKM_of fun r w' hr hm he _=>hk r w' (H.modNew he (F':=[r]) ⟨hm k,rfl,rfl⟩ (by simp[hr]))
theorem mp_nodup [f:Foc L (.b r) (mpi r k ps) u] (H:Own w.hp L):(ps.map (·.1)).Nodup:=by
 obtain⟨_,_,_,_,h,_⟩:=(f.get H).mp
 exact h
end
end
end Go.Cub
