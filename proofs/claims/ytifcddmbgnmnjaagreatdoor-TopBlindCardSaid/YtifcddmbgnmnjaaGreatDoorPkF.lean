/-
The law TopBlind holds (topBlind_holds, of the card's type): nothing but the call, and the arguments that it has, is looked at. Conditions: none beyond those that the given statement states itself.
-/
import Derived.Test.YtifcddmbgnmnjaaGreatDoorPkE
import Derived.Test.YtifcddmbgnmnjaaGreatDoorTie
import Derived.Test.YtifcddmbgnmnjaaGreatDoorCards
import Derived.HandedShaped
import Derived.Shelf.Vars
import Derived.LaidMore
import Derived.Lay
import Derived.WalkKit
import Derived.ProofKit
import Derived.OpenShut
import Derived.ShutString
import Derived.ChangeOld
import Derived.Stop.Joined
import Derived.SevenTiedAt
set_option linter.all false
set_option autoImplicit true
set_option relaxedAutoImplicit true
section
namespace Go.Ac.S4
open Go Go.Proofs Go.Proofs.Tryz Go.Ac
open Go.IntKind (wrap)
open Int (toNat tdiv tmod fdiv)
open List (drop take replicate)
set_option maxRecDepth 100000
abbrev Pl(a:By)(b c:Int)(d e:Rw)(f:Bool)(g:Int)(i j k:Rw)(l m n o p q s t u v w x y z D E G:Int)r h:=Lp f4 0 ⟨aO 153 [(1,vS a),(2,vW b),(4,vU c),(6,.aB 0 0),(9,.aB 1 0),(11,.aB 2 0),(14,vL 1 d),(16,vL 9 e),(18,vB f),(19,vN g)],[],[.aH [vL 6 i,vL 2 j,vL 1 k,vN l,vN m],K1 n o p q s t u v w,K2 x y z D E G]⟩ 0 r h
abbrev Uo(a:By)(b c:Int)(d:Rw)(e:Bool)(f:Int)(g:Rw)(i:Int)(j k l:Rw)(m n o p q s t u v w x y z D E G I:Int)r h:=Lp f4 1 ⟨aO 153 [(1,vS a),(2,vW b),(4,vU c),(6,.aB 0 0),(9,.aB 1 0),(11,.aB 2 0),(14,vL 1 d),(18,vB e),(20,vN f),(21,vL 3 g),(22,vN i)],[],[.aH [vL 6 j,vL 2 k,vL 1 l,vN m,vN n],K1 o p q s t u v w x,K2 y z D E G I]⟩ 0 r h
abbrev Wj(a:By)(b:Int)(c:Rw)(d:Bool)(e:Int)(f g i:Rw)(j k l m n o p q s t u v w x y z D E G I J K M Q T X:Int)r h:=Lp f4 2 ⟨aO 153 [(1,vS a),(2,vW b),(6,.aB 0 0),(9,.aB 1 0),(11,.aB 2 0),(14,vL 1 c),(18,vB d),(23,.aB 3 0),(24,vN e)],[],[.aH [vL 6 f,vL 2 g,vL 1 i,vN j,vN k],K1 l m n o p q s t u,K2 v w x y z D,K1 E G I J K M Q T X]⟩ 0 r h
def A4:bu:={an:=[(1,0,ah),(2,4,ah),(2,8,aa),(2,9,aa),(2,10,aa),(4,2,ah),(5,2,ah),(6,3,aa),(6,4,aa),(12,6,ah),(14,1,ah),(18,4,ah),(19,4,ah),(26,4,ah),(27,4,ah),(28,2,ah),(29,2,aa),(29,5,aa),(29,6,aa),(29,7,aa),(29,10,aa),(29,11,aa),(29,12,aa),(29,13,aa),(29,14,aa),(29,15,aa)],cut:=[(10,{bl:=[1,2,4,6,9,11,14,16,18,19]}),(16,{bl:=[1,2,4,6,9,11,14,18,20,21,22]}),(23,{bl:=[1,2,6,9,11,14,18,23,24]})]}
def W4(b c d:Rw)(e f:Int)(a:By)(g i j k l m n o p q s t u v w x y:Int){r h}(H:cc 6 [] [] fun z=>aw (!z) (aw (bif true then true else(decide ((a.length:Int)>50))) (Fi r h [vB z] [])
 (qZ8 10 [.agg [L 6 b,L 2 c,L 1 d,N e,N f],vS a] [] fun J K=>∃D E,al 12 [.agg [L 6 b,L 2 c,L 1 d,N e,N f],vS a] [] [vL 9 D,vN E] []/\aw (bif(!K)then true else(E !=0)) (Fi r h [vB true] [])
 (Pl a g s J D false 0 b c d e f i j k l m n o p q t u v w x y r h))) (cc 8 [.agg [L 6 b,L 2 c,L 1 d,N e,N f]] [] fun M=>aw (bif(!M)then true else(decide ((a.length:Int)>50))) (Fi r h [vB z] [])
 (qZ8 10 [.agg [L 6 b,L 2 c,L 1 d,N e,N f],vS a] [] fun Q T=>∃G I,al 12 [.agg [L 6 b,L 2 c,L 1 d,N e,N f],vS a] [] [vL 9 G,vN I] []/\aw (bif(!T)then true else(I !=0)) (Fi r h [vB true] [])
 (Pl a g s Q G false 0 b c d e f i j k l m n o p q t u v w x y r h)))):
  al 4 [.agg [L 6 b,L 2 c,L 1 d,N e,N f],vS a,vW g,.agg [W i,W j,U k,U l,U m,U n,U o,U p,U q],vU s,.agg [U t,U u,U v,U w,U x,U y]] [] r h:=.of func4 A4 H
def ac8(b:By)(c e:Int)(f d:Rw)(G:Bool)(a:Int)(g i j:Rw)(k l m n o p q s t u v w x y z D E:Int){r h}(H:aw (decide (a<(d.length:Int))) (aw G (au (a+1)/\Pl b c e f d true (a+1) g i j k l m n o p q s t u v w x y z D E r h) (vb d a fun J K M Q T X Y Z F=>au (a+1)/\Pl b c e f d (J==c) (a+1) g i j k l m n o p q s t u v w x y z D E r h))
 (∃I,al 7 [vS b] [] [vL 3 I] []/\Uo b c e f G 0 I 0 g i j k l m n o p q s t u v w x y z D E r h)):
  Pl b c e f d G a g i j k l m n o p q s t u v w x y z D E r h:=.of A4 H
def ac9(m:By)(c n:Int)(o:Rw)(p:Bool)(I:Int)(b:Rw)(a:Int)(q s t:Rw)(u v d e w f g i j k l x y z D E G:Int){r h}(H:aw (decide (a<(b.length:Int))) (wA b a fun M J Q=>aw (J==c) (wA b a fun T X K=>au (a+1)/\Uo m c n o p (K.length:Int) b (a+1) q s t u v d e w f g i j k l x y z D E G r h)
 (au (a+1)/\Uo m c n o p I b (a+1) q s t u v d e w f g i j k l x y z D E G r h))
 (Wj m c o p I q s t u v d e w f g i j k l x y z D E G d e n f g i j k l r h)):
  Uo m c n o p I b a q s t u v d e w f g i j k l x y z D E G r h:=.of A4 H
def ada(e:By)(f:Int)(g:Rw)(i:Bool)(a:Int)(T X Y:Rw)(j k l m n o p q s t u w x y z D E b c d G I J K M Q:Int){r h}(b2:aw (decide (a<6)) ((0<=a/\a<6)/\∃Z,([vU w,vU x,vU y,vU z,vU D,vU E]:List AV)[0+toNat a*1+0]?=some (.v (U Z))/\(0<=a/\a<6)/\∃H v F A R a5,0<1/\putAt ([vW b,vW c,vU d,vU G,vU I,vU J,vU K,vU M,vU Q]:List AV) (3+toNat a*1+0) [vU Z]=[vW b,vW c,vU d,vU H,vU v,vU F,vU A,vU R,vU a5]/\au (a+1)/\Wj e f g i (a+1) T X Y j k l m n o p q s t u w x y z D E b c d H v F A R a5 r h)
 (Gw 11 [vL 1 g,vS e,vW f,.agg [W l,W m,U n,U o,U p,U q,U s,U t,U u]] [] fun a6 a7=>Gw 11 [vL 1 g,vS e,vW f,.agg [W b,W c,U d,U G,U I,U J,U K,U M,U Q]] [] fun a8 a9=>Gw 13 [.agg [N j,N k]] [] fun b0 b1=>Fi r h [vB (bif(bif(bif a7 then a9 else false)then(a6==a8)else false)then(bif i then true else(a6==b0))else false)] [])):
  Wj e f g i a T X Y j k l m n o p q s t u w x y z D E b c d G I J K M Q r h:=.of A4 b2
def A6:bu:={an:=[(2,1,ah),(3,3,ah),(3,4,ah),(4,3,ah),(4,4,ah),(5,4,aa),(5,5,aa),(5,8,aa),(5,9,aa),(5,12,aa),(5,13,aa),(5,16,aa),(5,17,aa)]}
def W6(H:∃a b c d,al 17 [vL 2 [[S [100,47,97],S [35,105,110,99,108,117,100,101,32,34,46,46,47,98,34,10,80,79,76,73,67,89,32,112,32,123,32,85,83,69,32,113,44,32,75,73,76,76,32,123,32,98,114,107,32,125,32,125,32,85,83,69,32,112,32,68,69,70,65,85,76,84,32,69,82,82,78,79,40,49,41]],[S [98],S [35,100,101,102,105,110,101,32,76,79,87,32,49,10,80,79,76,73,67,89,32,113,32,123,32,65,76,76,79,87,32,123,32,119,114,105,116,101,40,102,41,32,123,32,102,32,38,32,51,32,61,61,32,76,79,87,32,124,32,50,32,125,32,125,32,125]]],vS [100,47,97],vS [120,56,54,95,54,52]] [] [vL 1 a,.agg [N b,N c,C d]] []/\Hn 19 [.agg [W 1,W 3221225534,U 0,U 7,U 0,U 0,U 0,U 0,U 0]] [] fun j=>∃e f,al 18 [vL 1 a,vL 1 j] [] [vW e,vN f] []/\Hn 19 [.agg [W 1,W 3221225534,U 0,U 4,U 0,U 0,U 0,U 0,U 0]] [] fun k=>∃g i,al 18 [vL 1 a,vL 1 k] [] [vW g,vN i] []/\(((true&&(b==0))&&(c==0))=true->Option.isSome d=true/\Option.isSome (some (0,0))=true)/\Fi r h [vB (bif(bif(bif(bif(((true&&(b==0))&&(c==0))&&eqC .f64 d (some (0,0)))then(f==0)else false)then(i==0)else false)then(e==2147418112)else false)then(g==327681)else false)] []):
  al 6 [] [] r h:=.of func6 A6 H
def A8:bu:={an:=[(1,1,ah),(1,4,ah)]}
def W8(H:cc 21 [.agg [L 6 a,L 2 b,L 1 c,N d,N e]] [] fun f=>aw f (cc 22 [.agg [L 6 a,L 2 b,L 1 c,N d,N e]] [] fun g=>Fi r h [vB g] []) (Fi r h [vB false] [])):
  al 8 [.agg [L 6 a,L 2 b,L 1 c,N d,N e]] [] r h:=.of func8 A8 H
def A10:bu:={an:=[(1,1,ah),(1,5,ah),(2,5,aa),(2,6,aa),(2,7,aa)]}
def W10(H:x7 23 [.agg [L 6 e,L 2 f,L 1 g,N i,N j]] [] fun l=>∃a b c d,al 17 [vL 2 [[S [117],S l]],vS [117],vS k] [] [vL 1 a,.agg [N b,N c,C d]] []/\(((true&&(b==0))&&(c==0))=true->Option.isSome d=true/\Option.isSome (some (0,0))=true)/\Fi r h [vL 1 a,vB (bif(((true&&(b==0))&&(c==0))&&eqC .f64 d (some (0,0)))then(decide ((a.length:Int)>0))else false)] []):
  al 10 [.agg [L 6 e,L 2 f,L 1 g,N i,N j],vS k] [] r h:=.of func10 A10 H
def A11:bu:={an:=[(1,1,ah),(3,2,ah),(3,3,ah)]}
def W11(a:Rw)(b:By)(c n o d e f g i j k:Int){r h}(H:Gw 15 [vS b] [] fun p s=>Hn 19 [.agg [W c,W p,U d,U e,U f,U g,U i,U j,U k]] [] fun q=>∃l m,al 18 [vL 1 a,vL 1 q] [] [vW l,vN m] []/\Fi r h [vW l,vB (m==0)] []):
  al 11 [vL 1 a,vS b,vW c,.agg [W n,W o,U d,U e,U f,U g,U i,U j,U k]] [] r h:=.of func11 A11 H
def Up(u:fH):Bool:=bif Pb u then ji u else false
def Yi(h:Pb u=true):xi u=true:=(cg (b:=xi u) h).1
def C8(u:fH)(h:Jc u):al 8 [qg u] [] [vB (Up u)] []:=by
 apply W8;exact⟨_,C21 u h,ad (fun a=>⟨_,C22 u (LA (Yi a)),ai (by rw[Up,a];rfl) rfl⟩) fun a=>ai (by rw[Up,a];rfl) rfl⟩
structure Pm (u:fH):Prop where
 sm:oe u
 pr:PrU u
 rd:PI u
 right:ji u=true
def Uq(g:Rng u)(f:Up u=true):Pm u:=by
 obtain⟨a,c⟩:=cg (b:=Pb u) f;have h:=LA (Yi a);obtain⟨e,-⟩:=cg (b:=xi u) a;have d:=NM c g;exact⟨h,NN e d,d,c⟩
def qF(u:fH)(aq:By):Bool:=bif decide (((ft u).length:Int)>20000)then false else(da u aq).2==0
def BI(u:fH)(aq:By):List Int:=bif qF u aq then(fL (da u aq).1 []).getD []else[]
def Pm.bj(h:Pm u)(aq:By):∀a,eC u aq = .ok a->V0 a:=fun _ b=>Jq h.pr h.rd b
def Pn(h:PrU u):(ft u).length<=2^28:=by
 have v:=h.dl;have w:=h.pl;have g:∀{α:Type}(f:α->By)(n:Nat)(l:List α),(∀x∈l,(f x).length<=n)->(l.flatMap f).length<=l.length*n:=by
  intro α f n l;induction l with
  |nil=>intro _;simp
  |cons x l t=>
   intro c;have:=c x aX;have:=t fun y q=>c y (aW _ q)
   simp only[fe,dw,aE,bZ,cM];omega
 have i:=g mg 40000 u.aF fun d k=>by
  obtain⟨i,b,a,e⟩:=h.aF d k;have:=dJ b a;unfold mg;simp;omega
 have b:=g kI 5000000 u.aA fun p m=>by
  obtain⟨i,b,a⟩:=h.aA p m;have e:=s6 400000 (p.aT.map gg) fun s o=>by
   obtain⟨x,c,rfl⟩:=bh.1 o;exact si (a x c)
  rw[ao]at e;have j:p.aT.length*(2+400000)<=12*400002:=ir b (ar _);unfold kI;simp;omega
 have a:=mN [44,32] 60 u.main h.main;have e:u.main.length*(2+60)<=8*62:=ir h.ml (ar _);have a:(lY [44,32] u.main).length<=u.main.length*(2+60):=a;have j:=qp u.bO;have z:u.aF.length*40000<=12*40000:=dx _ v;have r:u.aA.length*5000000<=8*5000000:=dx _ w;unfold ft lr;simp only[dw,aE,cN];omega
def C10(u:fH)(aq:By)(h:Pm u):al 10 [qg u,vS aq] [] [vL 1 (gX (BI u aq)),vB (qF u aq)] []:=by
 have y:=Pn h.pr;have o:FSm [⟨[117],ft u⟩] [117]:=⟨by simp,fun f n=>by simp at n;subst n;exact⟨by simp,y⟩,by simp⟩
 apply W10;refine⟨_,C23 u h.pr h.sm h.right,?_⟩;cases hb:decide (((ft u).length:Int)>20000)
 .have r:=bI hb
  have k:=Wf h.rd (by omega)
  have c:=C17 [⟨[117],ft u⟩] [117] aq o k fun _=>⟨h.sm,h.bj aq⟩
  have g:qF u aq=((da u aq).2==0):=by rw[qF,hb];rfl
  have a:jD (u,0,0,some (0,0)) aq=bif(da u aq).2 !=0 then([],((da u aq).2,-1,some (0,0)))else((da u aq).1,(0,0,some (0,0))):=rfl;cases hz:(da u aq).2 !=0
  .have l:(da u aq).2=0:=by simpa using hz
   rw[hz]at a;obtain⟨E,m,-,D⟩:=Bj (h.bj aq) l;obtain⟨b,p,G⟩:=sf D.chk;have d:qn (u,0,0,some (0,0)) aq=b:=by rw[qn,a];simp only[af];rw[p];rfl
   rw[d,a]at c;have z:BI u aq=b:=by rw[BI,g,l];simp only[beq_self_eq_true,aj];rw[p];rfl
   refine⟨_,_,_,_,c,fun _=>⟨rfl,rfl⟩,ai ?_ rfl⟩
   rw[z,g,l];have:decide (((gX b).length:Int)>0)=true:=by rw[Gb];exact bE (by omega)
   rw[this];rfl
  .rw[hz]at a
   have d:qn (u,0,0,some (0,0)) aq=[]:=by rw[qn,a];rfl
   rw[d,a]at c;have q:((da u aq).2==0)=false:=by simpa using hz
   refine⟨_,_,_,_,c,fun _=>⟨rfl,rfl⟩,ai ?_ rfl⟩
   rw[BI,g,q];show[vL 1 (gX []),vB (bif(((true&&((da u aq).2==0))&&((-1:Int)==0))&&eqC .f64 (some (0,0)) (some (0,0)))then decide (((gX []).length:Int)>0)else false)]=_
   rw[q];rfl
 .have r:=aV hb
  obtain⟨e,k,x⟩:=Pj (t:=ft u) (by omega)
  obtain⟨s,i,j⟩:=e;obtain rfl:s=9:=x;have c:=C17 [⟨[117],ft u⟩] [117] aq o k fun v=>by simp at v
  have a:jD ((⟨[],[],[],⟨0,0⟩⟩:fH),(9,i,j)) aq=([],(9,i,j)):=rfl;have d:qn ((⟨[],[],[],⟨0,0⟩⟩:fH),(9,i,j)) aq=[]:=by rw[qn,a];rfl
  rw[d,a]at c;have g:qF u aq=false:=by rw[qF,hb];rfl
  refine⟨_,_,_,_,c,fun w=>?_,ai ?_ rfl⟩
  .simp at w
  .rw[BI,g];rfl
def Z4(d:Da)(aq:By)(nr:Int):Da:={d with nr:=nr,aq:=(dc aq).1}
def Z5(h:Dc d)(aq:By)(a:Be nr):Dc (Z4 d aq nr):=⟨a,IY aq,h.ip,h.a0,h.a1,h.a2,h.a3,h.a4,h.a5⟩
def C11(u:fH)(aq:By)(o:Pm u)(h:qF u aq=true):∃a m,eC u aq = .ok a/\acR u aq a m/\∀d nr,Dc d->Be nr ->
  al 11 [vL 1 (gX (BI u aq)),vS aq,vW nr,UJ d] [] [vW (qL (eu (gU (Z4 d aq nr)) u.bO (me nr a))),vB true] []:=by
 have q:(da u aq).2=0:=by
  unfold qF at h;cases hb:decide (((ft u).length:Int)>20000)<;>rw[hb]at h
  .exact eq_of_beq h
  .simp at h
 obtain⟨a,m,p,c⟩:=Bj (o.bj aq) q;obtain⟨b,j,s⟩:=sf c.chk;have e:BI u aq=b:=by rw[BI,h,j];rfl
 refine⟨a,m,p,c,fun d nr l i=>?_⟩
 have f:=Z5 l aq i;have g:gU (Z4 d aq nr) 0=nr:=M3 f;obtain⟨x,-,-,-,n,k,-⟩:=c.run (gU (Z4 d aq nr)) (Dl f) (by rw[g];exact i)
 rw[g]at k;rw[e];apply W11;exact⟨_,_,C15 aq,_,C19 (Z4 d aq nr) f,_,_,C18 j c.chk c.iok _ f k,fi⟩
def G.small(h:G e):oE e->rP e:=by
 induction h with
 |num m _=>intro _;exact⟨by simp,by simp,by simp,trivial⟩
 |name n=>intro a;exact⟨by simp,by have:=a.2.1;omega,by simp,trivial⟩
 |mask n _ d=>intro a;exact⟨by simp,by have:=a.2.1;omega,by simp,d a.2.2.1,trivial⟩
 |bits _ _ b c=>intro a;exact⟨by simp,by simp,by simp,b a.2.2.1,c a.2.2.2.1,trivial⟩
 |or _ _ b c=>intro a;exact⟨by simp,by simp,by simp,b a.2.2.1,c a.2.2.2.1,trivial⟩
 |and _ _ b c=>intro a;exact⟨by simp,by simp,by simp,b a.2.2.1,c a.2.2.2.1,trivial⟩
 |not _ d=>intro a;exact⟨by simp,by simp,by simp,d a.2.2.1,trivial⟩
 |cmp o _ _ b c=>intro a;exact⟨by have:=a.1;omega,by simp,by simp,b a.2.2.1,c a.2.2.2.1,trivial⟩
def BJ:List Fl:=[⟨[100,47,97],[35,105,110,99,108,117,100,101,32,34,46,46,47,98,34,10,80,79,76,73,67,89,32,112,32,123,32,85,83,69,32,113,44,32,75,73,76,76,32,123,32,98,114,107,32,125,32,125,32,85,83,69,32,112,32,68,69,70,65,85,76,84,32,69,82,82,78,79,40,49,41]⟩,⟨[98],[35,100,101,102,105,110,101,32,76,79,87,32,49,10,80,79,76,73,67,89,32,113,32,123,32,65,76,76,79,87,32,123,32,119,114,105,116,101,40,102,41,32,123,32,102,32,38,32,51,32,61,61,32,76,79,87,32,124,32,50,32,125,32,125,32,125]⟩]
def Ur:Ex:=.mk 4 [61,61] [] 0 [.mk 6 [] [102] 0 [.mk 7 [] [] 3 []],.mk 8 [] [] 0 [.mk 5 [] [76,79,87] 0 [],.mk 7 [] [] 2 []]]
def fS:fH:=⟨[⟨[76,79,87],.mk 7 [] [] 1 []⟩],[⟨[113],[⟨[],⟨7,0⟩,[⟨[119,114,105,116,101],[[102]],[Ur]⟩]⟩]⟩,⟨[112],[⟨[113],⟨0,0⟩,[]⟩,⟨[],⟨2,0⟩,[⟨[98,114,107],[],[]⟩]⟩]⟩],[[112]],⟨4,1⟩⟩
abbrev oG:By:=[120,56,54,95,54,52]
def LI:vM BJ [100,47,97]=some (fS,0,0,some (0,0)):=by kernel_rfl
def Po:Rng fS:=⟨fun d f=>by simp[fS]at f;subst f;simp[tc,Pk],fun p g x b r a e c=>by
 simp[fS]at g;rcases g with rfl|rfl
 .simp at b;subst b;simp at a;subst a;simp at c;subst c;simp[Ur,tc,Pk]
 .simp at b;rcases b with rfl|rfl
  .simp at a
  .simp at a;subst a;simp at c⟩
def BK:PI fS:=NM (by kernel_rfl) Po
def vT:PrU fS:=NN (by kernel_rfl) BK
def Us:oe fS:=⟨by simp[fS],fun d k=>by
  obtain⟨u,i,c,-⟩:=vT.aF d k;exact⟨by omega,i.small c⟩,by simp[fS],fun p l=>by
  obtain⟨u,i,c⟩:=vT.aA p l;refine⟨by omega,by omega,fun x n=>?_⟩
  have g:=c x n;have v:=g.use;have w:=g.rl;refine⟨by omega,by omega,fun r m=>?_⟩
  have b:=g.bj r m;have y:=b.call;have h:=b.pl;have o:=((BK.aA p l).2 x n).bj r m;refine⟨by omega,by omega,fun s f=>by have:=b.params s f;omega,?_,fun e a=>?_⟩
  .rcases o.cond with e|⟨z,e,-⟩<;>rw[e]<;>simp
  .obtain⟨q,t,-⟩:=b.cond e a
   refine⟨q.small t,?_⟩;rcases o.cond with j|⟨z,j,-,k⟩<;>rw[j]at a
   .simp at a
   .simp at a;subst a;omega,by simp[fS],fun s f=>by have:=vT.main s f;omega⟩
def BL(nr ac a:Int):Int:=match eC fS oG with
 |.ok b=>qL (eu (gU ⟨nr,ac,0,a,0,0,0,0,0⟩) fS.bO (me nr b))
 |.error _=>0
def C6:al 6 [] [] [vB true] []:=by
 have h:FSm BJ [100,47,97]:=⟨by simp[BJ],fun f q=>by simp[BJ]at q;rcases q with rfl|rfl<;>simp,by simp⟩
 have w:∀g,eC fS oG = .ok g->V0 g:=fun _ l=>Jq vT BK l
 have c:=C17 BJ [100,47,97] oG h LI fun _=>⟨Us,w⟩
 have s:(da fS oG).2=0:=by kernel_rfl
 obtain⟨g,m,l,k⟩:=Bj w s;obtain⟨b,v,E⟩:=sf k.chk;have o:jD (fS,0,0,some (0,0)) oG=((da fS oG).1,(0,0,some (0,0))):=by
  show(bif(da fS oG).2 !=0 then([],((da fS oG).2,-1,some (0,0)))else((da fS oG).1,(0,0,some (0,0))))=_
  rw[s];rfl
 have z:qn (fS,0,0,some (0,0)) oG=b:=by rw[qn,o];simp only;rw[v];rfl
 rw[z,o]at c;have u:∀a:Int,0<=a->a<100->Dc ⟨1,3221225534,0,a,0,0,0,0,0⟩:=fun a i j=>by constructor<;>simp<;>omega
 have t:∀a:Int,0<=a->a<100->al 18 [vL 1 (gX b),vL 1 (gX (pf ⟨1,3221225534,0,a,0,0,0,0,0⟩))] [] [vW (BL 1 3221225534 a),vN 0] []:=fun a i j=>by
  have d:=u a i j;have p:gU ⟨1,3221225534,0,a,0,0,0,0,0⟩ 0=1:=M3 d;obtain⟨x,-,-,-,n,y,-⟩:=k.run (gU ⟨1,3221225534,0,a,0,0,0,0,0⟩) (Dl d) (by rw[p];exact⟨by decide,by decide⟩)
  rw[p]at y;have e:BL 1 3221225534 a=qL (eu (gU ⟨1,3221225534,0,a,0,0,0,0,0⟩) fS.bO (me 1 g)):=by unfold BL;rw[l]
  rw[e];exact C18 v k.chk k.iok _ d y
 have d:∀a:Int,0<=a->a<100->al 19 [UJ ⟨1,3221225534,0,a,0,0,0,0,0⟩] [] [vL 1 (gX (pf ⟨1,3221225534,0,a,0,0,0,0,0⟩))] []:=fun a i j=>
  C19 _ (u a i j)
 have D:BL 1 3221225534 7=2147418112:=by kernel_rfl
 have r:BL 1 3221225534 4=327681:=by kernel_rfl
 apply W6;refine⟨_,_,_,_,c,_,d 7 (by decide) (by decide),_,_,t 7 (by decide) (by decide),_,d 4 (by decide) (by decide),_,_,t 4 (by decide) (by decide),fun _=>⟨rfl,rfl⟩,ai ?_ rfl⟩
 rw[D,r];rfl
def xW(h:Hf):Prop:=0<=h.arg/\h.arg<6
def Pp(a:At):∀c∈dO a,∀h∈c,xW h:=by
 have j:∀b o,(lV a b o).arg=a.arg:=fun b o=>by unfold lV;cases b<;>rfl
 cases hm:rS a.arg a.op
 .unfold dO;rw[hm];simp
 .have i:0<=a.arg/\a.arg<6:=by
   simp[rS,cond_eq_ite]at hm;omega
  have f:∀b o,xW (lV a b o):=fun b o=>by unfold xW;rw[j];exact i
  have g:∀s,∀c∈kF a s,∀h∈c,xW h:=by
   intro s c e h d;simp only[kF,aZ,jm,or_false]at e;rcases e with rfl|rfl<;>simp at d
   .subst d;exact f _ _
   .rcases d with rfl|rfl<;>exact f _ _
  unfold dO;rw[hm];simp only[ec,af];cases a.op==1
  .cases a.op==2
   .cases a.op==6
    .cases a.op==4
     .exact g _
     .exact g _
    .exact g _
   .intro c e h d
    simp at e;rcases e with rfl|rfl<;>simp at d<;>subst d<;>exact f _ _
  .intro c e h d
   simp at e;subst e;simp at d;rcases d with rfl|rfl<;>exact f _ _
def LJ(c:Cn):∀d∈(cv c).1,∀h∈d,xW h:=sd c fun _ _ a _=>Pp a
def Pr{d d':Da}{h:Hf}(c:xW h)(b:d.arg h.arg.toNat=d'.arg h.arg.toNat):gU d (AS h)=gU d' (AS h):=by
 obtain⟨a,g⟩:=c;have f:AS h=bif h.high then 16+8*(h.arg.toNat:Int)+4 else 16+8*(h.arg.toNat:Int):=by
  have e:(h.arg.toNat:Int)=h.arg:=Int.toNat_of_nonneg a;rw[e];unfold AS ya;cases h.high<;>simp[wrap,IntKind.signed,IntKind.bits]<;>omega
 rw[f,IV d _ (by omega) h.high,IV d' _ (by omega) h.high,b]
def Wk{d d':Da}{h:Hf}(b:xW h)(a:d.arg h.arg.toNat=d'.arg h.arg.toNat):JB (gU d) h=JB (gU d') h:=by
 have c:=Pr b a;unfold JB vD;rw[c]
def Ut{α:Type}{p q:α->Bool}:∀{l:List α},(∀x∈l,p x=q x)->l.all p=l.all q
 |[],_=>rfl
 |x::l,h=>by rw[bG,bG,h x aX,Ut fun y a=>h y (aW _ a)]
def Uu{α:Type}{p q:α->Bool}:∀{l:List α},(∀x∈l,p x=q x)->l.any p=l.any q
 |[],_=>rfl
 |x::l,h=>by rw[il,il,h x aX,Uu fun y a=>h y (aW _ a)]
def DJ{d d':Da}{a:Act}:∀{l:List Sp},(∀s∈l,∀c∈s.cl,∀h∈c,xW h/\d.arg h.arg.toNat=d'.arg h.arg.toNat)->eu (gU d) a l=eu (gU d') a l
 |[],_=>rfl
 |s::l,h=>by
  have e:AU (gU d) s.cl=AU (gU d') s.cl:=Uu fun c g=>Ut fun x j=>by
   obtain⟨b,f⟩:=h s aX c g x j;exact Wk b f
  unfold eu;rw[e,DJ fun s i=>h s (aW _ i)]
structure Ab where
 name:By
 act:Act
 cond:Cn
def LK(name:By):List By:=match lR.find? fun r=>r.name==name with
 |none=>[]
 |some r=>jA r.params
def numOf(aq name:By):Int:=((kC aq name).map (·.nr)).getD 0
def abR(u:fH)(r:gu)(a:Act):Ab:=⟨r.call,a,match r.cond with|[]=>.mk 1 0 0 0 0 []|e::_=>(dM u.aF (r.params++(LK r.call).drop r.params.length) e).1⟩
def abP(u:fH)(p:cK):List Ab:=p.bj.map fun r=>abR u r p.act
def Wl(aq:By)(x:Ab):Bd:=⟨numOf aq x.name,x.act,x.cond⟩
def Uv:∀r∈lR,LK r.name=jA r.params:=by decide
def Pt(h:kC aq name=some c):c.name=name/\c.params=LK name:=by
 have b:=lx h;have d:=qP h;have d:c.name=name:=by simpa using d
 refine⟨d,?_⟩;have f:∀j l,∀c∈kz j l,∃r∈l,c.name=r.name/\c.params=jA r.params:=by
  intro j l;induction l with
  |nil=>intro c a;simp[kz]at a
  |cons r l g=>
   intro c a;have k:(∃r∈l,c.name=r.name/\c.params=jA r.params)->∃e∈r::l,c.name=e.name/\c.params=jA e.params:=fun⟨e,b,f⟩=>⟨e,aW _ b,f⟩
   unfold kz at a;cases hz:r.nr j != -1<;>rw[hz]at a
   .exact k (g c a)
   .rcases aZ.1 a with rfl|a
    .exact⟨r,aX,rfl,rfl⟩
    .exact k (g c a)
 unfold lS at b;cases hz:decide (idx (aq == ·) nk<0)<;>rw[hz]at b
 .obtain⟨r,n,i,m⟩:=f _ lR c b
  rw[m,<-Uv r n,<-i,d]
 .simp at b
def Uw(g:r.cond.length<=1)(h:(ep u aq r a).2=0):(ep u aq r a).1=Wl aq (abR u r a)/\(kC aq r.call).isSome=true:=by
 obtain⟨c,d,b,e,-⟩:=xn g h;obtain⟨-,f⟩:=Pt d;refine⟨?_,by rw[d];rfl⟩
 have i:(cR r c).1=r.params++c.params.drop r.params.length:=by
  unfold cR at b⊢;cases hz:decide ((r.params.length:Int)>(c.params.length:Int))<;>rw[hz]at b
  .cases hy:qJ r.params []<;>rw[hy]at b
   .rfl
   .simp at b
  .simp at b
 rw[e,i,f];unfold Wl abR numOf;simp only[d];rfl
def Jr:∀(t:List gu)(b o:List Bd),(∀r∈t,r.cond.length<=1)->iH u aq a t b = .ok o->o=b++(t.map fun r=>abR u r a).map (Wl aq)/\∀r∈t,(kC aq r.call).isSome=true
 |[],b,o,_,h=>by simp[iH]at h;simp[h]
 |r::t,b,o,d,h=>by
  unfold iH at h;cases hz:(ep u aq r a).2 !=0<;>rw[hz]at h
  .obtain⟨e,f⟩:=Uw (d r aX) (by simpa using hz)
   obtain⟨g,i⟩:=Jr t _ o (fun r j=>d r (aW _ j)) h
   refine⟨by rw[g,e];simp,fun x c=>?_⟩
   rcases aZ.1 c with rfl|c
   .exact f
   .exact i x c
  .simp at h
def xo:∀(t:List cK)(b o:List Bd),(∀p∈t,∀r∈p.bj,r.cond.length<=1)->gp u aq t b = .ok o->o=b++(t.flatMap (abP u)).map (Wl aq)/\∀x∈t.flatMap (abP u),(kC aq x.name).isSome=true
 |[],b,o,_,h=>by simp[gp]at h;simp[h]
 |p::t,b,o,c,h=>by
  unfold gp at h;cases hz:iH u aq p.act p.bj b<;>rw[hz]at h
  .simp at h
  .rename_i i
   obtain⟨d,e⟩:=Jr _ _ _ (c p aX) hz;obtain⟨f,g⟩:=xo t i o (fun r j=>c r (aW _ j)) h
   refine⟨by rw[f,d];simp[abP],fun x a=>?_⟩
   rcases bn.1 (show x∈abP u p++t.flatMap (abP u)from a)with a|a
   .obtain⟨r,k,rfl⟩:=bh.1 a
    exact e r k
   .exact g x a
abbrev ui:List By:=[[120,56,54,95,54,52],[105,51,56,54],[97,97,114,99,104,54,52]]
def BM:∀aq∈ui,mf aq=lS aq:=fun aq a=>by
 simp only[ui,aZ,jm,or_false]at a;rcases a with rfl|rfl|rfl<;>kernel_rfl
def Pu(a:aq∈ui)(name:By):Je aq name=kC aq name:=by
 unfold Je kC;rw[BM aq a]
def isN(p:List PV):Prop:=∃n,p=[N n]
def Wm(p:List PV):Prop:=∃n,(0<=n/\n<18446744073709551616)/\p=[U n]
def Z6(p:List PV):Prop:=∃n,(0<=n/\n<4294967296)/\p=[W n]
def Z7(p:List PV):Prop:=∃s,p=[S s]
def LL(p:List PV):Prop:=∃l:List By,l.length<=2^47/\p=[L 1 (aI l)]
def Ux(p:List PV):Prop:=∃a:Act,p=[N a.kind,N a.data]
section
variable {WW:World}
def Uy(m:Nat):bF prog WW m 3 isN:=(bF.int underlying3).mono fun _⟨n,_,h⟩=>⟨n,h⟩
def Js(m:Nat):bF prog WW m 30 Wm:=(bF.int underlying30).mono fun _⟨n,a,h⟩=>⟨n,by simp[WH,IntKind.min,IntKind.max,IntKind.signed,IntKind.bits]at a;omega,h⟩
def LM(m:Nat):bF prog WW m 29 Z6:=(bF.int underlying29).mono fun _⟨n,a,h⟩=>⟨n,by simp[WH,IntKind.min,IntKind.max,IntKind.signed,IntKind.bits]at a;omega,h⟩
def xX(m:Nat):bF prog WW m 9 Z7:=bF.string underlying9
def NO{f:α->List PV}{K:α->Prop}:∀(a:List (List PV)),(∀r∈a,∃x,r=f x/\K x)->∃l:List α,a=l.map f/\∀x∈l,K x
 |[],_=>⟨[],rfl,by simp⟩
 |r::a,h=>by
  obtain⟨x,rfl,e⟩:=h r aX;obtain⟨l,rfl,c⟩:=NO a fun q d=>h q (aW _ d)
  exact⟨x::l,rfl,fun y b=>by rcases aZ.1 b with rfl|b;exact e;exact c y b⟩
def qs{f:α->List PV}{K:α->Prop}(s:prog.underlying t=some (.slice e))(o:prog.cellsOf e=n)(g:1<=prog.bytesOf e)(b:0<n)(j:∀x,(f x).length=n)(q:∀k,k<m->bF prog WW k e fun p=>∃x,p=f x/\K x):bF prog WW m t fun p=>∃l:List α,(l.length<=2^47/\∀x∈l,K x)/\p=[L n (l.map f)]:=
 (bF.slice s o b q fun p⟨x,u,_⟩=>by rw[u,j]).mono fun p⟨v,c,d,_,a⟩=>by
  obtain⟨l,rfl,i⟩:=NO v d;have:(l.map f).length*1<=(l.map f).length*prog.bytesOf e:=Nat.mul_le_mul_left _ g;rw[ao]at this a;exact⟨l,⟨by unfold reachBytes at a;omega,i⟩,c⟩
def Jt(m:Nat):bF prog WW m 24 LL:=
 (qs (f:=Hp) (K:=fun _=>True) underlying24 (by kernel_rfl) (aV (by kernel_rfl)) (by decide) (fun _=>rfl) fun k _=>(xX k).mono fun _⟨s,h⟩=>⟨s,h,trivial⟩).mono fun p⟨l,a,b⟩=>⟨l,a.1,b⟩
def NP(m:Nat):bF prog WW m 26 Ux:=
 (bF.nZ (Qs:=[isN,isN]) underlying26 rfl (by kernel_rfl) fun m _ i f Q c d=>by
  match i with
  |0=>simp at c d;subst c;subst d;exact Uy m
  |1=>simp at c d;subst c;subst d;exact Uy m
  |i+2=>simp at c).mono fun p⟨_,_,e,⟨a,g⟩,_,_,j,⟨b,k⟩,l⟩=>⟨⟨a,b⟩,by subst l;subst k;subst j;subst g;subst e;rfl⟩
def Z8(e:Ex):Prop:=tc e/\Gl e
def Yj:∀{l:List Ex},(∀x∈l,Z8 x)->Pk l/\O9 l
 |[],_=>⟨trivial,trivial⟩
 |x::t,h=>by
  obtain⟨a,b⟩:=h x aX;obtain⟨c,d⟩:=Yj fun y e=>h y (aW _ e)
  unfold Pk O9;exact⟨⟨a,c⟩,b,d⟩
def uj(e:Ex):e.row.length=5:=by cases e;rfl
def Uz:∀(fuel:Nat),bF prog WW fuel 123 fun p=>∃e:Ex,p=e.row/\Z8 e:=by
 intro fuel;induction fuel using Nat.strongRecOn with
 |_ fuel s=>
  refine(bF.nZ (Qs:=[isN,Z7,Z7,Wm,fun p=>∃l:List Ex,(l.length<=2^47/\∀x∈l,Z8 x)/\p=[L 5 (l.map Ex.row)]]) underlying123 rfl (by kernel_rfl) fun m t i f Q a b=>?_).mono fun p h=>?_
  .match i with
   |0=>simp at a b;subst a;subst b;exact Uy m
   |1=>simp at a b;subst a;subst b;exact xX m
   |2=>simp at a b;subst a;subst b;exact xX m
   |3=>simp at a b;subst a;subst b;exact Js m
   |4=>simp at a b;subst a;subst b;exact qs underlying97 (by kernel_rfl) (aV (by kernel_rfl)) (by decide) uj fun k c=>s k (by omega)
   |i+5=>simp at a
  .obtain⟨_,_,rfl,⟨k,rfl⟩,_,_,rfl,⟨o,rfl⟩,_,_,rfl,⟨n,rfl⟩,_,_,rfl,⟨v,q,rfl⟩,_,_,rfl,⟨l,⟨j,c⟩,rfl⟩,rfl⟩:=h
   obtain⟨d,g⟩:=Yj c;refine⟨.mk k o n v l,by rw[Ex.row,dq];rfl,?_,?_⟩
   .unfold tc;exact⟨q,d⟩
   .unfold Gl;exact⟨j,g⟩
def Wn(m:Nat):bF prog WW m 97 fun p=>∃l:List Ex,(l.length<=2^47/\∀x∈l,Z8 x)/\p=[L 5 (l.map Ex.row)]:=
 qs underlying97 (by kernel_rfl) (aV (by kernel_rfl)) (by decide) uj fun k _=>Uz k
def ade(d:cT):Prop:=Z8 d.ex
def Wo(m:Nat):bF prog WW m 125 fun p=>∃d:cT,p=d.row/\ade d:=
 (bF.nZ (Qs:=[Z7,fun p=>∃e:Ex,p=e.row/\Z8 e]) underlying125 rfl (by kernel_rfl) fun m _ i f Q a b=>by
  match i with
  |0=>simp at a b;subst a;subst b;exact xX m
  |1=>simp at a b;subst a;subst b;exact Uz m
  |i+2=>simp at a).mono fun p h=>by
 obtain⟨_,_,rfl,⟨s,rfl⟩,_,_,rfl,⟨e,rfl,c⟩,rfl⟩:=h;exact⟨⟨s,e⟩,by simp[cT.row],c⟩
def adf(r:gu):Prop:=Yd r/\∀e∈r.cond,tc e
def Wp(m:Nat):bF prog WW m 99 fun p=>∃r:gu,p=r.row/\adf r:=
 (bF.nZ (Qs:=[Z7,LL,fun p=>∃l:List Ex,(l.length<=2^47/\∀x∈l,Z8 x)/\p=[L 5 (l.map Ex.row)]]) underlying99 rfl (by kernel_rfl) fun m _ i f Q a b=>by
  match i with
  |0=>simp at a b;subst a;subst b;exact xX m
  |1=>simp at a b;subst a;subst b;exact Jt m
  |2=>simp at a b;subst a;subst b;exact Wn m
  |i+3=>simp at a).mono fun p h=>by
 obtain⟨_,_,rfl,⟨s,rfl⟩,_,_,rfl,⟨ps,j,rfl⟩,_,_,rfl,⟨l,⟨g,d⟩,rfl⟩,rfl⟩:=h;exact⟨⟨s,ps,l⟩,rfl,⟨j,g,fun e c=>(d e c).2⟩,fun e c=>(d e c).1⟩
def adg(p:cK):Prop:=Ye p/\∀r∈p.bj,∀e∈r.cond,tc e
def Wq(m:Nat):bF prog WW m 94 fun p=>∃x:cK,p=x.row/\adg x:=
 (bF.nZ (Qs:=[Z7,Ux,fun p=>∃l:List gu,(l.length<=2^47/\∀x∈l,adf x)/\p=[L 3 (l.map gu.row)]]) underlying94 rfl (by kernel_rfl) fun m _ i f Q b c=>by
  match i with
  |0=>simp at b c;subst b;subst c;exact xX m
  |1=>simp at b c;subst b;subst c;exact NP m
  |2=>simp at b c;subst b;subst c;exact qs underlying92 (by kernel_rfl) (aV (by kernel_rfl)) (by decide) (fun _=>rfl) fun k _=>Wp k
  |i+3=>simp at b).mono fun p h=>by
 obtain⟨_,_,rfl,⟨s,rfl⟩,_,_,rfl,⟨a,rfl⟩,_,_,rfl,⟨l,⟨g,e⟩,rfl⟩,rfl⟩:=h;exact⟨⟨s,a,l⟩,rfl,⟨g,fun r d=>(e r d).1⟩,fun r d=>(e r d).2⟩
def adh(p:cL):Prop:=Yf p/\∀x∈p.aT,∀r∈x.bj,∀e∈r.cond,tc e
def Ws(m:Nat):bF prog WW m 128 fun p=>∃x:cL,p=x.row/\adh x:=
 (bF.nZ (Qs:=[Z7,fun p=>∃l:List cK,(l.length<=2^47/\∀x∈l,adg x)/\p=[L 4 (l.map cK.row)]]) underlying128 rfl (by kernel_rfl) fun m _ i f Q a b=>by
  match i with
  |0=>simp at a b;subst a;subst b;exact xX m
  |1=>simp at a b;subst a;subst b;exact qs underlying89 (by kernel_rfl) (aV (by kernel_rfl)) (by decide) (fun _=>rfl) fun k _=>Wq k
  |i+2=>simp at a).mono fun p h=>by
 obtain⟨_,_,rfl,⟨s,rfl⟩,_,_,rfl,⟨l,⟨e,d⟩,rfl⟩,rfl⟩:=h;exact⟨⟨s,l⟩,rfl,⟨e,fun r c=>(d r c).1⟩,fun r c=>(d r c).2⟩
def adi(p:List PV):Prop:=∃u:fH,Jc u/\Rng u/\p=[L 6 (u.aF.map cT.row),L 2 (u.aA.map cL.row),L 1 (aI u.main),N u.bO.kind,N u.bO.data]
def Wt(m:Nat):bF prog WW m 28 adi:=
 (bF.nZ (Qs:=[fun p=>∃l:List cT,(l.length<=2^47/\∀x∈l,ade x)/\p=[L 6 (l.map cT.row)],fun p=>∃l:List cL,(l.length<=2^47/\∀x∈l,adh x)/\p=[L 2 (l.map cL.row)],LL,Ux]) underlying28 rfl (by kernel_rfl) fun m _ i f Q b c=>by
  match i with
  |0=>simp at b c;subst b;subst c;exact qs underlying22 (by kernel_rfl) (aV (by kernel_rfl)) (by decide) (fun d=>by simp[cT.row,uj]) fun k _=>Wo k
  |1=>simp at b c;subst b;subst c;exact qs underlying23 (by kernel_rfl) (aV (by kernel_rfl)) (by decide) (fun _=>rfl) fun k _=>Ws k
  |2=>simp at b c;subst b;subst c;exact Jt m
  |3=>simp at b c;subst b;subst c;exact NP m
  |i+4=>simp at b).mono fun p h=>by
 obtain⟨_,_,rfl,⟨j,⟨n,e⟩,rfl⟩,_,_,rfl,⟨ps,⟨q,g⟩,rfl⟩,_,_,rfl,⟨ms,o,rfl⟩,_,_,rfl,⟨a,rfl⟩,rfl⟩:=h;exact⟨⟨j,ps,ms,a⟩,⟨n,fun d h=>(e d h).2,q,fun p h=>(g p h).1,o⟩,⟨fun d h=>(e d h).1,fun p h=>(g p h).2⟩,rfl⟩
def alw(p:List PV):Prop:=∃d:Da,Dc d/\p=[W d.nr,W d.aq,U d.ip,U d.a0,U d.a1,U d.a2,U d.a3,U d.a4,U d.a5]
def Z9(m:Nat):bF prog WW m 33 alw:=
 (bF.nZ (Qs:=[Z6,Z6,Wm,wz [Wm,Wm,Wm,Wm,Wm,Wm]]) underlying33 rfl (by kernel_rfl) fun m _ i f Q b c=>by
  match i with
  |0=>simp at b c;subst b;subst c;exact LM m
  |1=>simp at b c;subst b;subst c;exact LM m
  |2=>simp at b c;subst b;subst c;exact Js m
  |3=>simp at b c;subst b;subst c;exact bF.array (n:=6) underlying31 (fun k _=>Js k) (by kernel_rfl)
  |i+4=>simp at b).mono fun p h=>by
 obtain⟨_,_,rfl,⟨n,y,rfl⟩,_,_,rfl,⟨a,x,rfl⟩,_,_,rfl,⟨z,r,rfl⟩,_,_,rfl,⟨_,_,rfl,⟨d,q,rfl⟩,_,_,rfl,⟨e,s,rfl⟩,_,_,rfl,⟨g,t,rfl⟩,_,_,rfl,⟨j,u,rfl⟩,_,_,rfl,⟨l,v,rfl⟩,_,_,rfl,⟨o,w,rfl⟩,rfl⟩,rfl⟩:=h;exact⟨⟨n,a,z,d,e,g,j,l,o⟩,⟨y,x,r,q,s,t,u,v,w⟩,rfl⟩
end
end Go.Ac.S4
end
section
namespace Go.Proofs.YtifcddmbgnmnjaaGreatDoor
open Go Go.Ac Go.ChangeShapes Go.WideShapes Go.ChangeAt Go.RowKit
set_option maxRecDepth 100000
def own:ownKnob Tryz.prog.godebug=none:=by kernel_rfl
def laidOut:laidOutB Tryz.prog=true:=by kernel_rfl
abbrev xY:List (String×DataW Unit):=[("unicode/utf8.acceptRanges",Rows.laid_unicode_utf8_acceptRanges),("unicode.White_Space",Rows.laid_unicode_White_Space),("strings.asciiSpace",Rows.laid_strings_asciiSpace),("unicode/utf8.first",Rows.laid_unicode_utf8_first)]
def alx(os:Os)(args:Array Value):laidMetH Tryz.prog xY ((World.laidAll Tryz.prog os xY).forCall (fun _ _=>0) ⟨#[],args,[]⟩).memory:=by
 rw[MakeChecks.laidMetH_plain _ _ _ (by kernel_rfl)]
 exact laidMet_laidAll _ (by kernel_rfl) (by kernel_rfl)
def aaa:(Rows.laid_strings_asciiSpace:DataW Unit)=.agg (((List.range 256).map JM).map fun n=>.lit (.int .u8 n)):=by kernel_rfl
def Ju(h:laidMetH Tryz.prog xY W)(r:Nat)(e:r<256):W.cell? ⟨1,r,none⟩=some (.int .u8 (JM r)):=by
 rw[MakeChecks.laidMetH_plain _ _ _ (by kernel_rfl)]at h
 obtain⟨ps,⟨_,_,_,_,_,_,_,_,_,_,⟨_,_,_,_,_,_,_,_,_,_,⟨g,t,cs,fuel,p,q,d,s,u,c,_,_⟩,_⟩,_⟩,_,_⟩:=h;obtain rfl:=ax ((show Tryz.prog.globalNamed "strings.asciiSpace" = some 1 by kernel_rfl).symm.trans d)
 obtain rfl:=ax ((show(Tryz.prog.globals[1]?).map (·.type)=some 433 by kernel_rfl).symm.trans s)
 rw[aaa]at c;obtain⟨xs,m,_,l,_,x,w⟩:=DataW.trod_array Tryz.underlying433 c;have f:Tryz.prog.cellsOf 5=1:=by kernel_rfl
 have b:=w r e;rw[f,Nat.mul_one,bo (by omega)]at b
 obtain⟨z,i,j,_⟩:=DataW.trod_int Tryz.underlying5 b;have k:(xs.map (·.1))=((List.range 256).map JM).map fun n=>.lit (.int .u8 n):=(DataW.agg.inj (mP l).1).symm
 have a:(xs.map (·.1))[r]?=(((List.range 256).map JM).map fun n=>(DataW.lit (.int .u8 n):DataW Unit))[r]?:=by rw[k]
 rw[bw,bw,bw,mr e,bo (by omega:r<xs.length),j]at a
 have v:z=JM r:=by simpa using a
 rw[World.var?_cell d u r,<-v];have:cs.toList[r]?=some (.int .u8 z):=by
  have o:((cs.toList.drop r).take 1)[0]?=some (.int .u8 z):=by rw[i];rfl
  simpa using o
 simpa using this
def Wu(h:laidMetH Tryz.prog xY W)(c:W.ShapedOpen Tryz.prog):Laid (oV W) W:=by
 refine⟨fun i a=>⟨Ju h i a,(mJ (Ju h i a)).1⟩,?_⟩
 obtain⟨m,b⟩:=cell_of_shapedOpen_int (g:=0) (t:=3) (zero := #[.int .i64 0]) (k:=.i64) c (aV (by kernel_rfl)) (by kernel_rfl) rfl (by kernel_rfl) (by kernel_rfl) Tryz.underlying3
 exact⟨m,b,(mJ b).1⟩
def handed{enc:TypeId×Value->H}{X:World->Array Value->Prop}(g:∀(w w':World)(args:Array Value),w.heap=w'.heap->X w args->X w' args)(own:ownKnob C.prog.godebug=none)(started:os.Started)(D:C.prog.inits.idxOf? f=none)(p:C.prog.funcs[f]?=some fn)(witness:∃(w:World)(tape:Tape)(i:Input),w.os=os/\(w.forCall tape i).Shaped C.prog/\i.vars=[]/\Input.okWide C.prog (w.forCall tape i) .any w.heap.size f i /\
   ((s.pre enc C.prog fn conds false (w.forCall tape i).memory i.args/\X (w.forCall tape i).memory i.args)/\sizedMet enc C.prog fn (OpenSpec.ofChange s) false (w.forCall tape i).memory i.args)/\({}:Assume).holds C.prog (lone (Frame.enter C.prog f i.args .normal) [] (w.forCall tape i)))(E:∀(W:World)(y:Nat)(args:Array Value)(a b:List (DataW H))(before:List MemPlace),
   (∀(j:Nat)t v,fn.params[j]?=some t->args[j]?=some v->Value.okWide C.prog W .any y t v)->
   DataW.Whole enc C.prog fn.params.toList s.vars false W args.toList a b before ->
   (DataW.weightsEach C.prog (fn.params.toList++s.plain.varTypes C.prog) (a++b)).all (· <= reachBytes)=true->X W args->W.ShapedOpen C.prog ->
   Calls C.prog f args W fun e c=>∃v,e = .returned v/\s.post enc C.prog fn false true false false W args v c):
  ReturnsInHanded {} C os f .any (fun w args=>(s.pre enc C.prog fn conds false w args/\X w args)/\sizedMet enc C.prog fn (OpenSpec.ofChange s) false w args) (s.post enc C.prog fn false true false false):=by
 refine returnsInHanded_of_calls own started D witness ?_;intro w tape i _ u _ q h I;obtain⟨_,_,_,o,z,_,_,_,_,r⟩:=q;have e:o=fn:=ax (z.symm.trans p);subst e;obtain⟨⟨⟨a,b,before,d,G⟩,m⟩,n⟩:=h;have x:=DataW.Whole.of_heap (w':=w.forCall tape i) (by rfl) d
 refine(E (w.forCall tape i) w.heap.size i.args a b before r x (n.weights d) (g _ _ _ (by rfl) m) u).mono fun e c⟨v,k,l⟩=>?_
 subst k;exact ChangeSpec.post_blind l
end Go.Proofs.YtifcddmbgnmnjaaGreatDoor
end
section
namespace Go.Ac.S4
open Go Go.Proofs Go.Proofs.Tryz Go.Ac
open Go.IntKind (wrap)
open Int (toNat tdiv tmod fdiv)
open List (drop take replicate)
set_option maxRecDepth 100000
def s7(a:List cT):∀(b:List cT)(m:List Kn),dD (b++a) m=dD a (dD b m)
 |[],_=>rfl
 |d::b,m=>by rw[dm,dD,dD];exact s7 a b _
def sk:∀{m:List Kn},dr (·.1) (iG (·.1) x m) k=bif k==x.1 then some x else dr (·.1) m k
 |[]=>by
  unfold iG dr;rw[cj];cases k==x.1<;>rfl
 |y::m=>by
  have b:=sk (x:=x) (k:=k) (m:=m);unfold dr at b⊢;unfold iG;cases hy:x.1==y.1
  .simp only[af]
   rw[cj,cj,b];cases hk:k==y.1
   .rfl
   .have a:=eq_of_beq hk
    cases hx:k==x.1
    .rfl
    .have c:=eq_of_beq hx
     rw[<-a,c]at hy;simp at hy
  .simp only[aj]
   have a:=eq_of_beq hy;rw[cj,cj,a];cases k==y.1<;>rfl
def s8:∀{l:List cT}{m:List Kn},dr (·.1) m k=some x->dr (·.1) (dD l m) k=some x
 |[],_,h=>h
 |d::l,m,h=>by
  unfold dD;refine s8 ?_;cases hg:dr (·.1) m d.name with
  |some y=>exact h
  |none=>
   show dr (·.1) (iG (·.1) (d.name,dW m d.ex) m) k=some x
   rw[sk];cases hk:k==d.name
   .exact h
   .rw[eq_of_beq hk,hg]at h;simp at h
def qt:∀{l:List cT}{m:List Kn},(∀d∈l,(d.name==k)=false)->dr (·.1) m k=none->dr (·.1) (dD l m) k=none
 |[],_,_,h=>h
 |d::l,m,a,h=>by
  unfold dD;refine qt (fun x b=>a x (aW _ b)) ?_
  cases hg:dr (·.1) m d.name with
  |some y=>exact h
  |none=>
   show dr (·.1) (iG (·.1) (d.name,dW m d.ex) m) k=none
   rw[sk];have:=a d aX;cases hk:k==d.name
   .exact h
   .rw[eq_of_beq hk]at this;simp at this
def UA(g:l[i]?=some d)(j:∀x∈l.take i,(x.name==d.name)=false):dr (·.1) (dD l []) d.name=some (d.name,bX (l.take i) d.ex):=by
 have e:l=l.take i++d::l.drop (i+1):=by
  obtain⟨c,f⟩:=aG.1 g;rw[<-f,<-uE c,uB]
 have b:=qt (m:=[]) j rfl;rw[e,s7,dD];have a:(take i (take i l++d::drop (i+1) l))=l.take i:=by rw[<-e]
 rw[a,b];refine s8 ?_;rw[sk];simp[bX]
def Pv(h:d∈l)(c:(d.name==k)=true):∃x,dr (·.1) (dD l []) k=some x:=by
 obtain⟨a,b,rfl⟩:=List.append_of_mem h;rw[s7,dD];have e:=eq_of_beq c;subst e;cases hg:dr (·.1) (dD a []) d.name with
 |some y=>exact⟨y,s8 hg⟩
 |none=>exact⟨_,s8 (x:=(d.name,dW (dD a []) d.ex)) (by show dr (·.1) (iG (·.1) (d.name,dW (dD a []) d.ex) (dD a [])) d.name=_;rw[sk];simp)⟩
def BN{l:List cT}{i:Nat}(h:l[i]?=some d):(l.map cT.row)[toNat (i:Int)]?=some [S d.name,N d.ex.kind,S d.ex.op,S d.ex.name,U d.ex.num,L 5 (br d.ex.kids)]:=(aQ h).trans (by rw[cT.row,Ex.cp])
def DK(f:α->List PV)(l:List α)(i:Nat):drop 0 (take (toNat (i:Int)) (l.map f))=(l.take i).map f:=by rw[gh,toNat_cast,iq]
def Pw(b:gn (.mk k o n v t)=true)(a:(k==7)=true):bX l (.mk k o n v t)=(v,0):=by
 rw[bX,dW,b];simp only[ec,af];match t with
 |[]=>simp only[dt,a];rfl
 |[_]=>simp only[dt,a];rfl
 |_::_::_=>simp only[dt,a];rfl
def Px(c:gn (.mk k o n v t)=true)(a:(k==7)=false)(b:(k==8)=false):bX l (.mk k o n v t)=((dr (·.1) (dD l []) n).map (·.2)).getD (0,7):=by
 rw[bX,dW,c];simp only[ec,af];match t with
 |[]=>simp only[dt,a];rfl
 |[_]=>simp only[dt,a];rfl
 |_::_::_=>simp only[dt,a,b];rfl
def UB(m:List Kn):Prop:=∀x∈m,(x.2.2 !=0)=true->x.2.1=0
def Gu(h:UB m)(a:((((dr (·.1) m n).map (·.2)).getD (0,7)).2 !=0)=true):(((dr (·.1) m n).map (·.2)).getD (0,7)).1=0:=by
 cases hg:dr (·.1) m n with
 |none=>rfl
 |some x=>rw[hg]at a;exact h x (np hg).1 a
def uk(h:UB m):∀(e:Ex),((dt m e).2 !=0)=true->(dt m e).1=0
 |.mk k o n v (x::y::t)=>by
  intro a;unfold dt at a⊢;cases h7:k==7<;>rw[h7]at a
  .cases h8:k==8<;>rw[h8]at a
   .exact Gu h a
   .simp only[aj,af]at a⊢
    cases hx:(dt m x).2 !=0<;>rw[hx]at a
    .simp only[af]at a⊢
     cases hy:(dt m y).2 !=0<;>rw[hy]at a
     .simp at a
     .exact uk h y a
    .exact uk h x a
  .simp at a
 |.mk k o n v []=>by
  intro a;unfold dt at a⊢;cases h7:k==7<;>rw[h7]at a
  .exact Gu h a
  .simp at a
 |.mk k o n v [_]=>by
  intro a;unfold dt at a⊢;cases h7:k==7<;>rw[h7]at a
  .exact Gu h a
  .simp at a
def BO(h:UB m)(a:((dW m e).2 !=0)=true):(dW m e).1=0:=by
 unfold dW at a⊢;cases hn : !gn e<;>rw[hn]at a
 .exact uk h e a
 .rfl
def DL:∀{l:List cT}{m:List Kn},UB m->UB (dD l m)
 |[],_,h=>h
 |d::l,m,h=>by
  unfold dD;refine DL ?_;cases hg:dr (·.1) m d.name with
  |some y=>exact h
  |none=>
   intro x a;rcases vu a with rfl|a
   .exact BO h
   .exact h x a
def BP(h:((bX l e).2 !=0)=true):(bX l e).1=0:=BO (DL (fun x a=>by simp at a)) h
def C49:∀(m:Nat)(l:List cT),l.length<=m->m<=2^40->(∀d∈l,rP d.ex)->∀(n:Nat)(e:Ex),bK e<=n->rP e->al 49 [vL 6 (l.map cT.row),oz e] [] [vU (bX l e).1,vN (bX l e).2] []
 |m,l,f,p,u,0,e,E,_=>by rw[cI]at E;omega
 |m,l,f,p,u,n+1,e,E,G=>by
  have H:=((ky e).1 G).2.2.2;apply W49;refine⟨_,C41 _ e (ar _) G,ad (fun h=>ai (by rw[bX,dW,h];rfl) rfl) fun h=>?_⟩
  have z:gn e=true:=by simpa using h
  obtain⟨k,o,w,v,t⟩:=e;refine ad (fun r=>ai (by rw[Pw z r];rfl) rfl) fun r=>ad (fun D=>?_) fun D=>?_
  .obtain rfl:k=8:=eq_of_beq D
   obtain⟨x,y,rfl,a,Q⟩:=H5 z;simp only[bK,ct]at E;have X:=dU H x (by simp[Ex.kids])
   have Y:=dU H y (by simp[Ex.kids])
   have I:=C49 m l f p u n x (by omega) X
   have J:=C49 m l f p u n y (by omega) Y
   have F:=H4 Q;have K:bX l (.mk 8 o w v [x,y])=bif(bX l x).2 !=0 then bX l x else bif(bX l y).2 !=0 then bX l y else(cH .or .u64 (bX l x).1 (bX l y).1,0):=by
    simp only[bX,dW,z,a,F,ec,af,dt];rfl
   rw[K];refine⟨x.kind,x.op,x.name,x.num,br x.kids,by omega,by rw[<-Ex.cp];rfl,_,_,I,ad (fun c=>ai ?_ rfl) fun c=>⟨y.kind,y.op,y.name,y.num,br y.kids,by omega,by rw[<-Ex.cp];rfl,_,_,J,ad (fun b=>ai ?_ rfl) fun b=>ai ?_ rfl⟩⟩
   .simp only[c,aj];rw[BP c]
   .simp only[c,b,aj,af];rw[BP b]
   .simp only[c,b];rfl
  .rw[Px z r D]
   have key:∀(s:List cT)(i:Nat),l.drop i=s->(∀x∈l.take i,(x.name==w)=false)->No (l.map cT.row) i k o w v (br t) [vU (((dr (·.1) (dD l []) w).map (·.2)).getD (0,7)).1,vN (((dr (·.1) (dD l []) w).map (·.2)).getD (0,7)).2] []:=by
    intro s;induction s with
    |nil=>
     intro i j q;have:=drop_nil j;rw[dH this]at q;apply XR;exact aP (l:=l) (by simp) j (ai (by rw[qt q rfl];rfl) rfl)
    |cons d s T=>
     intro i j q;obtain⟨g,M,c⟩:=drop_cons j;have Z:=aM g;apply XR;refine aK (l:=l) (by simp) j ⟨_,_,_,_,_,_,by omega,BN g,ad (fun b=>?_) fun b=>⟨aC,T (i+1) M ?_⟩⟩
     .obtain rfl:=eq_of_beq b
      refine⟨⟨by omega,by omega,by rw[ao];omega⟩,_,_,_,_,_,_,by omega,BN g,_,_,?_,ai (by rw[UA g q]) rfl⟩
      rw[DK];match m,f,p with
      |0,f,_=>omega
      |m+1,f,p=>exact C49 m (l.take i) (by simp;omega) (by omega) (fun x a=>u x (sr a)) _ d.ex (ar _) (u d Z)
     .intro x a
      rw[eO,g]at a;rcases bn.1 a with a|a
      .exact q x a
      .simp at a;subst a;exact b
   exact key l 0 rfl (by simp)
def gY{l:List α}{x:α}(h:l[i]?=some x){P:α->Prop}(b:∀y∈l.take i,P y)(c:P x):∀y∈l.take (i+1),P y:=by
 intro y a;rw[eO,h]at a;rcases bn.1 a with a|a
 .exact b y a
 .simp at a;subst a;exact c
def C24(l:List cT)(E:l.length<=2^40)(s:∀d∈l,rP d.ex):al 24 [vL 6 (l.map cT.row)] [] (SK (oA l)) []:=by
 have key:∀(t:List cT)(i:Nat)(a:List Int),l.drop i=t->a.length<=i->Nd (l.map cT.row) (a.map fun n=>[U n]) i (Ai (iU t i a (dD (l.take i) []))) []:=by
  intro t;induction t with
  |nil=>intro i a j _;apply XH;exact aP (l:=l) (by simp) j fi
  |cons d t f=>
   intro i a j G;obtain⟨g,u,D⟩:=drop_cons j;have h:=aM g;have hlen:(l.take i).length=i:=by simp;omega
   have inner:∀(n k:Nat),k+n=i->(∀x∈l.take k,(x.name==d.name)=false)->Nf (l.map cT.row) (a.map fun n=>[U n]) i k (Ai (iU (d::t) i a (dD (l.take i) []))) []:=by
    intro n;induction n with
    |zero=>
     intro k v o;obtain rfl:k=i:=by omega
     have q:=qt (m:=[]) o rfl;have c:=C49 (l.take k).length (l.take k) (ar _) (by omega) (fun x e=>s x (sr e)) _ d.ex (ar _) (s d h)
     apply XI;refine aU (by simp) ⟨⟨by omega,by omega,by rw[ao];omega⟩,_,_,_,_,_,_,by omega,BN g,_,_,by rw[DK];exact c,?_⟩
     rw[iU,q];refine ad (fun b=>ai (by rw[show((dW (dD (l.take k) []) d.ex).2 !=0)=true from b];rfl) rfl) fun b=>⟨by simp;omega,aC,?_⟩
     have f:=f (k+1) (a++[(bX (l.take k) d.ex).1]) u (by simp;omega)
     rw[eO,g,show(some d).toList=[d]from rfl,s7,dD,q]at f
     rw[show((dW (dD (l.take k) []) d.ex).2 !=0)=false from b]
     rw[bM]at f;exact f
    |succ n r=>
     intro k v o;obtain⟨x,e⟩:∃x,l[k]?=some x:=⟨_,bo (by omega)⟩
     apply XI;refine bt (bE (by omega)) ⟨_,_,_,_,_,_,by omega,BN e,_,_,_,_,_,_,by omega,BN g,ad (fun b=>ai ?_ rfl) fun b=>⟨aC,r (k+1) (by omega) (gY e o b)⟩⟩
     obtain⟨z,y⟩:=Pv (l:=l.take i) (k:=d.name) (aM (show(l.take i)[k]?=some x by rw[List.getElem?_take_of_lt (by omega)];exact e)) b
     rw[iU,y];rfl
   apply XH;exact aK (l:=l) (by simp) j (inner i 0 (by omega) (by simp))
 have w:al 24 [vL 6 (l.map cT.row)] [] (Ai (oA l)) []:=by
  apply W24;exact key l 0 [] rfl (by simp)
 cases ht:oA l with
 |error p=>rw[ht]at w;exact w
 |ok p=>rw[ht]at w;exact Go.Ac.al.soft w rfl
def adj(h:fW s ops=true):PH s=Vy s:=by
 unfold fW ops at h;simp only[il,List.any_nil,Bool.or_false]at h;unfold PH Vy ops idx idx idx idx idx idx idx;cases s==[61,61]<;>cases s==[33,61]<;>cases s==[60]<;>cases s==[60,61]<;>cases s==[62]<;>cases h6:s==[62,61]<;>simp_all
def Py(h:cu e=true)(a:(e.kind==1)=false)(b:(e.kind==2)=false)(c:(e.kind==3)=false):(e.kind==4)=true:=by
 obtain⟨k,o,n,v,l⟩:=e;match l,h with
 |[x,y],h=>
  simp only[cu,show(k==1)=false from a,show(k==2)=false from b,af]at h
  exact(cg h).1
 |[x],h=>
  simp only[cu,show(k==3)=false from c,af]at h
  simp at h
def UC:∀{l:List α}{i:Nat}{z:α},l[i]?=some z->p z=true->(∀y∈l.take i,p y=false)->idx p l=i
 |[],i,z,h,_,_=>by simp at h
 |x::l,0,z,h,a,_=>by simp at h;subst h;unfold idx;rw[a];rfl
 |x::l,i+1,z,h,a,b=>by
  have c:=b x (by simp)
  have e:=UC (p:=p) (l:=l) (i:=i) (z:=z) (by simpa using h) a (fun y d=>b y (by simp[d]))
  unfold idx;rw[c,e,bV (by omega)]
  simp
def aab(h:∀y∈l,p y=false):idx p l<0:=by
 have:=mB p l;rw[show l.any p=false from List.any_eq_false.2 fun y a=>by simp[h y a]]at this
 have:=bI this;omega
def C51(a:List cT)(ps:List By)(q:DOK a ps):∀(d:Nat)(e:Ex),bK e<=d->cu e=true->rP e->al 51 [vL 6 (a.map cT.row),vL 1 (aI ps),oz e] [] [v7 (dM a ps e).1,vN (dM a ps e).2] []
 |0,e,h,_,_=>by rw[cI]at h;omega
 |d+1,e,h,E,F=>by
  have r:=(ky e).1 F;have Y:dM a ps e=bif e.kind==4 then jb a ps e else gT a ps e.kids [] (bif e.kind==1 then 4 else bif e.kind==2 then 3 else 2):=by cases e;rfl
  have loop:∀(k:Int),(e.kind==4)=false->xS (a.map cT.row) (aI ps) 0 e.kind e.op e.name e.num (br e.kids) 0 0 0 0 0 [] k 0 0 0 0 [] [v7 (gT a ps e.kids [] k).1,vN (gT a ps e.kids [] k).2] []:=by
   intro k f;have key:∀(t:List Ex)(i:Nat)(m:List Cn),e.kids.drop i=t->m.length<=i->xS (a.map cT.row) (aI ps) i e.kind e.op e.name e.num (br e.kids) 0 0 0 0 0 [] k 0 0 0 0 (cZ m) [v7 (gT a ps t m k).1,vN (gT a ps t m k).2] []:=by
    intro t;induction t with
    |nil=>intro i m j _;apply XS;rw[eo];exact aP (l:=e.kids) rfl j (ai (by rw[gT];rfl) rfl)
    |cons x t H=>
     intro i m j M;obtain⟨b,g,u⟩:=drop_cons j;have w:=aM b;have a1:=ei x w;rw[cI e]at h;have c:=C51 a ps q d x (by omega) (Ao E f x w) (dU r.2.2.2 x w)
     have J:cZ m++([[N (dM a ps x).1.kind,N (dM a ps x).1.arg,N (dM a ps x).1.op,U (dM a ps x).1.mask,U (dM a ps x).1.value,L 6 (cZ (dM a ps x).1.kids)]]:Rw)=cZ (m++[(dM a ps x).1]):=by
      rw[du m,du (m++[(dM a ps x).1]),bM,<-Cn.cp];rfl
     have a2:=r.2.2.1;apply XS;rw[eo];refine aK (l:=e.kids) rfl j ⟨_,_,_,_,_,by omega,eL b,_,_,_,_,_,_,_,c,ad (fun D=>ai (by rw[gT,D];rfl) rfl) fun D=>⟨?_,aC,?_⟩⟩
     .rw[J,du];simp;omega
     .rw[J,gT,D]
      exact H (i+1) _ g (by simp;omega)
   exact key e.kids 0 [] rfl (by simp)
  apply W51;rw[Y];refine ad (fun b=>bt rfl ?_) fun b=>ad (fun g=>bt rfl ?_) fun g=>ad (fun u=>bt rfl ?_) fun u=>aU rfl ?_
  .have f:(e.kind==4)=false:=by rw[eq_of_beq b];rfl
   rw[f,b];exact loop 4 f
  .have f:(e.kind==4)=false:=by rw[eq_of_beq g];rfl
   rw[f,b,g];exact loop 3 f
  .have f:(e.kind==4)=false:=by rw[eq_of_beq u];rfl
   rw[f,b,g];exact loop 2 f
  .have f:=Py E b g u
   rw[f,aj];obtain⟨k,o,n,v,l⟩:=e;obtain rfl:k=4:=eq_of_beq f;obtain⟨x,y,rfl,rfl,rfl,M,w,hy⟩:=MB E;have A:=dU r.2.2.2 x (by simp[Ex.kids])
   have R:=dU r.2.2.2 y (by simp[Ex.kids])
   have I:=C49 a.length a (ar _) q.dl q.ds _ y (ar _) R;refine⟨_,_,_,_,_,by omega,eL (l:=[x,y]) (i:=0) (x:=x) rfl,_,C73 o,?_⟩
   rw[adj M];have fin:∀(i o mask:Int),aw ((bX a y).2 !=0) (Fi [v7 (oB a i o mask y).1,vN (oB a i o mask y).2] [] [.agg [N 0,N 0,N 0,U 0,U 0,L 6 []],vN (bX a y).2] []) (Fi [v7 (oB a i o mask y).1,vN (oB a i o mask y).2] [] [.agg [N 5,N i,N o,U mask,U (bX a y).1,L 6 []],vN 0] []):=
    fun i o mask=>ad (fun h=>ai (by rw[oB,h];rfl) rfl) fun h=>ai (by rw[oB,h];rfl) rfl
   have Q:(br [x,y])[toNat 1]?=some [N y.kind,S y.op,S y.name,U y.num,L 5 (br y.kids)]:=eL (l:=[x,y]) (i:=1) (x:=y) rfl;have tail:∀(i:Nat),(0<=idx (x.name == ·) ps\/ps.length<=i)->vO (a.map cT.row) (aI ps) i 4 o [] 0 (br [x,y]) 0 0 0 0 0 [] x.kind x.op x.name x.num (br x.kids) (idx (x.name == ·) ps) (Vy o) 18446744073709551615 0 [v7 (jb a ps (.mk 4 o [] 0 [x,y])).1,vN (jb a ps (.mk 4 o [] 0 [x,y])).2] []:=by
    intro i j;apply XT;rw[show(aI ps).length=ps.length from ao ..]
    refine aU (by
     rcases j with j|j
     .rw[bV (p:=idx (x.name == ·) ps<0) (by omega)];cases decide ((i:Int)<(ps.length:Int))<;>rfl
     .rw[bV (p:=(i:Int)<(ps.length:Int)) (by omega)];rfl) (ad (fun h=>ai (by simp only[jb,h];rfl) rfl) fun b=>ad (fun h=>?_) fun h=>?_)
    .obtain⟨z,G,s⟩:=Ia w h
     have T:kM x 0=z:=by rw[kM,G];rfl
     have sz:=dU ((ky x).1 A).2.2.2 z (by rw[G];simp)
     have X:=C49 a.length a (ar _) q.dl q.ds _ z (ar _) sz;refine⟨_,_,_,_,_,by omega,by rw[G];exact eL (l:=[z]) (i:=0) (x:=z) rfl,_,_,X,ad (fun g=>ai ?_ rfl) fun g=>⟨_,_,_,_,_,by omega,Q,_,_,I,?_⟩⟩
     .simp only[jb,b,h,T,g];rfl
     .simp only[jb,b,h,T,g,aj,af]
      exact fin _ _ _
    .refine⟨_,_,_,_,_,by omega,Q,_,_,I,?_⟩
     simp only[jb,b,h,af];exact fin _ _ _
   have a3:=q.ps;have key:∀(t:List By)(i:Nat),ps.drop i=t->(∀z∈ps.take i,(x.name==z)=false)->vO (a.map cT.row) (aI ps) i 4 o [] 0 (br [x,y]) 0 0 0 0 0 [] x.kind x.op x.name x.num (br x.kids) (-1) (Vy o) 18446744073709551615 0 [v7 (jb a ps (.mk 4 o [] 0 [x,y])).1,vN (jb a ps (.mk 4 o [] 0 [x,y])).2] []:=by
    intro t;induction t with
    |nil=>
     intro i j s;have K:=drop_nil j;rw[dH K]at s;have b:=aab (p:=fun z=>x.name==z) s
     have g:=wC (x.name == ·) ps
     have:=tail i (.inr K);rw[show idx (x.name == ·) ps = -1 by omega]at this
     exact this
    |cons z t H=>
     intro i j s;obtain⟨b,g,u⟩:=drop_cons j;apply XT;rw[show(aI ps).length=ps.length from ao ..]
     refine bt (by rw[bE (by omega)];rfl) ⟨z,by omega,aQ b,ad (fun f=>⟨aC,?_⟩) fun f=>⟨aC,H (i+1) g (gY b s ?_)⟩⟩
     .have a0:=UC (p:=(x.name == ·)) b (by rw[eq_of_beq f];simp) s
      have:=tail (i+1) (.inl (by omega))
      rw[a0]at this;exact this
     .rw[ki]at f⊢
      intro Z;exact f (by rw[eq_of_beq Z];simp)
   exact key ps 0 rfl (by simp)
def C26(u:fH)(aq:By)(K:∀name,Je aq name=kC aq name)(r:gu)(a:Act)(h:oe u)(q:Af r)(Q:r.cond.length<=1)(M:∀e∈r.cond,cu e=true):
  al 26 [qg u,vS aq,zW a,qI r] [] [Zw (ep u aq r a).1,vN (ep u aq r a).2] []:=by
 have v:(aI r.params).length=r.params.length:=ao ..;have a2:=q.pl;apply W26;refine⟨_,_,_,_,C9 aq r.call,?_⟩;rw[K];cases hcp:kC aq r.call with
 |none=>exact bt rfl (ai (by rw[ep,hcp];rfl) rfl)
 |some c=>
  have J:=Ib hcp;have a1:=xG r c q.pl J;have D:(aI c.params).length=c.params.length:=ao ..;refine aU rfl ?_;show aw (decide (((aI r.params).length:Int)>((aI c.params).length:Int))) _ _
  rw[v,D];refine ad (fun f=>ai (by rw[ep,hcp];simp only[cR,f];rfl) rfl) fun f=>?_
  have a0:=bI f;have G:drop (toNat ((aI r.params).length:Int)) (take (aI c.params).length (aI c.params))=aI (c.params.drop r.params.length):=by
   rw[dH (ar _),toNat_cast,v,aI,aI,mR]
  have H:aI r.params++aI (c.params.drop r.params.length)=aI (r.params++c.params.drop r.params.length):=by rw[aI,aI,aI,bM]
  have F:(r.params++c.params.drop r.params.length).length<=2^40:=by simp;omega
  have key:∀(t:List By)(i:Nat),r.params.drop i=t->Nj i (u.aF.map cT.row) (u.aA.map cL.row) (aI u.main) u.bO.kind u.bO.data a.kind a.data r.call (aI r.params) (r.cond.map Ex.row) 0 0 0 0 0 0 0 0 [] c.name c.nr (aI c.params) (bif qJ t (r.params.take i)then[Zw OP,vN 8]else[Zw (kD u.aF (r.params++c.params.drop r.params.length) c.nr a r.cond (.mk 1 0 0 0 0 [])).1,vN (kD u.aF (r.params++c.params.drop r.params.length) c.nr a r.cond (.mk 1 0 0 0 0 [])).2]) []:=by
   intro t;induction t with
   |nil=>
    intro i j;apply XK;refine aP (l:=r.params) (by simp[aI]) j ?_
    rw[ao];match hq:r.cond,Q with
    |[],_=>exact aU rfl (ai rfl rfl)
    |[e],_=>
     have E:e∈r.cond:=by rw[hq];simp
     have Z:=C51 u.aF _ ⟨h.dl,fun d g=>(h.aF d g).2,F⟩ _ e (ar _) (M e E) (q.cond e E).1
     refine bt rfl ?_;rw[G,H];refine⟨by omega,⟨by omega,by rw[v,D];omega,by omega⟩,by rw[aI,ao];omega,_,_,_,_,_,by omega,by rw[<-Ex.cp];rfl,_,_,_,_,_,_,_,Z,ad (fun b=>ai ?_ rfl) fun b=>ai ?_ rfl⟩
     .simp only[qJ,kD,b];rfl
     .simp only[qJ,kD,b];rfl
   |cons x t Y=>
    intro i j;obtain⟨w,I,R⟩:=drop_cons j;have hlen:(r.params.take i).length=i:=by simp;omega
    have inner:∀(n k:Nat),k+n=i->(∀z∈r.params.take k,(x==z)=false)->Nk i k (u.aF.map cT.row) (u.aA.map cL.row) (aI u.main) u.bO.kind u.bO.data a.kind a.data r.call (aI r.params) (r.cond.map Ex.row) 0 0 0 0 0 0 0 0 [] c.name c.nr (aI c.params) (bif qJ (x::t) (r.params.take i)then[Zw OP,vN 8]else[Zw (kD u.aF (r.params++c.params.drop r.params.length) c.nr a r.cond (.mk 1 0 0 0 0 [])).1,vN (kD u.aF (r.params++c.params.drop r.params.length) c.nr a r.cond (.mk 1 0 0 0 0 [])).2]) []:=by
     intro n;induction n with
     |zero=>
      intro k T p;obtain rfl:k=i:=by omega
      apply XL;have o:fW x (r.params.take k)=false:=List.any_eq_false.2 fun y X=>by simp[p y X]
      have:=Y (k+1) I;rw[eO,w]at this;rw[qJ,o];exact aU (by simp) ⟨aC,this⟩
     |succ n A=>
      intro k T p;obtain⟨z,s⟩:∃z,r.params[k]?=some z:=⟨_,bo (by omega)⟩
      apply XL;refine bt (bE (by omega)) ⟨x,by omega,aQ w,z,by omega,aQ s,ad (fun b=>ai ?_ rfl) fun b=>⟨aC,A (k+1) (by omega) (gY s p b)⟩⟩
      have o:fW x (r.params.take i)=true:=mU.2 ⟨z,aM (show(r.params.take i)[k]?=some z by rw[List.getElem?_take_of_lt (by omega)];exact s),b⟩
      rw[qJ,o];rfl
    apply XK;exact aK (l:=r.params) (by simp[aI]) j (inner i 0 (by omega) (by simp))
  have m:=key r.params 0 rfl;rw[ep,hcp];simp only[cR,f,af];cases g:qJ r.params []
  .rw[List.take_zero,g]at m;exact m
  .rw[List.take_zero,g]at m;exact m
inductive um (ps:List cL):By->cK->Prop
 |own (p:cL) (x:cK):p∈ps->x∈p.aT->x.use=[]->um ps p.name x
 |use (p:cL) (y x:cK):p∈ps->y∈p.aT->y.use≠[]->um ps y.use x->um ps p.name x
structure FIn (ps:List cL) (A:cK->Prop) (s s':Fs):Prop where
 kn:∀k∈s'.kn,∀x∈k.2,um ps k.1 x
 eY:∃l,s'.eY=s.eY++l/\∀x∈l,A x
def NQ(h:∀k∈s.kn,∀x∈k.2,um ps k.1 x)(a:∀x∈l,A x):FIn ps A s (B2 s l).2:=⟨h,l,rfl,a⟩
def DM(f:p∈ps)(g:∀name s,(∀k∈s.kn,∀x∈k.2,um ps k.1 x)->(rec name s).1=0->FIn ps (um ps name) s (rec name s).2):∀(l:List cK)(s:Fs),(∀x∈l,x∈p.aT)->(∀k∈s.kn,∀x∈k.2,um ps k.1 x)->(gF rec l s).1=0->FIn ps (um ps p.name) s (gF rec l s).2
 |[],s,_,h,_=>⟨h,[],by simp[gF],by simp⟩
 |x::t,s,i,h,b=>by
  unfold gF at b⊢;have j:=i x aX;cases a:(lT rec s x).1 !=0<;>rw[a]at b
  .have c:(lT rec s x).1=0:=by simpa using a
   have n:FIn ps (um ps p.name) s (lT rec s x).2:=by
    unfold lT at c⊢;cases hu:x.use==[]
    .rw[hu]at c
     obtain⟨k,l,e,d⟩:=g x.use s h c;exact⟨k,l,e,fun z a=>.use p x z f j (by simpa using hu) (d z a)⟩
    .exact NQ h fun z a=>by simp at a;subst a;exact .own p z f j (by simpa using hu)
   obtain⟨k,l,e,d⟩:=n;obtain⟨q,u,m,v⟩:=DM f g t _ (fun y o=>i y (aW _ o)) k b
   exact⟨q,l++u,by rw[af,m,e,bp],fun z a=>(bn.1 a).elim (d z) (v z)⟩
  .rw[aj]at b;rw[b]at a;simp at a
def NR(ps:List cL):∀(n:Nat)(name:By)(s:Fs),(∀k∈s.kn,∀x∈k.2,um ps k.1 x)->(kc ps n name s).1=0->FIn ps (um ps name) s (kc ps n name s).2
 |0,_,s,h,_=>⟨h,[],by simp[kc],by simp⟩
 |n+1,name,s,h,a=>by
  unfold kc at a⊢;cases hp:dr cL.name ps name with
  |none=>rw[hp]at a;simp at a
  |some p=>
   obtain⟨i,rfl⟩:=np hp;rw[hp]at a;simp only at a⊢;cases hw:dr id s.w p.name with
   |some y=>rw[hw]at a;simp at a
   |none=>
    rw[hw]at a;simp only at a⊢;cases hk:dr (·.1) s.kn p.name with
    |some k=>
     obtain⟨f,g⟩:=np hk;refine NQ h fun x b=>?_
     rw[g];exact h k f x b
    |none=>
     rw[hk]at a;simp only at a⊢;unfold H6 at a⊢;cases hz:(gF (kc ps n) p.aT {s with w:=iG id p.name s.w}).1 !=0<;>rw[hz]at a
     .obtain⟨k,l,e,d⟩:=DM i (NR ps n) p.aT {s with w:=iG id p.name s.w} (fun x b=>b) h (by simpa using hz)
      refine⟨fun q c x b=>?_,l,e,d⟩
      rcases vu c with rfl|c
      .have e:(gF (kc ps n) p.aT {s with w:=iG id p.name s.w}).2.eY.drop s.eY.length=l:=by rw[e];simp
       exact d x (by rw[<-e];exact b)
      .exact k q c x b
     .rw[aj]at a;rw[a]at hz;simp at hz
def DN(ps:List cL):∀(names:List By)(s:Fs),(∀k∈s.kn,∀x∈k.2,um ps k.1 x)->(fk ps names s).1=0->FIn ps (fun x=>∃c∈names,um ps c x) s (fk ps names s).2
 |[],s,h,_=>⟨h,[],by simp[fk],by simp⟩
 |x::t,s,h,b=>by
  unfold fk at b⊢;cases a:(kc ps (ps.length+1) x s).1 !=0<;>rw[a]at b
  .obtain⟨k,l,e,i⟩:=NR ps _ x s h (by simpa using a)
   obtain⟨j,m,d,n⟩:=DN ps t _ k b;exact⟨j,l++m,by rw[af,d,e,bp],fun z a=>(bn.1 a).elim (fun h=>⟨x,aX,i z h⟩) fun h=>by obtain⟨c,f,g⟩:=n z h;exact⟨c,aW _ f,g⟩⟩
  .rw[aj]at b;rw[b]at a;simp at a
def Ww(h:um ps a x):x.use=[]:=by
 induction h with
 |own _ _ _ _ h=>exact h
 |use _ _ _ _ _ _ _ h=>exact h
def Wx(h:ns ps names = .ok l):∀x∈l,∃b∈names,um ps b x:=by
 unfold ns at h;cases hd:H9 ps []<;>rw[hd]at h
 .simp only[af]at h
  cases hz:(fk ps names ⟨[],[],[]⟩).1 !=0<;>rw[hz]at h
  .simp at h
   subst h;obtain⟨-,l,e,g⟩:=DN ps names ⟨[],[],[]⟩ (by simp) (by simpa using hz)
   intro x i;obtain⟨y,d,rfl⟩:=bh.1 i;rw[e]at d;obtain⟨b,f,c⟩:=g y (by simpa using d)
   refine⟨b,f,?_⟩;have e:nq y=y:=by have:=Ww c;obtain⟨u,a,r⟩:=y;obtain rfl:u=[]:=this;rfl
   rw[e];exact c
  .simp at h
 .simp at h
def Wy{α:Type}(P:α->Prop):Except Int α->Prop
 |.error e=>(e !=0)=true
 |.ok l=>P l
def Pz(ps:List cL):Prop:=∀p∈ps,∀q∈ps,p.name=q.name->p=q
def aac(e:Pz ps)(d:p∈ps)(h:um ps p.name x):(x∈p.aT/\x.use=[])\/∃y∈p.aT,y.use≠[]/\um ps y.use x:=by
 generalize c:p.name=nm at h;cases h with
 |own q x b f a=>obtain rfl:=e p d q b c;exact .inl ⟨f,a⟩
 |use q y x b g a h=>obtain rfl:=e p d q b c;exact .inr ⟨y,g,a,h⟩
def vV(ps:List cL)(w:List By):Nat:=ps.countP fun p => !fW p.name w
def Jv:∀{ps:List cL},p∈ps->fW p.name w=false->vV ps (w++[p.name])<vV ps w
 |[],a,_=>by simp at a
 |q::ps,a,b=>by
  have mono:∀z:cL,(!fW z.name (w++[p.name]))=true->(!fW z.name w)=true:=fun z h=>by
   unfold fW at h⊢;rw[List.any_append]at h;cases hz:w.any (z.name == ·)<;>simp[hz]at h⊢
  have c:vV ps (w++[p.name])<=vV ps w:=List.countP_mono_left fun x _ h=>mono x h
  unfold vV at c⊢;rw[List.countP_cons,List.countP_cons];rcases aZ.1 a with rfl|a
  .have:fW p.name (w++[p.name])=true:=by unfold fW;simp
   rw[this,b];simp;omega
  .have:=Jv a b
   unfold vV at this;have:=mono q;cases ha:(!fW q.name (w++[p.name]))
   .simp;omega
   .rw[this ha];simp;omega
def NS(Q:cK->Prop)(A:cK->Prop)(c a:Int)(n:Nat)(l:List cK):Prop:=a=c+((l.length:Int)-n)/\a<=500/\(∀x∈l,Q x)/\∀x,A x->x∈l
def C50{Q:cK->Prop}(ps:List cL)(hu:Pz ps)(hq:∀p∈ps,∀x∈p.aT,x.use=[]->Q x)(R:∀p∈ps,p.aT.length<=2^40)(a1:ps.length<=2^40):∀(n:Nat)(name:By)(w:List By)(c:Int),vV ps w<n->w.length+n<=2^40+1->0<=c->c<=500 ->
  ∃E a,al 50 [.aB 0 0,vL 2 (ps.map cL.row),vS name,vL 1 (aI w)] [.aH [vN c]] (My E) [.aH [vN a]]/\Wy (NS Q (um ps name) c a 0) E
 |0,_,_,_,h,_,_,_=>absurd h (by omega)
 |n+1,name,w,c,hn,hw,c0,c5=>by
  have a3:∀(E:Except Int (List cK))(a:Int),al 50 [.aB 0 0,vL 2 (ps.map cL.row),vS name,vL 1 (aI w)] [.aH [vN c]] (rQ E) [.aH [vN a]]->al 50 [.aB 0 0,vL 2 (ps.map cL.row),vS name,vL 1 (aI w)] [.aH [vN c]] (My E) [.aH [vN a]]:=fun E a h=>by
   cases E with
   |error e=>exact h
   |ok l=>exact Go.Ac.al.soft h rfl
  have body:∀(i:Nat)(p:cL),ps[i]?=some p->p.name=name->fW name w=false->∃E a,Dt (ps.map cL.row) (aI (w++[name])) i [] 0 c (rQ E) [.aH [vN a]]/\Wy (NS Q (um ps name) c a 0) E:=by
   intro i p b Y D;subst Y;have M:=aM b;have a4:=Jv M D;have a6:=R p M;have a5:i<ps.length:=(aG.1 b).1;have key:∀(t:List cK)(j:Nat)(z:Int)(g:List cK),p.aT.drop j=t->0<=z->z<=500->z=c+g.length->(∀x∈g,Q x)->(∀x,x∈p.aT.take j->x.use=[]->x∈g)->(∀y∈p.aT.take j,y.use≠[]->∀x,um ps y.use x->x∈g)->
     ∃E a,Dt (ps.map cL.row) (aI (w++[p.name])) i (g.map cK.row) j z (rQ E) [.aH [vN a]]/\Wy (NS Q (um ps p.name) c a 0) E:=by
    intro t;induction t with
    |nil=>
     intro j z g q z0 Z s K v r;have hd:=drop_nil q;rw[dH hd]at v r;refine⟨.ok g,z,?_,by simpa using s,Z,K,fun x G=>?_⟩
     .apply I5
      exact⟨_,_,by omega,aQ b,aP (l:=p.aT) (by simp) q fi⟩
     .rcases aac hu M G with⟨G,d⟩|⟨y,f,d,G⟩
      .exact v x G d
      .exact r y f d x G
    |cons x t H=>
     intro j z g q z0 Z s K v r;obtain⟨k,I,k3⟩:=drop_cons q;have a2:=aM k;cases hux:x.use==[]
     .have F:x.use≠[]:=by simpa using hux
      obtain⟨E,a,o,m⟩:=C50 ps hu hq R a1 n x.use (w++[p.name]) z (by omega) (by simp;omega) z0 Z
      cases E with
      |error e=>
       refine⟨.error e,a,?_,m⟩;apply I5;exact⟨_,_,by omega,aQ b,aK (l:=p.aT) (by simp) q ⟨_,_,by omega,aQ b,_,_,_,_,by omega,aQ k,aU hux ⟨_,_,_,o,bt m fi⟩⟩⟩
      |ok l=>
       obtain⟨g1,g2,g3,g4⟩:=m;have gl:(l.length:Int)<=500:=by omega
       obtain⟨E,T,J,A⟩:=H (j+1) a (g++l) I (by omega) g2 (by simp;omega) (fun y f=>(bn.1 f).elim (K y) (g3 y))
        (gY (P:=fun y=>y.use=[]->y∈g++l) k (fun y f d=>bn.2 (.inl (v y f d))) fun d=>absurd d F)
        (gY (P:=fun y=>y.use≠[]->∀x,um ps y.use x->x∈g++l) k (fun y f d z s=>bn.2 (.inl (r y f d z s))) fun _ z s=>bn.2 (.inr (g4 z s)))
       refine⟨E,T,?_,A⟩;apply I5;refine⟨_,_,by omega,aQ b,aK (l:=p.aT) (by simp) q ⟨_,_,by omega,aQ b,_,_,_,_,by omega,aQ k,aU hux ⟨_,_,_,o,aU rfl ⟨by simp;omega,aC,?_⟩⟩⟩⟩
       rw[bM]at J;exact J
     .have d:x.use=[]:=by simpa using hux
      cases h5:decide (z+1>500)
      .have h6:=bI h5
       obtain⟨E,T,J,A⟩:=H (j+1) (z+1) (g++[x]) I (by omega) (by omega) (by simp;omega) (fun y f=>(bn.1 f).elim (K y) fun f=>by simp at f;subst f;exact hq p M y a2 d)
        (gY (P:=fun y=>y.use=[]->y∈g++[x]) k (fun y f d=>bn.2 (.inl (v y f d))) fun _=>by simp)
        (gY (P:=fun y=>y.use≠[]->∀z,um ps y.use z->z∈g++[x]) k (fun y f d z s=>bn.2 (.inl (r y f d z s))) fun F=>absurd d F)
       refine⟨E,T,?_,A⟩;apply I5;refine⟨_,_,by omega,aQ b,aK (l:=p.aT) (by simp) q ⟨_,_,by omega,aQ b,_,_,_,_,by omega,aQ k,bt hux ⟨aC,aU h5 ⟨by simp;omega,aC,?_⟩⟩⟩⟩
       rw[bM]at J;exact J
      .refine⟨.error 9,z+1,?_,rfl⟩
       apply I5;exact⟨_,_,by omega,aQ b,aK (l:=p.aT) (by simp) q ⟨_,_,by omega,aQ b,_,_,_,_,by omega,aQ k,bt hux ⟨aC,bt h5 fi⟩⟩⟩
   exact key p.aT 0 c [] rfl c0 c5 (by simp) (by simp) (by simp) (by simp)
  have find:∀(t:List cL)(i:Nat)(u:Int),ps.drop i=t->(u = -1\/∃j:Nat,u=j/\∃p,ps[j]?=some p/\p.name=name)->
    ∃E a,I3 (ps.map cL.row) name (aI w) u i c (rQ E) [.aH [vN a]]/\Wy (NS Q (um ps name) c a 0) E:=by
   intro t;induction t with
   |nil=>
    intro i u b X;rcases X with rfl|⟨j,rfl,p,Y,a0⟩
    .refine⟨.error 7,c,?_,rfl⟩
     apply I4;exact aP (l:=ps) (by simp) b (bt rfl fi)
    .cases D:fW name w
     .obtain⟨E,a,o,m⟩:=body j p Y a0 D
      refine⟨E,a,?_,m⟩;have e1:aI w++([[S name]]:Rw)=aI (w++[name]):=by rw[aI,aI,bM];rfl
      apply I4;rw[e1];exact aP (l:=ps) (by simp) b (aU (bV (by omega)) ⟨_,C68 w name (by omega),aU D ⟨by simp[aI];omega,by simp[aI];omega,o⟩⟩)
     .refine⟨.error 5,c,?_,rfl⟩
      apply I4;exact aP (l:=ps) (by simp) b (aU (bV (by omega)) ⟨_,C68 w name (by omega),bt D fi⟩)
   |cons p t H=>
    intro i u b X;obtain⟨k,I,k3⟩:=drop_cons b;cases hpn:p.name==name
    .obtain⟨E,a,o,m⟩:=H (i+1) u I X
     refine⟨E,a,?_,m⟩;apply I4;exact aK (l:=ps) (by simp) b ⟨_,_,by omega,aQ k,aU hpn ⟨aC,o⟩⟩
    .obtain⟨E,a,o,m⟩:=H (i+1) i I (.inr ⟨i,rfl,p,k,eq_of_beq hpn⟩)
     refine⟨E,a,?_,m⟩;apply I4;exact aK (l:=ps) (by simp) b ⟨_,_,by omega,aQ k,bt hpn ⟨aC,o⟩⟩
  obtain⟨E,a,o,m⟩:=find ps 0 (-1) rfl (.inl rfl);exact⟨E,a,a3 E a (by apply W50;exact o),m⟩
def PA{ps:List cL}(k:ps[i]?=some p)(m:Pz (ps.take i))(h:∀q∈ps.take i,(q.name==p.name)=false):Pz (ps.take (i+1)):=by
 have j:∀q∈ps.take i,q.name≠p.name:=fun q l e=>by have:=h q l;rw[e]at this;simp at this
 intro a f b g e;rw[eO,k]at f g;rcases bn.1 f with c|c<;>rcases bn.1 g with d|d
 .exact m a c b d e
 .simp at d;subst d;exact absurd e (j a c)
 .simp at c;subst c;exact absurd e.symm (j b d)
 .simp at c d;rw[c,d]
def C25{Q:cK->Prop}(ps:List cL)(names:List By)(A:∀p∈ps,∀x∈p.aT,x.use=[]->Q x)(F:∀p∈ps,p.aT.length<=2^40)(a1:ps.length<=2^40)(hn:names.length<=2^40):
  ∃E,al 25 [vL 2 (ps.map cL.row),vL 1 (aI names)] [] (My E) []/\Wy (fun l=>l.length<=500/\(∀x∈l,Q x)/\∀b∈names,∀x,um ps b x->x∈l) E:=by
 have a3:Pz ps->∀(t:List By)(i:Nat)(c:Int)(j:List cK),names.drop i=t->c=j.length->c<=500->(∀x∈j,Q x)->(∀b∈names.take i,∀x,um ps b x->x∈j)->
   ∃E,Ni (ps.map cL.row) (aI names) (j.map cK.row) i c (rQ E) []/\Wy (fun l=>l.length<=500/\(∀x∈l,Q x)/\∀b∈names,∀x,um ps b x->x∈l) E:=by
  intro o t;induction t with
  |nil=>
   intro i c j g Y H s q;rw[dH (drop_nil g)]at q;refine⟨.ok j,?_,by omega,s,q⟩
   apply T6;exact aP (l:=names) (by simp[aI]) g fi
  |cons b t D=>
   intro i c j g Y H s q;obtain⟨m,G,R⟩:=drop_cons g;have a4:vV ps []<=ps.length:=List.countP_le_length;obtain⟨E,J,f,d⟩:=C50 ps o A F a1 (vV ps []+1) b [] c (by omega) (by simp;omega) (by omega) H
   cases E with
   |error e=>
    refine⟨.error e,?_,d⟩;apply T6;exact aK (l:=names) (by simp[aI]) g ⟨b,by omega,aQ m,_,_,_,f,bt d fi⟩
   |ok l=>
    obtain⟨g1,K,M,T⟩:=d;obtain⟨E,I,a0⟩:=D (i+1) J (j++l) G (by simp;omega) K (fun y h=>(bn.1 h).elim (s y) (M y))
     (gY (P:=fun b=>∀x,um ps b x->x∈j++l) m (fun y h x v=>bn.2 (.inl (q y h x v))) fun x v=>bn.2 (.inr (T x v)))
    refine⟨E,?_,a0⟩;apply T6;refine aK (l:=names) (by simp[aI]) g ⟨b,by omega,aQ m,_,_,_,f,aU rfl ⟨by simp;omega,aC,?_⟩⟩
    rw[bM]at I;exact I
 have key:∀(t:List cL)(i:Nat),ps.drop i=t->Pz (ps.take i)->∃E,Ng (ps.map cL.row) (aI names) i (rQ E) []/\Wy (fun l=>l.length<=500/\(∀x∈l,Q x)/\∀b∈names,∀x,um ps b x->x∈l) E:=by
  intro t;induction t with
  |nil=>
   intro i g o;rw[dH (drop_nil g)]at o;obtain⟨E,f,d⟩:=a3 o names 0 0 [] rfl rfl (by omega) (by simp) (by simp)
   refine⟨E,?_,d⟩;apply XJ;exact aP (l:=ps) (by simp) g f
  |cons p t D=>
   intro i g o;obtain⟨m,G,R⟩:=drop_cons g;have inner:∀(n k:Nat),k+n=i->(∀z∈ps.take k,(z.name==p.name)=false)->∃E,Nh (ps.map cL.row) (aI names) i k (rQ E) []/\Wy (fun l=>l.length<=500/\(∀x∈l,Q x)/\∀b∈names,∀x,um ps b x->x∈l) E:=by
    intro n;induction n with
    |zero=>
     intro k Z u;obtain rfl:k=i:=by omega
     obtain⟨E,f,d⟩:=D (k+1) G (PA m o u);refine⟨E,?_,d⟩;apply T5;exact aU (by simp) ⟨aC,f⟩
    |succ n a2=>
     intro k Z u;obtain⟨z,r⟩:∃z,ps[k]?=some z:=⟨_,bo (by omega)⟩
     cases hzp:z.name==p.name
     .obtain⟨E,f,d⟩:=a2 (k+1) (by omega) (gY r u hzp)
      refine⟨E,?_,d⟩;apply T5;exact bt (bE (by omega)) ⟨_,_,by omega,aQ r,_,_,by omega,aQ m,aU hzp ⟨aC,f⟩⟩
     .refine⟨.error 8,?_,rfl⟩
      apply T5;exact bt (bE (by omega)) ⟨_,_,by omega,aQ r,_,_,by omega,aQ m,bt hzp fi⟩
   obtain⟨E,f,d⟩:=inner i 0 (by omega) (by simp)
   refine⟨E,?_,d⟩;apply XJ;exact aK (l:=ps) (by simp) g f
 obtain⟨E,f,d⟩:=key ps 0 rfl (fun a X=>by simp at X)
 refine⟨E,?_,d⟩;have w:al 25 [vL 2 (ps.map cL.row),vL 1 (aI names)] [] (rQ E) []:=by
  apply W25;exact f
 cases E with
 |error e=>exact w
 |ok l=>exact Go.Ac.al.soft w rfl
def Wz(h:(dc aq).2=true):aq∈ui:=by
 unfold dc at h;cases h1:aq==[97,97,114,99,104,54,52]
 .cases h2:aq==[105,51,56,54]
  .cases h3:aq==[120,56,54,95,54,52]
   .rw[h1,h2,h3]at h;simp at h
   .rw[eq_of_beq h3];simp
  .rw[eq_of_beq h2];simp
 .rw[eq_of_beq h1];simp
def DO:∀{t:List cK}{a o:List Bd},(∀p∈t,p.bj.length<=m)->gp u aq t a = .ok o->o.length<=a.length+t.length*m
 |[],a,o,_,h=>by simp[gp]at h;simp[h]
 |p::t,a,o,b,h=>by
  unfold gp at h;cases hz:iH u aq p.act p.bj a<;>rw[hz]at h
  .simp at h
  .have d:=Ap u aq p.act _ _ _ hz
   have e:=DO (fun q c=>b q (aW _ c)) h
   have f:=b p aX;rw[aE,bZ,cM];omega
structure PB1 (x:cK):Prop where
 pb:PB x
 one:∀r∈x.bj,r.cond.length<=1
def C12(u:fH)(aq:By)(a:oe u)(a3:PI u):∃E:Except Int (List Bd),al 12 [qg u,vS aq] [] (acf E) []/\Wy (fun l=>aq∈ui/\l.length<=2^40/\∀I,eC u aq = .ok I->∀b∈I,b∈l) E:=by
 have a7:∀r,Yg r->r.cond.length<=1:=fun r a1=>by
  rcases a1.cond with e|⟨z,e,-⟩<;>rw[e]<;>simp
 cases h1:(dc aq).2
 .refine⟨.error 1,?_,rfl⟩
  apply W12;exact⟨_,_,C15 aq,bt (by rw[h1];rfl) fi⟩
 .cases h2:ji u
  .refine⟨.error 1,?_,rfl⟩
   apply W12;exact⟨_,_,C15 aq,aU (by rw[h1];rfl) ⟨_,C22 u a,bt (by rw[h2];rfl) fi⟩⟩
  .have Z:=Wz h1
   have k:=C24 u.aF a.dl fun d hd=>(a.aF d hd).2
   have hq:∀p∈u.aA,∀x∈p.aT,x.use=[]->PB1 x:=by
    intro p h x f a4;have M:=(cg (show(bif u.aF.all Ag then(bif(bif u.aA.all wS then decide ((u.main.length:Int)>0)else false)then(bif u.main.all bL then(cd u.bO).2 else false)else false)else false)=true from h2)).2
    have Y:=(cg (cg M).1).1;have v:=bf.1 Y p h;have h6:=(cg (b:=bL p.name) v).2;exact⟨MC ((a.aA p h).aT x f) (bf.1 h6 x f) a4,fun r G=>a7 r (((a3.aA p h).2 x f).bj r G)⟩
   cases ht:oA u.aF with
   |error q=>
    rw[ht]at k;obtain⟨i,e⟩:=q;have R:(e !=0)=true:=wU ht;refine⟨.error e,?_,R⟩;apply W12;exact⟨_,_,C15 aq,aU (by rw[h1];rfl) ⟨_,C22 u a,aU (by rw[h2];rfl) ⟨_,_,_,k,bt R fi⟩⟩⟩
   |ok q=>
    rw[ht]at k;obtain⟨F,X,Q⟩:=C25 u.aA u.main hq (fun p h=>(a.aA p h).pl) a.pl a.ml
    cases F with
    |error e=>
     refine⟨.error e,?_,Q⟩;apply W12;exact⟨_,_,C15 aq,aU (by rw[h1];rfl) ⟨_,C22 u a,aU (by rw[h2];rfl) ⟨_,_,_,k,aU rfl ⟨_,_,X,bt Q fi⟩⟩⟩⟩
    |ok l=>
     obtain⟨a2,K,hA⟩:=Q;have key:∀(t:List cK)(j:Nat)(g:List Bd),l.drop j=t->g.length<=j*2^20 ->
       M5 aq (l.map cK.row) (g.map Bd.row) j (u.aF.map cT.row) (u.aA.map cL.row) (aI u.main) u.bO.kind u.bO.data (OQ (gp u aq t g)) []:=by
      intro t;induction t with
      |nil=>intro j g J _;apply Xz;exact aP (l:=l) (by simp) J fi
      |cons p t ih=>
       intro j g J ho;obtain⟨H,k2,k3⟩:=drop_cons J;have h:=K p (aM H);have a8:=h.pb.sm.rl;have inner:∀(s:List gu)(i:Nat)(z:List Bd),p.bj.drop i=s->z.length+s.length<=j*2^20+p.bj.length ->
         M6 aq (l.map cK.row) (z.map Bd.row) j i (u.aF.map cT.row) (u.aA.map cL.row) (aI u.main) u.bO.kind u.bO.data (OQ (match iH u aq p.act s z with|.error e=>.error e|.ok o=>gp u aq t o)) []:=by
        intro s;induction s with
        |nil=>
         intro i z D T;have:=drop_nil D;apply XA;exact⟨_,_,_,_,by omega,aQ H,aP (l:=p.bj) (by simp) D ⟨aC,ih (j+1) z k2 (by
          have e:(j+1)*2^20=j*2^20+2^20:=by rw[bZ,cM]
          simp only[cN]at T;omega)⟩⟩
        |cons r s a6=>
         intro i z D T;obtain⟨q1,q2,q3⟩:=drop_cons D;simp only[aE]at T;have G:=aM q1;apply XA;refine⟨_,_,_,_,by omega,aQ H,aK (l:=p.bj) (by simp) D ⟨_,_,_,_,by omega,aQ H,_,_,_,_,by omega,aQ H,_,_,_,by omega,aQ q1,_,_,_,_,_,_,_,_,_,_,C26 u aq (fun n=>Pu Z n) r p.act a (h.pb.sm.bj r G) (h.one r G) (h.pb.bool r G),ad (fun v=>ai (by rw[iH,v];rfl) rfl) fun v=>⟨by simp;omega,aC,?_⟩⟩⟩
         have:=a6 (i+1) (z++[(ep u aq r p.act).1]) q2 (by simp;omega)
         rw[iH,v];rw[bM (l₁:=z),show[(ep u aq r p.act).1].map Bd.row=[bdC (ep u aq r p.act).1] by rw[<-Bd.cp];rfl]at this
         exact this
       apply Xz;exact aK (l:=l) (by simp) J (inner p.bj 0 g rfl (by omega))
     have w:al 12 [qg u,vS aq] [] (OQ (gp u aq l [])) []:=by
      apply W12;exact⟨_,_,C15 aq,aU (by rw[h1];rfl) ⟨_,C22 u a,aU (by rw[h2];rfl) ⟨_,_,_,k,aU rfl ⟨_,_,X,aU rfl (key l 0 [] rfl (by simp))⟩⟩⟩⟩
     cases hE:gp u aq l []with
     |error e=>
      rw[hE]at w;exact⟨.error e,w,xf hE⟩
     |ok r=>
      rw[hE]at w;refine⟨.ok r,Go.Ac.al.soft w rfl,Z,?_,fun I c b A=>?_⟩
      .have M:=DO (m:=2^20) (fun p h=>(K p h).pb.sm.rl) hE
       have Y:l.length*2^20<=500*2^20:=dx _ a2;simp only[cN]at M;omega
      .obtain⟨er,-⟩:=xo l [] r (fun p h=>(K p h).one) hE
       unfold eC at c;rw[h1,h2,ht]at c;simp only[ec,af]at c;cases hf:ns u.aA u.main with
       |error e=>rw[hf]at c;simp at c
       |ok lp=>
        rw[hf]at c;simp only at c;have a0:∀x∈lp,x∈l:=fun x f=>by
         obtain⟨nm,n1,n2⟩:=Wx hf x f;exact hA nm n1 x n2
        obtain⟨eb,-⟩:=xo lp [] I (fun p h=>(K p (a0 p h)).one) c
        rw[eb,dT]at A;rw[er,dT];obtain⟨y,hy,rfl⟩:=bh.1 A;obtain⟨x,f,a5⟩:=eN.1 hy;exact bh.2 ⟨y,eN.2 ⟨x,a0 x f,a5⟩,rfl⟩
mutual
def uo(P:Int):Cn->Prop|.mk k a _ _ _ l=>(k=5->0<=a/\a<P)/\LN P l
def LN(P:Int):List Cn->Prop|[]=>True|x::t=>uo P x/\LN P t
end
def Jw{P:Int}:∀{l:List Cn},(∀x∈l,uo P x)->LN P l
 |[],_=>trivial
 |x::l,h=>⟨h x aX,Jw fun y a=>h y (aW _ a)⟩
mutual
theorem DP(a:List cT)(ps:List By):∀e,(dM a ps e).2=0->uo ps.length (dM a ps e).1
 |.mk k o n v l=>by
  intro h;unfold dM at h⊢;cases b:k==4<;>rw[b]at h
  .rw[af]at h⊢
   refine DQ a ps l [] _ ?_ (by simp) h
   cases k==1
   .cases k==2<;>simp
   .simp
  .rw[aj]at h⊢
   match l,h with
   |[],h=>simp[jb]at h
   |[_],h=>simp[jb]at h
   |x::y::_,h=>
    unfold jb at h⊢;simp only at h⊢;have s:=Fx (p:=(x.name == ·)) ps
    have j:∀o m,(oB a (idx (x.name == ·) ps) o m y).2=0->0<=idx (x.name == ·) ps->uo ps.length (oB a (idx (x.name == ·) ps) o m y).1:=fun o m d i=>by
     unfold oB at d⊢;cases hz:(bX a y).2 !=0<;>rw[hz]at d
     .exact⟨fun _=>⟨i,s⟩,trivial⟩
     .rw[aj]at d;rw[show(bX a y).2=0 from d]at hz;simp at hz
    cases h1:decide (idx (x.name == ·) ps<0)<;>rw[h1]at h
    .have i:=bI h1
     rw[af]at h⊢;cases h2:x.kind==6<;>rw[h2]at h
     .exact j _ _ h (by omega)
     .rw[aj]at h⊢
      cases h3:(bX a (kM x 0)).2 !=0<;>rw[h3]at h
      .exact j _ _ h (by omega)
      .rw[aj]at h;rw[show(bX a (kM x 0)).2=0 from h]at h3;simp at h3
    .simp at h
theorem DQ(a:List cT)(ps:List By):∀(l:List Ex)(c:List Cn)(k:Int),k≠5->(∀x∈c,uo ps.length x)->(gT a ps l c k).2=0->uo ps.length (gT a ps l c k).1
 |[],c,k,b,g,_=>by rw[gT];exact⟨fun h=>absurd h b,Jw g⟩
 |x::t,c,k,b,g,h=>by
  unfold gT at h⊢;cases hz:(dM a ps x).2 !=0<;>rw[hz]at h
  .have q:=DP a ps x (by simpa using hz)
   exact DQ a ps t _ k b (fun y f=>(bn.1 f).elim (g y) fun f=>by simp at f;subst f;exact q) h
  .rw[aj]at h;rw[show(dM a ps x).2=0 from h]at hz;simp at hz
end
mutual
theorem DR{P:Int}:∀(c:Cn)(b:Bool),uo P c->uo P (mj c b)
 |.mk k a o m v l,b,h=>by
  have d:LN P l:=h.2;unfold mj;cases h2:k==2
  .simp only[af]
   cases h3:(bif k==1 then !b else false)
   .cases h4:(bif k==5 then !b else false)
    .cases h5:(bif k==3 then !b else false)
     .cases h6:(bif k==4 then !b else false)
      .exact⟨h.1,mO l b d⟩
      .exact⟨by simp,mO l b d⟩
     .exact⟨by simp,mO l b d⟩
    .exact⟨h.1,mO l b d⟩
   .exact⟨by simp,trivial⟩
  .simp only[aj]
   have:=mO l (!b) d;cases hd:nw l (!b)with
   |nil=>exact⟨by simp[x9],trivial⟩
   |cons x t=>rw[hd]at this;exact this.1
theorem mO{P:Int}:∀(l:List Cn)(b:Bool),LN P l->LN P (nw l b)
 |[],_,_=>trivial
 |x::t,b,h=>⟨DR x b h.1,mO t b h.2⟩
end
mutual
theorem NT{P:Int}:∀(c:Cn),uo P c->∀d∈(sR c).1,∀a∈d,a.arg<P
 |.mk k a o m v l,h=>by
  unfold sR;cases hk:k==5
  .refine NU k l _ h.2 ?_
   cases k==1
   .cases k==3<;>simp
   .simp
  .intro d b x e
   simp at b;subst b;simp at e;subst e;exact(h.1 (eq_of_beq hk)).2
theorem NU{P:Int}(k:Int):∀(l:List Cn)(f:List (List At)),LN P l->(∀d∈f,∀a∈d,a.arg<P)->∀d∈(MD k l f).1,∀a∈d,a.arg<P
 |[],f,_,g=>g
 |x::t,f,h,g=>by
  unfold MD;cases(sR x).2
  .simp
  .cases(o7 k f (sR x).1).2
   .simp
   .refine NU k t _ h.2 ?_
    have e:=NT x h.1;unfold o7;cases k==3
    .intro d b
     rcases bn.1 b with b|b
     .exact g d b
     .exact e d b
    .exact Df g e
end
def LO(a:At):∀c∈dO a,∀h∈c,h.arg=a.arg:=by
 have f:∀b o,(lV a b o).arg=a.arg:=fun b o=>by unfold lV;cases b<;>rfl
 have g:∀s,∀c∈kF a s,∀h∈c,h.arg=a.arg:=by
  intro s c e h d;simp only[kF,aZ,jm,or_false]at e;rcases e with rfl|rfl<;>simp at d
  .subst d;exact f _ _
  .rcases d with rfl|rfl<;>exact f _ _
 unfold dO;cases !rS a.arg a.op
 .cases a.op==1
  .cases a.op==2
   .cases a.op==6
    .cases a.op==4
     .exact g _
     .exact g _
    .exact g _
   .intro c e h d
    simp at e;rcases e with rfl|rfl<;>simp at d<;>subst d<;>exact f _ _
  .intro c e h d
   simp at e;subst e;simp at d;rcases d with rfl|rfl<;>exact f _ _
 .simp
def LP{P:Int}{c:Cn}(h:uo P c):∀d∈(cv c).1,∀x∈d,x.arg<P:=by
 refine sd c fun d b a f e g x j=>?_
 rw[LO a e g x j];have i:uo P (o6 c):=by
  unfold o6;cases !nv c
  .exact DR c true h
  .exact⟨by simp,trivial⟩
 unfold fm at b;cases hz : !(sR (o6 c)).2<;>rw[hz]at b
 .exact NT _ i d b a f
 .simp at b
def Jx{r:gu}{c:Cl}(h:(cR r c).2=0):(cR r c).1.length=c.params.length:=by
 unfold cR at h⊢;cases h1:decide ((r.params.length:Int)>(c.params.length:Int))<;>rw[h1]at h
 .have:=bI h1
  cases h2:qJ r.params []<;>rw[h2]at h
  .simp;omega
  .simp at h
 .simp at h
def PC{u:fH}{aq:By}{d:List Bd}(t:oe u)(s:PI u)(h:eC u aq = .ok d):∀b∈d,∃c∈lS aq,c.nr=b.nr/\uo c.params.length b.cond:=by
 let Q:cK->Prop:=fun x=>x.bj.length<=2^20/\∀r∈x.bj,r.cond.length<=1
 have q:∀r,Yg r->r.cond.length<=1:=fun r h=>by
  rcases h.cond with e|⟨z,e,-⟩<;>rw[e]<;>simp
 refine(BH (Q:=Q) (P:=fun b=>∃c∈lS aq,c.nr=b.nr/\uo c.params.length b.cond) (n:=2^20) (fun x h=>h) (fun p f x i _=>⟨((t.aA p f).aT x i).rl,fun r a=>q r (((s.aA p f).2 x i).bj r a)⟩) (fun p g=>⟨g.1,fun r a j=>?_⟩) h).1
 obtain⟨c,k,m,l,o⟩:=xn (g.2 r a) j;rw[l];refine⟨c,lx k,rfl,?_⟩;rw[<-Jx m];match hc:r.cond with
 |[]=>exact⟨by simp,trivial⟩
 |e::_=>exact DP _ _ e (o e (by rw[hc];simp))
def blind{e:List Bd}{nr P:Int}(h:∀b∈e,b.nr=nr->uo P b.cond)(aq:By)(a:Act){d d':Da}(l:∀k:Nat,(k:Int)<P->d.arg k=d'.arg k):eu (gU (Z4 d aq nr)) a (me nr e)=eu (gU (Z4 d' aq nr)) a (me nr e):=
 DJ fun s m c g x i=>by
  obtain⟨b,j,rfl⟩:=bh.1 m;obtain⟨n,o⟩:=ed.1 j;have f:=LJ b.cond c g x i;have p:=LP (h b n (eq_of_beq o).symm) c g x i;have q:=f.1;exact⟨f,l x.arg.toNat (by omega)⟩
def B8(nr:Int):List Cl->Int->Int
 |[],p=>p
 |c::t,p=>B8 nr t (bif c.nr==nr then(c.params.length:Int)else p)
def PD:∀aq∈ui,∀c∈lS aq,B8 c.nr (lS aq) 0=c.params.length:=by decide
def Gv{nr:Int}:∀{l:List Cl}{p:Int},0<=p->0<=B8 nr l p
 |[],_,h=>h
 |c::t,p,h=>by
  unfold B8;cases c.nr==nr
  .exact Gv h
  .exact Gv (by simp only[aj];omega)
def NV{nr:Int}:∀{l:List Cl}{p:Int},(∀c∈l,c.params.length<=6)->p<=6->B8 nr l p<=6
 |[],_,_,h=>h
 |c::t,p,a,h=>by
  have:=a c aX;unfold B8;refine NV (fun d b=>a d (aW _ b)) ?_
  cases c.nr==nr
  .exact h
  .simp only[aj];omega
def UD:∀aq∈ui,∀c∈lS aq,c.params.length<=6:=by decide
def vX(X:Da)(k:Nat)(v:Int):Da:=match k with
 |0=>{X with a0:=v}|1=>{X with a1:=v}|2=>{X with a2:=v}|3=>{X with a3:=v}|4=>{X with a4:=v}|_=>{X with a5:=v}
structure Six where
 j0:Int
 j1:Int
 j2:Int
 j3:Int
 j4:Int
 j5:Int
def Six.get(j:Six)(k:Nat):Int:=match k with|0=>j.j0|1=>j.j1|2=>j.j2|3=>j.j3|4=>j.j4|_=>j.j5
def okU(n:Int):Prop:=0<=n/\n<18446744073709551616
def WA{X:Da}(h:Dc X)(k:Nat){v:Int}(l:okU v):Dc (vX X k v):=by
 obtain⟨a,b,c,d,e,f,g,i,j⟩:=h;unfold vX;split<;>exact⟨a,b,c,by assumption,by assumption,by assumption,by assumption,by assumption,by assumption⟩
def WC{X:Da}{k i:Nat}{v:Int}(d:k<6)(c:i<k):(vX X k v).arg i=X.arg i:=by
 have a:k=0\/k=1\/k=2\/k=3\/k=4\/k=5:=by omega
 have b:i=0\/i=1\/i=2\/i=3\/i=4:=by omega
 rcases a with rfl|rfl|rfl|rfl|rfl|rfl<;>rcases b with rfl|rfl|rfl|rfl|rfl<;>first|rfl|(exfalso;omega)
def J4(u:fH)(aq:By)(q:Pm u)(h:qF u aq=true)(nr:Int)(i:Be nr)(d:Da)(o:Dc d)(j:Six)(s:∀k,okU (j.get k))(named:Bool)(P:Nat)
  (n:∀a,eC u aq = .ok a->(∀b∈a,b.nr=nr->uo P b.cond)/\(named=false->∀b∈a,b.nr≠nr)):∀(m p:Nat)(X:Da),p+m=6->P<=p->Dc X->(∀k<P,X.arg k=d.arg k)->
  Wj aq nr (gX (BI u aq)) named p (u.aF.map cT.row) (u.aA.map cL.row) (aI u.main) u.bO.kind u.bO.data d.nr d.aq d.ip d.a0 d.a1 d.a2 d.a3 d.a4 d.a5 j.j0 j.j1 j.j2 j.j3 j.j4 j.j5 X.nr X.aq X.ip X.a0 X.a1 X.a2 X.a3 X.a4 X.a5 [vB true] []
 |0,p,X,r,D,c,g=>by
  obtain⟨a,m,f,-,H⟩:=C11 u aq q h;obtain⟨x,y⟩:=n a f;have e:=blind x aq u.bO (d:=d) (d':=X) fun k v=>(g k (by omega)).symm
  have l:=H X nr c i;rw[<-e]at l;apply ada;refine aU (bV (by omega)) ⟨_,_,H d nr o i,_,_,l,_,_,C13 u.bO,ai ?_ rfl⟩
  cases named with
  |true=>simp
  |false=>
   have w:me nr a=[]:=by
    unfold me;rw[List.filter_eq_nil_iff.2 fun b f z=>y rfl b f (eq_of_beq z).symm];rfl
   rw[w];simp[eu]
 |m+1,p,X,r,D,c,g=>by
  have t:=J4 u aq q h nr i d o j s named P n m (p+1) (vX X p (j.get p)) (by omega) (by omega) (WA c p (s p)) fun k v=>by rw[WC (by omega) (by omega)];exact g k v
  apply ada;refine bt (bE (by omega)) ⟨⟨by omega,by omega⟩,j.get p,?_,⟨by omega,by omega⟩,(vX X p (j.get p)).a0,(vX X p (j.get p)).a1,(vX X p (j.get p)).a2,(vX X p (j.get p)).a3,(vX X p (j.get p)).a4,(vX X p (j.get p)).a5,by omega,?_,aC,?_⟩
  .have:p<6:=by omega
   match p,this with
   |0,_=>rfl
   |1,_=>rfl
   |2,_=>rfl
   |3,_=>rfl
   |4,_=>rfl
   |5,_=>rfl
  .have:p<6:=by omega
   match p,this with
   |0,_=>rfl
   |1,_=>rfl
   |2,_=>rfl
   |3,_=>rfl
   |4,_=>rfl
   |5,_=>rfl
  .have e:(vX X p (j.get p)).nr=X.nr/\(vX X p (j.get p)).aq=X.aq/\(vX X p (j.get p)).ip=X.ip:=by unfold vX;split<;>exact⟨rfl,rfl,rfl⟩
   rw[e.1,e.2.1,e.2.2]at t;exact t
def C4(u:fH)(F:Jc u)(Y:Rng u)(aq:By)(nr:Int)(T:Be nr)(d:Da)(f:Dc d)(ip:Int)(a4:okU ip)(j:Six)(Q:∀k,okU (j.get k)):
  al 4 [qg u,vS aq,vW nr,UJ d,vU ip,.agg [U j.j0,U j.j1,U j.j2,U j.j3,U j.j4,U j.j5]] [] [vB true] []:=by
 apply W4;refine⟨_,C6,aU rfl ⟨_,C8 u F,ad (fun _=>fi) fun M=>?_⟩⟩
 obtain⟨a3,a5⟩:=Br (b :=!Up u) M;have n:=Uq Y (by simpa using a3)
 obtain⟨E,D,w⟩:=C12 u aq n.sm n.rd;cases E with
 |error e=>exact⟨_,_,C10 u aq n,_,_,D,bt (by rw[show(e !=0)=true from w];cases qF u aq<;>rfl) fi⟩
 |ok l=>
  obtain⟨y,a6,w⟩:=w;refine⟨_,_,C10 u aq n,_,_,D,ad (fun _=>fi) fun H=>?_⟩
  have X:qF u aq=true:=by
   cases hq:qF u aq
   .rw[hq]at H;simp at H
   .rfl
  have z0:=Gv (nr:=nr) (l:=lS aq) (p:=0) (by omega)
  have z6:=NV (nr:=nr) (l:=lS aq) (p:=0) (UD aq y) (by omega)
  have zc:=PD aq y;obtain⟨Z,x⟩:∃Z,B8 nr (lS aq) 0=Z:=⟨_,rfl⟩;rw[x]at z0 z6;have R:∀(t:List Cl)(i:Nat)(named:Bool)(p:Int),(lS aq).drop i=t->B8 nr t p=Z->(named=false->∀b∈l,b.nr≠nr)->Uo aq nr ip (gX (BI u aq)) named p ((lS aq).map Cl.row) i (u.aF.map cT.row) (u.aA.map cL.row) (aI u.main) u.bO.kind u.bO.data d.nr d.aq d.ip d.a0 d.a1 d.a2 d.a3 d.a4 d.a5 j.j0 j.j1 j.j2 j.j3 j.j4 j.j5 [vB true] []:=by
   intro t;induction t with
   |nil=>
    intro i named p a m g;unfold B8 at m;subst m;obtain⟨P,rfl⟩:∃P:Nat,p=P:=⟨p.toNat,by omega⟩
    apply ac9;refine aP (l:=lS aq) (by simp) a (J4 u aq n X nr T d f j Q named P (fun I G=>⟨fun b z a0=>?_,fun h b z=>g h b (w I G b z)⟩) (6-P) P {d with ip:=ip} (by omega) (ar _) ⟨f.nr,f.aq,a4,f.a0,f.a1,f.a2,f.a3,f.a4,f.a5⟩ fun k _=>rfl)
    obtain⟨c,K,a2,a1⟩:=PC n.sm n.rd G b z;have:=zc c K;rw[a2,a0,x]at this;rw[this];exact a1
   |cons c t q=>
    intro i named p a m g;obtain⟨s,v,q3⟩:=drop_cons a;have a7:=H2 aq;unfold B8 at m;apply ac9;refine aK (l:=lS aq) (by simp) a ⟨_,_,_,by omega,aQ s,ad (fun o=>⟨_,_,_,by omega,aQ s,aC,?_⟩) fun o=>⟨aC,q (i+1) named p v (by rw[o]at m;exact m) g⟩⟩
    rw[o]at m;have:=q (i+1) named c.params.length v m g;rw[show(aI c.params).length=c.params.length from ao ..]
    exact this
  have A:∀(t:List Bd)(i:Nat)(named:Bool),l.drop i=t->(named=false->∀b∈l.take i,b.nr≠nr)->Pl aq nr ip (gX (BI u aq)) (l.map Bd.row) named i (u.aF.map cT.row) (u.aA.map cL.row) (aI u.main) u.bO.kind u.bO.data d.nr d.aq d.ip d.a0 d.a1 d.a2 d.a3 d.a4 d.a5 j.j0 j.j1 j.j2 j.j3 j.j4 j.j5 [vB true] []:=by
   intro t;induction t with
   |nil=>
    intro i named a g;rw[dH (drop_nil a)]at g;apply ac8;have r:=C7 aq;rw[BM aq y]at r;exact aP (l:=l) (by simp) a ⟨_,r,R (lS aq) 0 named 0 rfl x g⟩
   |cons b t q=>
    intro i named a g;obtain⟨s,v,q3⟩:=drop_cons a;apply ac8;refine aK (l:=l) (by simp) a (ad (fun o=>⟨aC,q (i+1) true v (by simp)⟩) fun o=>⟨_,_,_,_,_,_,_,_,_,by omega,(aQ s).trans (by rw[Bd.cp];rfl),aC,q (i+1) (b.nr==nr) v fun J=>gY s (g o) (by simpa using J)⟩)
  exact A l 0 false rfl (by simp)
def WD{a:World}(m:Nat):bF prog a m 31 fun p=>∃j:Six,(∀k,okU (j.get k))/\p=[U j.j0,U j.j1,U j.j2,U j.j3,U j.j4,U j.j5]:=
 (bF.array (n:=6) underlying31 (fun k _=>Js k) (by kernel_rfl)).mono fun p h=>by
  obtain⟨_,_,rfl,⟨b,i,rfl⟩,_,_,rfl,⟨c,l,rfl⟩,_,_,rfl,⟨d,o,rfl⟩,_,_,rfl,⟨e,q,rfl⟩,_,_,rfl,⟨f,s,rfl⟩,_,_,rfl,⟨g,t,rfl⟩,rfl⟩:=h;exact⟨⟨b,c,d,e,f,g⟩,fun k=>by unfold Six.get;split<;>assumption,rfl⟩
end Go.Ac.S4
end
section
namespace Go.Proofs.YtifcddmbgnmnjaaGreatDoor.vZ
open Go Go.Ac Go.ChangeShapes Go.WideShapes Go.ChangeAt Go.RowKit
set_option maxRecDepth 100000 in
theorem lifted(os:Os)(started:os.Started)(a0:Type)(enc:TypeId×Value->a0):
  ReturnsInHanded {} Tryz.checked os 4 .any (fun w args=>(Rows.topBlindSpec.pre enc Tryz.prog Tryz.f4 Rows.topBlindRow.domain false w args/\laidMetH Tryz.prog xY w)/\sizedMet enc Tryz.prog Tryz.f4 (OpenSpec.ofChange Rows.topBlindSpec) false w args)
   (Rows.topBlindSpec.post enc Tryz.prog Tryz.f4 false true false false):=by
 refine handed (C:=Tryz.checked) (X:=fun w _=>laidMetH Tryz.prog xY w) (fun _ _ _ hh h=>h.of_heap hh) own started (by kernel_rfl) Tryz.func4
  (ChangeSpec.witness_shaped (enc:=enc) (C:=Tryz.checked) (os:=os) (X:=fun w _=>laidMetH Tryz.prog xY w) false (World.laidAll Tryz.prog os xY)
   #[.agg #[.slice none 0 0,.slice none 0 0,.slice none 0 0,.int .i64 0,.int .i64 0],.string ⟨#[]⟩,.int .u32 0,.agg #[.int .u32 0,.int .u32 0,.int .u64 0,.int .u64 0,.int .u64 0,.int .u64 0,.int .u64 0,.int .u64 0,.int .u64 0],.int .u64 0,.agg #[.int .u64 0,.int .u64 0,.int .u64 0,.int .u64 0,.int .u64 0,.int .u64 0]] 8 (World.laidAll_os _ _ _)
   (World.shaped_of_ZipB (by kernel_rfl) (by kernel_rfl)) (by kernel_rfl) (by kernel_rfl) (by kernel_rfl) (alx os _)) ?_
 intro W c1 args J gs before c3 M c2 hL b4;have R:(DataW.weightsEach Tryz.prog (Tryz.f4.params.toList++Rows.topBlindSpec.plain.varTypes Tryz.prog) (J++gs)).all (· <= reachBytes)=true:=c2
 have c:∀(j:Nat)t v,Tryz.f4.params[j]?=some t->args[j]?=some v->Value.okWide Tryz.prog W .any c1 t v:=c3;have a2:=M;obtain⟨p,q,a1,hV,rfl,d6,d7⟩:=M;have K:DataW.TrodAll enc Tryz.prog W 0 (fun _=>true) true Tryz.f4.params.toList args.toList J p:=a1
 rw[Tryz.params4]at K c R;obtain⟨Q,d8,z,c4,p0,q0,e7,rfl,rfl,i,r0⟩:=trodAll_cons K;obtain⟨T,d9,r,c5,p1,q1,rfl,rfl,rfl,k,r1⟩:=trodAll_cons r0;obtain⟨Y,e0,D,c6,p2,q2,rfl,rfl,rfl,l,r2⟩:=trodAll_cons r1;obtain⟨Z,e3,E,c7,p3,q3,rfl,rfl,rfl,o,r3⟩:=trodAll_cons r2;obtain⟨F,e5,G,c8,p4,q4,rfl,rfl,rfl,s,r4⟩:=trodAll_cons r3;obtain⟨A,e6,I,c9,p5,q5,rfl,rfl,rfl,y,r5⟩:=trodAll_cons r4;obtain⟨rfl,rfl,rfl⟩:=trodAll_nil r5;obtain rfl:args = #[Q,T,Y,Z,F,A]:=by cases args;simp_all
 have f:=fun n a=>aV (bf.1 R n a)
 have w0:m8 Tryz.prog 28 z:=iB f 0 28 z rfl rfl;have w1:m8 Tryz.prog 9 r:=iB f 1 9 r rfl rfl;have w2:m8 Tryz.prog 29 D:=iB f 2 29 D rfl rfl;have w3:m8 Tryz.prog 33 E:=iB f 3 33 E rfl rfl;have w4:m8 Tryz.prog 30 G:=iB f 4 30 G rfl rfl;have w5:m8 Tryz.prog 31 I:=iB f 5 31 I rfl rfl;obtain⟨rfl,rfl⟩:=trodVars_none hV;have b5:∀x∈p0,x.block<W.heap.size:=by
  obtain⟨m,H⟩:=i;exact DataW.trod_lt m _ _ _ H
 have b6:∀x∈p1,x.block<W.heap.size:=by
  obtain⟨m,H⟩:=k;exact DataW.trod_lt m _ _ _ H
 have b7:∀x∈p2,x.block<W.heap.size:=by
  obtain⟨m,H⟩:=l;exact DataW.trod_lt m _ _ _ H
 have b8:∀x∈p3,x.block<W.heap.size:=by
  obtain⟨m,H⟩:=o;exact DataW.trod_lt m _ _ _ H
 have b9:∀x∈p4,x.block<W.heap.size:=by
  obtain⟨m,H⟩:=s;exact DataW.trod_lt m _ _ _ H
 have c0:∀x∈p5,x.block<W.heap.size:=by
  obtain⟨m,H⟩:=y;exact DataW.trod_lt m _ _ _ H
 obtain⟨X0,rfl⟩:=Go.Ac.okWide_struct Tryz.underlying28 (c 0 28 Q rfl rfl);obtain⟨X3,rfl⟩:=Go.Ac.okWide_struct Tryz.underlying33 (c 3 33 Z rfl rfl);obtain⟨X5,rfl⟩:=Go.Ac.EO Tryz.underlying31 (c 5 31 A rfl rfl);obtain⟨_,⟨u,hu,hr,rfl⟩,a3⟩:=EN i w0 fun m=>S4.Wt m
 obtain⟨_,b1,a4⟩:=EM k w1 (fun m=>S4.xX m) (Go.Ac.okWide_string Tryz.underlying9 (c 1 9 T rfl rfl)) (fun p g=>by obtain⟨n,a⟩:=g;exact⟨_,a⟩)
 obtain⟨aq,e1⟩:=b1;cases e1;obtain⟨_,b2,a5⟩:=EM l w2 (fun m=>S4.LM m) (Go.Ac.okWide_int Tryz.underlying29 (c 2 29 Y rfl rfl)) (fun p g=>by obtain⟨n,-,a⟩:=g;exact⟨_,a⟩)
 obtain⟨nr,b0,e2⟩:=b2;cases e2;obtain⟨_,⟨d,hd,rfl⟩,a6⟩:=EN o w3 fun m=>S4.Z9 m
 obtain⟨_,b3,a7⟩:=EM s w4 (fun m=>S4.Js m) (Go.Ac.okWide_int Tryz.underlying30 (c 4 30 F rfl rfl)) (fun p g=>by obtain⟨n,-,a⟩:=g;exact⟨_,a⟩)
 obtain⟨ip,a9,e4⟩:=b3;cases e4;obtain⟨_,⟨j,hj,rfl⟩,a8⟩:=EN y w5 fun m=>S4.WD m
 refine(Ow (by kernel_rfl) (by kernel_rfl) (S4.C4 u hu hr aq nr b0 d hd ip a9 j hj) (Wu hL b4) (k8 a3 (k8 a4 (k8 a5 (k8 a6 (k8 a7 (k8 a8 Ox))))))).mono fun e W'⟨he,b⟩=>?_
 subst he;exact⟨_,rfl,_,_,_,[],_,[],a2,trodAll_mk1 (shut_bool Tryz.underlying4 _),(trodAll_cons_mk (Below.trod laidOut (by kernel_rfl) (aV (by kernel_rfl)) i b b5) (trodAll_cons_mk (Below.trod laidOut (by kernel_rfl) (aV (by kernel_rfl)) k b b6) (trodAll_cons_mk (Below.trod laidOut (by kernel_rfl) (aV (by kernel_rfl)) l b b7) (trodAll_cons_mk (Below.trod laidOut (by kernel_rfl) (aV (by kernel_rfl)) o b b8) (trodAll_cons_mk (Below.trod laidOut (by kernel_rfl) (aV (by kernel_rfl)) s b b9) (trodAll_cons_mk (Below.trod laidOut (by kernel_rfl) (aV (by kernel_rfl)) y b c0) trodAll_mk0)))))),rfl,b.frame _,fun h=>by cases h⟩
end Go.Proofs.YtifcddmbgnmnjaaGreatDoor.vZ
end
section
namespace Go.Proofs.YtifcddmbgnmnjaaGreatDoor.vZ
open Go Go.Ac
set_option maxRecDepth 100000
def unf:Tryz.prog.unfollowed 4=true:=by kernel_rfl
def rec:Tryz.prog.recurses 4=true:=by unfold Program.recurses;rw[unf];rfl
def inp:Tryz.prog.inPlace 4=Rows.topBlindRow.inPlace:=by kernel_rfl
def nam:Tryz.prog.varsNamed 4=Rows.topBlindRow.named:=by kernel_rfl
def closed:joinedFacts Tryz.prog 4 Tryz.f4 Rows.topBlindSpec Rows.topBlindRow=true:=by
 unfold joinedFacts;rw[inp,unf,rec,nam];kernel_rfl
def adl:Tryz.prog.funcNamed "tipstaff/tipstafftop.TopBlind" = some 4:=by kernel_rfl
def inst:Tryz.f4.isInstance Tryz.prog Rows.topBlindRow.origin Rows.topBlindRow.targs:=aV (by kernel_rfl)
def wrapper:Tryz.f4.isWrapper Tryz.prog Rows.topBlindRow.wrapper Rows.topBlindRow.mainSum:=by unfold Func.isWrapper;first|(rw[aJ (by decide+kernel)];kernel_rfl)|(rw[aN (by decide+kernel)];exact⟨rfl,rfl⟩)
def proved:Rows.TopBlindSaid:=
 OpenClaim.holds_of_wide 4 Tryz.f4 rfl rfl rfl rfl rfl rfl rfl ⟨rfl,rfl,rfl,rfl,rfl⟩ rfl rfl rfl rfl rfl adl Tryz.func4 closed inst wrapper
  (fun os started H enc _=>lifted os started H enc)
def aad:Rows.topBlindRow.wfByText (OpenSpec.ofChange Rows.topBlindSpec)=true:=by kernel_rfl
def mainIs:Tryz.prog.mainIs=some (true, "1c29be2401b4ea8089541c1e8962e13fa9932ea8ca124efafeb7dd744b117b3b".toList):=by kernel_rfl
def looks:true=Tryz.prog.looks []:=by kernel_rfl
def WE:([28,9,29,33,30,31].all fun u => !Tryz.prog.wantsStandIn u)=true:=by kernel_rfl
def goes:false=Rows.topBlindRow.goesBy Tryz.prog:=by kernel_rfl
end Go.Proofs.YtifcddmbgnmnjaaGreatDoor.vZ
namespace Go.Proofs.YtifcddmbgnmnjaaGreatDoor
open vZ in
theorem topBlind_holds:Rows.TopBlindCardSaid:=
 Claim7.holds_tied_plain_at .later [] [.data,.listed,.data,.pinned] true (true, "1c29be2401b4ea8089541c1e8962e13fa9932ea8ca124efafeb7dd744b117b3b") true
  proved (fun _ h=>by cases h) aad (fun _ h=>by cases h) topBlind_row_tie rfl ⟨rfl,rfl⟩ mainIs rfl
  (fun f fn b d=>by
   obtain rfl:f=4:=ax (adl.symm.trans b) |>.symm;obtain rfl:fn=Tryz.f4:=(ax (Tryz.func4.symm.trans d)).symm;exact⟨looks,fun j t a=>by
    rw[Tryz.params4]at a;have c:t∈[28,9,29,33,30,31]:=by simpa using D5 a
    exact(show Tryz.prog.wantsStandIn t=false by simpa using bf.1 WE t c)⟩)
  goes
end Go.Proofs.YtifcddmbgnmnjaaGreatDoor
end
