/-
Part 4 of the proof: lemmas; no conditions of their own beyond those that they state.
-/
import Derived.Test.YtifcddmbgnmnjaaGreatDoorPkC
set_option linter.all false
set_option autoImplicit true
section
namespace Go.Ac.S4
open Go Go.Proofs Go.Proofs.Tryz Go.Ac
set_option maxRecDepth 100000
def fC(k:Int):Int×Bool:=
 bif k==1 then(2147483648,true)else bif k==2 then(0,true)else bif k==3 then(196608,true)else bif k==4 then(327680,true)else
 bif k==5 then(2146435072,true)else bif k==6 then(2147221504,true)else bif k==7 then(2147418112,true)else(0,false)
def ZU(k:Int):ak 158 [vN k] [] [vW (fC k).1,vB (fC k).2] []:=
 afB k (ae (fun h=>ai (by rw[fC,h];rfl) rfl) fun a=>ae (fun h=>ai (by rw[fC,a,h];rfl) rfl) fun b=>ae (fun h=>ai (by rw[fC,a,b,h];rfl) rfl) fun c=>
  ae (fun h=>ai (by rw[fC,a,b,c,h];rfl) rfl) fun d=>ae (fun h=>ai (by rw[fC,a,b,c,d,h];rfl) rfl) fun e=>ae (fun h=>ai (by rw[fC,a,b,c,d,e,h];rfl) rfl) fun f=>
  ae (fun h=>ai (by rw[fC,a,b,c,d,e,f,h];rfl) rfl) fun h=>ai (by rw[fC,a,b,c,d,e,f,h];rfl) rfl)
def bV(a:Act):Int×Bool:=
 bif(bif(bif !(fC a.kind).2 then true else decide (a.data<0))then true else decide (a.data>(bif(bif(bif(a.kind==3)then true else(a.kind==4))then true else(a.kind==5))then 65535 else 0)))then(0,false)else
 (IntKind.wrap .u32 ((fC a.kind).1+IntKind.wrap .u32 a.data),true)
def TT(a:Act):ak 106 [Bc a] [] [vW (bV a).1,vB (bV a).2] []:=by
 apply afx;exact ae (fun h=>⟨_,_,ZU _,ae (fun b=>ai (by rw[bV,h];simp only[aj]at b⊢; rw[b];rfl) rfl) fun b=>ai (by rw[bV,h];simp only[aj]at b⊢; rw[b];rfl) rfl⟩)
  fun h=>⟨_,_,ZU _,ae (fun b=>ai (by rw[bV,h];simp only[af]at b⊢; rw[b];rfl) rfl) fun b=>ai (by rw[bV,h];simp only[af]at b⊢; rw[b];rfl) rfl⟩
def ZV(a:Act):ak 151 [Bc a] [] [vB (bV a).2] []:=by apply ae7;exact⟨_,_,TT a,fi⟩
mutual
def tf:Ex->Prop|.mk _ o n _ l=>o.length<=2^40/\n.length<=2^40/\l.length<=2^40/\S5 l
def S5:List Ex->Prop|[]=>True|e::l=>tf e/\S5 l
end
def mN(e:Ex):tf e<->e.op.length<=2^40/\e.name.length<=2^40/\e.kids.length<=2^40/\S5 e.kids:=by cases e;exact Iff.rfl
def ft:∀{l:List Ex},S5 l->∀x∈l,tf x
 |[],_,_,h=>by simp at h
 |e::l,a,x,h=>by
  rcases aU.1 h with rfl|h
  .exact a.1
  .exact ft a.2 x h
mutual
theorem uS:∀(e:Ex),tf e->lN e
 |.mk _ _ _ _ l,h=>⟨h.2.2.1,G5 l h.2.2.2⟩
theorem G5:∀(l:List Ex),S5 l->mM l
 |[],_=>trivial
 |e::l,h=>⟨uS e h.1,G5 l h.2⟩
end
def afI:Ex:=.mk 0 [] [] 0 []
def eK(e:Ex):Bool:=bif(bif(bif(e.kind==7)then(e.op==[])else false)then(e.name==[])else false)then((e.kids.length:Int)==0)else false
def dQ(e:Ex):Bool:=bif(bif(e.kind==5)then(bif(e.op==[])then(e.num==0)else false)else false)then((e.kids.length:Int)==0)else false
def ia(e:Ex):Bool:=bif(bif(e.kind==6)then(bif(e.op==[])then(e.num==0)else false)else false)then((e.kids.length:Int)==1)else false
def fD(e:Ex):Bool:=bif(bif(bif(e.kind==3)then(bif(e.op==[])then(e.num==0)else false)else false)then(e.name==[])else false)then((e.kids.length:Int)==1)else false
def ib(e:Ex):Bool:=bif(bif(bif(e.kind==4)then(e.name==[])else false)then(e.num==0)else false)then((e.kids.length:Int)==2)else false
def dH(e:Ex):Bool:=bif(bif(bif(bif(bif(e.kind==1)then true else(e.kind==2))then true else(e.kind==8))then(bif(e.op==[])then(e.num==0)else false)else false)then(e.name==[])else false)then((e.kids.length:Int)==2)else false
def lZ(e:Ex)(i:Nat):Ex:=e.kids.getD i afI
def Yv(e:Ex):List PV:=[N e.kind,S e.op,S e.name,U e.num,L 5 (bw e.kids)]
def jE(e:Ex):Option (TypeId×List PV):=
 bif eK e then some (380,[])else bif dQ e then some (381,[])else bif ia e then some (383,Yv (lZ e 0))else bif fD e then some (384,Yv (lZ e 0))else
 bif ib e then some (331,Yv (lZ e 0)++Yv (lZ e 1))else bif dH e then some (331,Yv (lZ e 0)++Yv (lZ e 1))else none
def cd{b c:Bool}(h:(bif b then c else false)=true):b=true/\c=true:=by cases b<;>cases c<;>simp at h⊢
def ZW{l:List Ex}(h:((l.length:Int)==0)=true):l=[]:=by have:=eq_of_beq h;exact gS.1 (by omega)
def Ov{l:List Ex}(h:((l.length:Int)==1)=true):∃x,l=[x]:=by have:=eq_of_beq h;exact List.length_eq_one_iff.1 (by omega)
def MP{l:List Ex}(h:((l.length:Int)==2)=true):∃x y,l=[x,y]:=by have:=eq_of_beq h;match l,this with|[x,y],_=>exact⟨x,y,rfl⟩
def BW{e:Ex}(h:eK e=true):∃m,e = .mk 7 [] [] m []:=by
 obtain⟨k,o,n,m,l⟩:=e;obtain⟨h,d⟩:=cd h;obtain⟨h,c⟩:=cd h;obtain⟨a,b⟩:=cd h;exact⟨m,by rw[show k=7 from eq_of_beq a,show o=[]from eq_of_beq b,show n=[]from eq_of_beq c,show l=[]from ZW d]⟩
def oG{e:Ex}(h:dQ e=true):∃n,e = .mk 5 [] n 0 []:=by
 obtain⟨k,o,n,m,l⟩:=e;obtain⟨h,d⟩:=cd h;obtain⟨a,h⟩:=cd h;obtain⟨b,c⟩:=cd h;exact⟨n,by rw[show k=5 from eq_of_beq a,show o=[]from eq_of_beq b,show m=0 from eq_of_beq c,show l=[]from ZW d]⟩
def v7{e:Ex}(h:ia e=true):∃n x,e = .mk 6 [] n 0 [x]:=by
 obtain⟨k,o,n,m,l⟩:=e;obtain⟨h,d⟩:=cd h;obtain⟨a,h⟩:=cd h;obtain⟨b,c⟩:=cd h;obtain⟨x,f⟩:=Ov d;exact⟨n,x,by rw[show k=6 from eq_of_beq a,show o=[]from eq_of_beq b,show m=0 from eq_of_beq c,show l=[x]from f]⟩
def v8{e:Ex}(h:fD e=true):∃x,e = .mk 3 [] [] 0 [x]:=by
 obtain⟨k,o,n,m,l⟩:=e;obtain⟨h,d⟩:=cd h;obtain⟨h,f⟩:=cd h;obtain⟨a,h⟩:=cd h;obtain⟨b,c⟩:=cd h;obtain⟨x,g⟩:=Ov d;exact⟨x,by rw[show k=3 from eq_of_beq a,show o=[]from eq_of_beq b,show m=0 from eq_of_beq c,show n=[]from eq_of_beq f,show l=[x]from g]⟩
def sb{e:Ex}(h:ib e=true):∃o x y,e = .mk 4 o [] 0 [x,y]:=by
 obtain⟨k,o,n,m,l⟩:=e;obtain⟨h,c⟩:=cd h;obtain⟨h,d⟩:=cd h;obtain⟨a,b⟩:=cd h;obtain⟨x,y,f⟩:=MP c;exact⟨o,x,y,by rw[show k=4 from eq_of_beq a,show n=[]from eq_of_beq b,show m=0 from eq_of_beq d,show l=[x,y]from f]⟩
def mc{e:Ex}(h:dH e=true):∃k x y,e = .mk k [] [] 0 [x,y]/\(k=1\/k=2\/k=8):=by
 obtain⟨k,o,n,m,l⟩:=e;obtain⟨h,d⟩:=cd h;obtain⟨h,f⟩:=cd h;obtain⟨a,h⟩:=cd h;obtain⟨b,c⟩:=cd h;obtain⟨x,y,g⟩:=MP d;refine⟨k,x,y,by rw[show o=[]from eq_of_beq b,show n=[]from eq_of_beq f,show m=0 from eq_of_beq c,show l=[x,y]from g],?_⟩
 cases ha:k==1
 .cases hb:k==2
  .have:(bif(bif(k==1)then true else(k==2))then true else(k==8))=true:=a
   rw[ha,hb]at this;exact .inr (.inr (eq_of_beq this))
  .exact .inr (.inl (eq_of_beq hb))
 .exact .inl (eq_of_beq ha)
def afJ(e:Ex):ak 268 [oE e] [] [vB (bif(bif(e.kind==1)then true else(e.kind==2))then true else(e.kind==8))] []:=by apply afj;exact fi
def TU(e:Ex):ak 204 [oE e] [] [.wG (jE e)] []:=by
 have j:(bw e.kids).length=e.kids.length:=by rw[db,ao]
 have c:∀{n:Int},((e.kids.length:Int)==n)=true->∀i:Nat,(i:Int)<n->(bw e.kids)[Int.toNat (i:Int)]?=some [N (lZ e i).kind,S (lZ e i).op,S (lZ e i).name,U (lZ e i).num,L 5 (bw (lZ e i).kids)]:=by
  intro n h i k;have h:=eq_of_beq h;have a:i<e.kids.length:=by omega
  rw[db,toNat_cast,bp,bk a,lZ,bS,bk a,<-Ex.cD];rfl
 apply afb;rw[j];refine ae (fun h=>ai (by rw[jE,show eK e=true from h];rfl) rfl) fun b=>ae (fun h=>ai (by rw[jE,show eK e=false from b,show dQ e=true from h];rfl) rfl) fun a=>
  ae (fun h=>⟨_,_,_,_,_,by omega,c (cd h).2 0 (by omega),ai (by rw[jE,show eK e=false from b,show dQ e=false from a,show ia e=true from h];rfl) rfl⟩) fun d=>
  ae (fun h=>⟨_,_,_,_,_,by omega,c (cd h).2 0 (by omega),ai (by rw[jE,show eK e=false from b,show dQ e=false from a,show ia e=false from d,show fD e=true from h];rfl) rfl⟩) fun f=>
  ae (fun h=>⟨_,_,_,_,_,by omega,c (cd h).2 0 (by omega),_,_,_,_,_,by omega,c (cd h).2 1 (by omega),ai (by rw[jE,show eK e=false from b,show dQ e=false from a,show ia e=false from d,show fD e=false from f,show ib e=true from h];rfl) rfl⟩) fun g=>
  ⟨_,afJ e,ae (fun h=>⟨_,_,_,_,_,by omega,c (cd h).2 0 (by omega),_,_,_,_,_,by omega,c (cd h).2 1 (by omega),ai (by rw[jE,show eK e=false from b,show dQ e=false from a,show ia e=false from d,show fD e=false from f,show ib e=false from g,show dH e=true from h];rfl) rfl⟩) fun h=>ai (by rw[jE,show eK e=false from b,show dQ e=false from a,show ia e=false from d,show fD e=false from f,show ib e=false from g,show dH e=false from h];rfl) rfl⟩
def mO(e:Ex)(t:TypeId)(h:((eK e=false\/t≠380)/\(dQ e=false\/t≠381)/\(ia e=false\/t≠383)/\(fD e=false\/t≠384)/\((ib e=false/\dH e=false)\/t≠331))):∀cs,jE e≠some (t,cs):=by
 obtain⟨c,d,f,g,b⟩:=h;intro cs a;unfold jE at a;cases a1:eK e<;>rw[a1]at a c
 .cases a2:dQ e<;>rw[a2]at a d
  .cases a3:ia e<;>rw[a3]at a f
   .cases a4:fD e<;>rw[a4]at a g
    .cases a5:ib e<;>rw[a5]at a b
     .cases a6:dH e<;>rw[a6]at a b
      .simp at a
      .simp at a b;exact b a.1.symm
     .simp at a b;exact b a.1.symm
    .simp at a g;exact g a.1.symm
   .simp at a f;exact f a.1.symm
  .simp at a d;exact d a.1.symm
 .simp at a c;exact c a.1.symm
def eZ(e:Ex):Bool:=bif eK e then true else bif dQ e then bK e.name else false
def XC(e:Ex)(a:tf e):ak 205 [oE e] [] [vB (eZ e)] []:=by
 apply afd;refine⟨_,TU e,?_⟩;cases h:eK e
 .cases h2:dQ e
  .exact .inl ⟨mO e 380 (by simp[h]),.inl ⟨mO e 381 (by simp[h2]),ai (by rw[eZ,h,h2];rfl) rfl⟩⟩
  .exact .inl ⟨mO e 380 (by simp[h]),.inr ⟨by rw[jE,h,h2];rfl,_,zg _ ((mN e).1 a).2.1,ai (by rw[eZ,h,h2];rfl) rfl⟩⟩
 .exact .inr ⟨by rw[jE,h];rfl,ai (by rw[eZ,h];rfl) rfl⟩
def gN:Ex->Bool
 |.mk k o n m [x,y]=>bif k==8 then(bif dH (.mk k o n m [x,y])then(bif eZ y then gN x else false)else false)else false
 |e=>bif e.kind==8 then false else eZ e
def JV{o n:By}{m:Int}{l:List Ex}(h:dH (.mk 8 o n m l)=false):gN (.mk 8 o n m l)=false:=by
 match l with
 |[]=>rfl
 |[_]=>rfl
 |[x,y]=>simp only[gN,h];rfl
 |_::_::_::_=>rfl
def xX{k:Int}{o n:By}{m:Int}{l:List Ex}(h:(k==8)=false):gN (.mk k o n m l)=eZ (.mk k o n m l):=by
 match l with
 |[]=>simp only[gN,Ex.kind,h];rfl
 |[_]=>simp only[gN,Ex.kind,h];rfl
 |[x,y]=>
  simp only[gN,h,af];symm
  unfold eZ;rw[show eK (.mk k o n m [x,y])=false from ?_,show dQ (.mk k o n m [x,y])=false from ?_];rfl
  rotate_left
  .unfold eK;cases(bif(bif(Ex.kind (.mk k o n m [x,y])==7)then(Ex.op (.mk k o n m [x,y])==[])else false)then(Ex.name (.mk k o n m [x,y])==[])else false)<;>rfl
  .unfold dQ;cases(bif(Ex.kind (.mk k o n m [x,y])==5)then(bif(Ex.op (.mk k o n m [x,y])==[])then(Ex.num (.mk k o n m [x,y])==0)else false)else false)<;>rfl
 |_::_::_::_=>simp only[gN,Ex.kind,h];rfl
def ZX:∀(d:Nat)(e:Ex),bJ e<=d->tf e->Lp f145 0 (Et e.kind e.op e.name e.num (bw e.kids)) 0 [vB (gN e)] []
 |0,e,h,_=>by rw[cW]at h;omega
 |d+1,e,h,c=>by
  apply Xw;refine ae (fun b=>⟨_,TU e,?_⟩) fun b=>⟨_,XC e c,ai ?_ rfl⟩
  .cases h2:dH e
   .obtain⟨k,o,n,m,l⟩:=e
    obtain rfl:k=8:=eq_of_beq b;exact .inl ⟨mO _ 331 (by simp[h2];rfl),ai (by rw[JV h2]) rfl⟩
   .obtain⟨k,x,y,rfl,-⟩:=mc h2
    obtain rfl:k=8:=eq_of_beq b;have g:=ft c.2.2.2 x (by simp)
    have i:=ft c.2.2.2 y (by simp)
    refine .inr ⟨_,_,_,_,_,_,_,_,_,_,rfl,_,XC y i,ae (fun a=>ai ?_ rfl) fun a=>?_⟩
    .have a:eZ y=false:=by simpa using a
     simp only[gN,h2,a];rfl
    .have a:eZ y=true:=by simpa using a
     have f:gN (.mk 8 [] [] 0 [x,y])=gN x:=by simp only[gN,h2,a];rfl
     rw[f];exact ZX d x (by simp only[bJ,cp]at h;omega) g
  .obtain⟨k,o,n,m,l⟩:=e
   rw[xX (show(k==8)=false from b)]
def QZ(e:Ex)(a:tf e):ak 145 [oE e] [] [vB (gN e)] []:=by apply ae1;exact ZX _ e (ar _) a
def jF(e:Ex):Bool:=bif dQ e then bK e.name else bif ia e then(bif bK e.name then eZ (lZ e 0)else false)else false
def afK(e:Ex)(c:tf e):ak 331 [oE e] [] [vB (jF e)] []:=by
 apply afp;refine⟨_,TU e,?_⟩;have b:=((mN e).1 c).2.1;cases h:dQ e
 .cases h2:ia e
  .exact .inl ⟨mO e 381 (by simp[h]),.inl ⟨mO e 383 (by simp[h2]),ai (by rw[jF,h,h2];rfl) rfl⟩⟩
  .have d:=mO e 381 (by simp[h])
   obtain⟨n,x,rfl⟩:=v7 h2;have f:=ft c.2.2.2 x (by simp)
   exact .inl ⟨d,.inr ⟨_,_,_,_,_,rfl,_,zg _ b,ae (fun a=>⟨_,XC x f,ai (by rw[jF,h,h2];simp only[aj,af,a];rfl) rfl⟩) fun a=>ai (by rw[jF,h,h2];simp only[aj,af,a]) rfl⟩⟩
 .obtain⟨n,rfl⟩:=oG h
  exact .inr ⟨rfl,_,zg _ b,fi⟩
def cz:Ex->Bool
 |.mk k o n m [x,y]=>bif(bif k==1 then true else k==2)then(bif dH (.mk k o n m [x,y])then(bif cz x then cz y else false)else false)else
  bif k==4 then(bif ib (.mk k o n m [x,y])then(bif ki o ops then(bif jF x then gN y else false)else false)else false)else false
 |.mk k o n m [x]=>bif k==3 then(bif fD (.mk k o n m [x])then cz x else false)else false
 |_=>false
def ZY:∀(d:Nat)(e:Ex),bJ e<=d->tf e->ak 275 [oE e] [] [vB (cz e)] []
 |0,e,h,_=>by rw[cW]at h;omega
 |d+1,e,h,u=>by
  have i:∀x∈e.kids,ak 275 [oE x] [] [vB (cz x)] []:=fun x v=>ZY d x (by have:=ep x v;rw[cW]at h;omega) (ft ((mN e).1 u).2.2.2 x v)
  have z:=(mN e).1 u;obtain⟨k,o,n,m,l⟩:=e;apply afn;refine⟨_,TU _,ae (fun f=>?_) fun f=>ae (fun j=>?_) fun j=>ae (fun p=>?_) fun p=>ae (fun q=>?_) fun q=>ae (fun s=>?_) fun s=>?_⟩
  .refine ai ?_ rfl
   have g:jE (.mk k o n m l)=none:=by simpa using f
   have D:dH (.mk k o n m l)=false:=by
    cases a:dH (.mk k o n m l)
    .rfl
    .obtain⟨w,x,y,b,r⟩:=mc a
     rw[b]at g;rcases r with rfl|rfl|rfl<;>exact absurd g (by rw[show jE _=some _ from rfl];simp)
   have E:ib (.mk k o n m l)=false:=by
    cases a:ib (.mk k o n m l)
    .rfl
    .obtain⟨o',x,y,b⟩:=sb a
     rw[b]at g;exact absurd g (by rw[show jE _=some _ from rfl];simp)
   have G:fD (.mk k o n m l)=false:=by
    cases a:fD (.mk k o n m l)
    .rfl
    .obtain⟨x,b⟩:=v8 a
     rw[b]at g;exact absurd g (by rw[show jE _=some _ from rfl];simp)
   match l with
   |[]=>rfl
   |[x]=>simp only[cz,G];cases k==3<;>rfl
   |[x,y]=>simp only[cz,D,E];cases(bif k==1 then true else k==2)<;>cases k==4<;>rfl
   |_::_::_::_=>rfl
  .obtain rfl:k=1:=eq_of_beq j
   have a:dH (.mk 1 o n m l)=true:=by
    cases a:dH (.mk 1 o n m l)
    .rw[show jE (.mk 1 o n m l)=bif dH (.mk 1 o n m l)then some _ else none from rfl,a]at f;simp at f
    .rfl
   obtain⟨w,x,y,b,-⟩:=mc a;obtain⟨rfl,rfl,rfl,rfl,rfl⟩:=Ex.mk.inj b;exact⟨_,_,_,_,_,_,_,_,_,_,rfl,_,i x (by simp[Ex.kids]),ae (fun c=>⟨_,i y (by simp[Ex.kids]),ai (by simp only[cz,a,c];rfl) rfl⟩) fun c=>ai (by simp only[cz,a,c];rfl) rfl⟩
  .obtain rfl:k=2:=eq_of_beq p
   have a:dH (.mk 2 o n m l)=true:=by
    cases a:dH (.mk 2 o n m l)
    .rw[show jE (.mk 2 o n m l)=bif dH (.mk 2 o n m l)then some _ else none from rfl,a]at f;simp at f
    .rfl
   obtain⟨w,x,y,b,-⟩:=mc a;obtain⟨rfl,rfl,rfl,rfl,rfl⟩:=Ex.mk.inj b;exact⟨_,_,_,_,_,_,_,_,_,_,rfl,_,i x (by simp[Ex.kids]),ae (fun c=>⟨_,i y (by simp[Ex.kids]),ai (by simp only[cz,a,c];rfl) rfl⟩) fun c=>ai (by simp only[cz,a,c];rfl) rfl⟩
  .obtain rfl:k=3:=eq_of_beq q
   have a:fD (.mk 3 o n m l)=true:=by
    cases a:fD (.mk 3 o n m l)
    .rw[show jE (.mk 3 o n m l)=bif fD (.mk 3 o n m l)then some _ else none from rfl,a]at f;simp at f
    .rfl
   obtain⟨x,b⟩:=v8 a;obtain⟨-,rfl,rfl,rfl,rfl⟩:=Ex.mk.inj b;exact⟨_,_,_,_,_,rfl,_,i x (by simp[Ex.kids]),ai (by simp only[cz,a];rfl) rfl⟩
  .obtain rfl:k=4:=eq_of_beq s
   have a:ib (.mk 4 o n m l)=true:=by
    cases a:ib (.mk 4 o n m l)
    .rw[show jE (.mk 4 o n m l)=bif ib (.mk 4 o n m l)then some _ else none from rfl,a]at f;simp at f
    .rfl
   obtain⟨o',x,y,b⟩:=sb a;obtain⟨-,rfl,rfl,rfl,rfl⟩:=Ex.mk.inj b;exact⟨_,_,_,_,_,_,_,_,_,_,rfl,_,TO o ops (by decide),ae (fun c=>⟨_,afK x (ft z.2.2.2 x (by simp[Ex.kids])),ae (fun t=>⟨_,QZ y (ft z.2.2.2 y (by simp[Ex.kids])),ai (by simp only[cz,a,c,t];rfl) rfl⟩) fun t=>ai (by simp only[cz,a,c,t];rfl) rfl⟩) fun c=>ai (by simp only[cz,a,c];rfl) rfl⟩
  .simp only[Ex.kind]at j p q s
   refine ai ?_ rfl;match l with
   |[]=>rfl
   |[x]=>simp only[cz,q];rfl
   |[x,y]=>simp only[cz,j,p,s];rfl
   |_::_::_::_=>rfl
def pL{α:Type}{p:α->Bool}(l:List α):(!decide (idx (fun x => !p x) l>=0))=l.all p:=by
 rw[nz];induction l with
 |nil=>rfl
 |cons x l a=>simp only[iP,bE,Bool.not_or,Bool.not_not,a]
abbrev ZZ(d:dT):AV:=.agg [S d.name,N d.ex.kind,S d.ex.op,S d.ex.name,U d.ex.num,L 5 (bw d.ex.kids)]
abbrev JW(p:dP):AV:=.agg [S p.name,L 4 (p.aV.map dr.row)]
def afL{p:dT->Bool}(l:List dT)(d:l.length<=2^40)(h:∀x∈l,ak 143 [ZZ x] [] [vB (p x)] []):ak 142 [vL 6 (l.map dT.row),.fn (.func 143) [] []] [] [vB (l.all p)] []:=by
 apply Ql;refine⟨_,O2 _ ⟨_,Ph _ ?_,fi⟩,ai (by rw[pL]) rfl⟩
 exact ew (Hd:=fun i=>ph _ _ i) (p:=fun x => !p x) d fun i r e b c=>Jp _ _ _ (eA (l:=l) (by simp[aR]) (fun x a=>⟨x.name,x.ex.kind,x.ex.op,x.ex.name,x.ex.num,bw x.ex.kids,by omega,(aY a).trans (by rw[dT.row,Ex.cD]),_,by apply Qu;exact⟨_,h x (aK a),fi⟩,b x a⟩) c)
def afM{p:dP->Bool}(l:List dP)(d:l.length<=2^40)(h:∀x∈l,ak 147 [JW x] [] [vB (p x)] []):ak 146 [vL 2 (l.map dP.row),.fn (.func 147) [] []] [] [vB (l.all p)] []:=by
 apply Qn;refine⟨_,O4 _ ⟨_,Pj _ ?_,fi⟩,ai (by rw[pL]) rfl⟩
 exact ew (Hd:=fun i=>pj _ _ i) (p:=fun x => !p x) d fun i r e b c=>Jq _ _ _ (eA (l:=l) (by simp[aR]) (fun x a=>⟨x.name,x.aV.map dr.row,by omega,aY a,_,by apply Qw;exact⟨_,h x (aK a),fi⟩,b x a⟩) c)
def afN{p:dr->Bool}(l:List dr)(d:l.length<=2^40)(h:∀x∈l,ak 149 [Nl x] [] [vB (p x)] []):ak 148 [vL 4 (l.map dr.row),.fn (.func 149) [] []] [] [vB (l.all p)] []:=by
 apply Qp;refine⟨_,O6 _ ⟨_,Pk _ ?_,fi⟩,ai (by rw[pL]) rfl⟩
 exact ew (Hd:=fun i=>pn _ _ i) (p:=fun x => !p x) d fun i r e b c=>Jr _ _ _ (eA (l:=l) (by simp[aR]) (fun x a=>⟨x.use,x.act.kind,x.act.data,x.bj.map gC.row,by omega,aY a,_,by apply Qy;exact⟨_,h x (aK a),fi⟩,b x a⟩) c)
def Z0{p:By->Bool}(l:List By)(d:l.length<=2^40)(h:∀x∈l,ak 144 [vS x] [] [vB (p x)] []):ak 150 [vL 1 (aR l),.fn (.func 144) [] []] [] [vB (l.all p)] []:=by
 apply Qr;refine⟨_,O8 _ ⟨_,Pn _ ?_,fi⟩,ai (by rw[pL]) rfl⟩
 exact ew (Hd:=fun i=>po _ _ i) (p:=fun x => !p x) d fun i r e b c=>Js _ _ _ (eA (l:=l) (by simp[aR]) (fun x a=>⟨x,by omega,aY a,_,by apply QC;exact⟨_,h x (aK a),fi⟩,b x a⟩) c)
def afO{p:gC->Bool}(l:List gC)(d:l.length<=2^40)(h:∀x∈l,ak 211 [qX x] [] [vB (p x)] []):ak 210 [vL 3 (l.map gC.row),.fn (.func 211) [] []] [] [vB (l.all p)] []:=by
 apply QA;refine⟨_,Pm _ ⟨_,PG _ ?_,fi⟩,ai (by rw[pL]) rfl⟩
 exact ew (Hd:=fun i=>px _ _ i) (p:=fun x => !p x) d fun i r e b c=>JA _ _ _ (eA (l:=l) (by simp[aR]) (fun x a=>⟨x.call,aR x.params,x.cond.map Ex.row,by omega,aY a,_,by apply QG;exact⟨_,h x (aK a),fi⟩,b x a⟩) c)
def afP{p:Ex->Bool}(l:List Ex)(d:l.length<=2^40)(h:∀x∈l,ak 274 [oE x] [] [vB (p x)] []):ak 273 [vL 5 (l.map Ex.row),.fn (.func 274) [] []] [] [vB (l.all p)] []:=by
 apply QI;refine⟨_,PI _ ⟨_,PO _ ?_,fi⟩,ai (by rw[pL]) rfl⟩
 exact ew (Hd:=fun i=>pA _ _ i) (p:=fun x => !p x) d fun i r e b c=>JD _ _ _ (eA (l:=l) (by simp[aR]) (fun x a=>⟨x.kind,x.op,x.name,x.num,bw x.kids,by omega,(aY a).trans (by rw[Ex.cD]),_,by apply QK;exact⟨_,h x (aK a),fi⟩,b x a⟩) c)
structure BX (r:gC):Prop where
 call:r.call.length<=2^40
 pl:r.params.length<=2^39
 params:∀p∈r.params,p.length<=2^40
 cl:r.cond.length<=2^40
 cond:∀e∈r.cond,tf e/\bJ e<=2^40
structure wS (p:dr):Prop where
 use:p.use.length<=2^40
 rl:p.bj.length<=2^20
 bj:∀r∈p.bj,BX r
structure Vo (p:dP):Prop where
 name:p.name.length<=2^40
 pl:p.aV.length<=2^40
 aV:∀x∈p.aV,wS x
structure q8 (u:eW):Prop where
 dl:u.aG.length<=2^40
 aG:∀d∈u.aG,d.name.length<=2^40/\tf d.ex
 pl:u.aD.length<=2^40
 aD:∀p∈u.aD,Vo p
 ml:u.main.length<=2^40
 main:∀s∈u.main,s.length<=2^40
def Be(d:dT):Bool:=bif bK d.name then gN d.ex else false
def wT(e:Ex):Bool:=bif cz e then decide ((bJ e:Int)<=30)else false
def ln(r:gC):Bool:=bif bK r.call then(bif(bif !(r.params.all bK)then true else decide ((r.cond.length:Int)>1))then false else r.cond.all wT)else false
def kq(p:dr):Bool:=bif !(p.use==[])then(bif bK p.use then(bif((true&&(p.act.kind==0))&&(p.act.data==0))then((p.bj.length:Int)==0)else false)else false)else
 (bif(bV p.act).2 then p.bj.all ln else false)
def xo(p:dP):Bool:=bif bK p.name then p.aV.all kq else false
def iK(u:eW):Bool:=bif u.aG.all Be then(bif(bif u.aD.all xo then decide ((u.main.length:Int)>0)else false)then(bif u.main.all bK then(bV u.bZ).2 else false)else false)else false
def afQ(d:dT)(a:d.name.length<=2^40)(b:tf d.ex):ak 143 [ZZ d] [] [vB (Be d)] []:=by
 apply aeY;exact⟨_,zg _ a,ae (fun h=>⟨_,QZ _ b,ai (by rw[Be,h];rfl) rfl⟩) fun h=>ai (by rw[Be,h];rfl) rfl⟩
def afR(e:Ex)(a:tf e)(b:bJ e<=2^40):ak 274 [oE e] [] [vB (wT e)] []:=by
 apply afl;exact⟨_,ZY _ e (ar _) a,ae (fun h=>⟨_,QO _ e (ar _) (by omega) (uS e a),ai (by rw[wT,h];rfl) rfl⟩) fun h=>ai (by rw[wT,h];rfl) rfl⟩
def afS(r:gC)(h:BX r):ak 211 [qX r] [] [vB (ln r)] []:=by
 have d:(r.cond.map Ex.row).length=r.cond.length:=ao ..;apply aff;rw[d];exact⟨_,zg _ h.call,ae (fun a=>bF rfl (ai (by rw[ln,show bK r.call=false by simpa using a];rfl) rfl)) fun a=>⟨_,Z0 _ (dF h.pl (by omega)) fun p f=>zg p (h.params p f),ae
  (fun b=>ai (by rw[ln,show bK r.call=true by simpa using a,b];rfl) rfl) fun b=>⟨_,afP _ h.cl fun e c=>afR e (h.cond e c).1 (h.cond e c).2,ai (by rw[ln,show bK r.call=true by simpa using a,b];rfl) rfl⟩⟩⟩
def afT(p:dr)(h:wS p):ak 149 [Nl p] [] [vB (kq p)] []:=by
 have c:(p.bj.map gC.row).length=p.bj.length:=ao ..;apply ae5;rw[c];exact ae (fun b=>⟨_,zg _ h.use,ae (fun a=>ai (by rw[kq,b,a];rfl) rfl) fun a=>ai (by rw[kq,b,a];rfl) rfl⟩) fun b=>⟨_,ZV p.act,ae (fun a=>⟨_,afO _ (dF h.rl (by omega)) fun r d=>afS r (h.bj r d),ai (by rw[kq,b,a];rfl) rfl⟩) fun a=>ai (by rw[kq,b,a];rfl) rfl⟩
def afU(p:dP)(h:Vo p):ak 147 [JW p] [] [vB (xo p)] []:=by
 apply ae3;exact⟨_,zg _ h.name,ae (fun a=>⟨_,afN _ h.pl fun x b=>afT x (h.aV x b),ai (by rw[xo,a];rfl) rfl⟩) fun a=>ai (by rw[xo,a];rfl) rfl⟩
def afV(u:eW)(h:q8 u):ak 102 [sC u] [] [vB (iK u)] []:=by
 have f:(aR u.main).length=u.main.length:=ao ..;apply aeW;rw[f];exact⟨_,afL _ h.dl fun d e=>afQ d (h.aG d e).1 (h.aG d e).2,ae (fun a=>⟨_,afM _ h.pl fun p g=>afU p (h.aD p g),ae (fun b=>⟨_,Z0 _ h.ml fun s i=>zg s (h.main s i),ae (fun c=>⟨_,ZV u.bZ,ai (by rw[iK,a,b,c];rfl) rfl⟩) fun c=>ai (by rw[iK,a,b,c];rfl) rfl⟩) fun b=>ai (by rw[iK,a,b];rfl) rfl⟩)
  fun a=>aW rfl (ai (by rw[iK,a];rfl) rfl)⟩
def Lq(l:List Ex)(o:l.length<=2^40)(m:∀x∈l,ak 218 [vL 5 (bw x.kids)] [] [vL 5 (bw x.kids)] []):ak 218 [vL 5 (bw l)] [] [vL 5 (bw l)] []:=by
 have key:∀(t:List Ex)(i:Nat)(a:List Ex),l.drop i=t->a=l.take i->Lp f218 0 (Eu (bw a) (bw l) l.length i) 0 [.own 0 0 5 (bw l)] []:=by
  intro t;induction t with
  |nil=>
   intro i a b c;have:=drop_nil b;rw[eU this]at c;rw[c];exact QD _ _ _ _ (aT (l:=l) rfl b fi)
  |cons x t k=>
   intro i a b c;obtain⟨d,g,n⟩:=drop_cons b;have j:=aK d;have e:bw a++([[N x.kind,S x.op,S x.name,U x.num,L 5 (bw x.kids)]]:Rw)=bw (a++[x]):=by
    rw[db a,db (a++[x]),cg,<-Ex.cD];rfl
   have p:a.length<=i:=by rw[c];simp;omega
   have f:a++[x]=l.take (i+1):=by rw[c,hL,d];rfl
   refine QD _ _ _ _ (aO (l:=l) rfl b ⟨x.kind,x.op,x.name,x.num,bw x.kids,by omega,?_,bw x.kids,?_,?_,aB,?_⟩)
   .rw[db,<-Ex.cD];exact aY d
   .exact m x j
   .rw[e,db];simp;omega
   .rw[e]
    exact k (i+1) (a++[x]) g f
 refine Go.Ac.ak.soft (r:=[.own 0 0 5 _]) ?_ rfl;apply afg;rw[show(bw l).length=l.length by rw[db,ao]]
 exact key l 0 [] rfl rfl
def Z1:∀(d:Nat)(l:List Ex),cp l<=d->mM l->l.length<=2^40->ak 218 [vL 5 (bw l)] [] [vL 5 (bw l)] []
 |0,l,h,_,b=>Lq l b fun x a=>by have:=ep x a;rw[cW]at this;omega
 |d+1,l,h,e,b=>Lq l b fun x a=>by
  have c:=(zm x).1 (sa e x a);have:=ep x a;rw[cW]at this;exact Z1 d x.kids (by omega) c.2 c.1
def EA(a b:Rw)(c d:Int)(e:List (PV×AV)):St:=⟨aM 52 [(5,.mp 0),(6,.own 0 0 1 a),(13,vL 6 b),(14,vN c),(15,vN d)],[some 0],[.map 266 e]⟩
def Z2:bq:={an:=[(5,2,ah)],cut:=[(4,{bl:=[5,6,13,14,15],dw:=[(6,1)],owns:=[6]})]}
def afW(a:Rw){r h}(H:Lp f103 0 (EA [] a (a.length:Int) 0 []) 0 r h):
  ak 103 [vL 6 a] [] r h:=.of func103 Z2 H
def Q0(c f:Rw)(g b:Int)(a:List (PV×AV)){r h}(H:ay (decide (b<g)) (gI f b fun i j k l m n=>((cA a (S i)=none/\∃d e,ak 152 [.mp 0,.agg [N j,S k,S l,U m,L 5 n]] [.map 266 a] [.agg [U d,N e]] [.map 266 a]/\ay (e !=0) (Fi r h [vL 1 [],vN b,vN e] [])
 ((c++([[U d]]:Rw)).length*8<=2^47/\bh .i64 (b+1)/\Lp f103 0 (EA (c++([[U d]]:Rw)) f g (b+1) (cn a (S i) (.agg [U d,N e]))) 0 r h))\/(∃o p,cA a (S i)=some (.agg [U o,N p])/\∃q s,ak 152 [.mp 0,.agg [N j,S k,S l,U m,L 5 n]] [.map 266 a] [.agg [U q,N s]] [.map 266 a]/\Fi r h [vL 1 [],vN b,vN 8] [])))
 (Fi r h [.own 0 0 1 c,vN (-1),vN 0] [])):
  Lp f103 0 (EA c f g b a) 0 r h:=.of Z2 H
def afX:bq:={an:=[(1,1,ah)]}
def afY(a:List (PV×AV))(b:Int)(c d:By)(e:Int)(f:Rw){r h}(H:∃g,ak 145 [.agg [N b,S c,S d,U e,L 5 f]] [] [vB g] []/\ay (!g) (Fi r h [.agg [U 0,N 1]] [.map 266 a])
 (∃i j,ak 214 [.mp 0,.agg [N b,S c,S d,U e,L 5 f]] [.map 266 a] [.agg [U i,N j]] [.map 266 a]/\Fi r h [.agg [U i,N j]] [.map 266 a])):
  ak 152 [.mp 0,.agg [N b,S c,S d,U e,L 5 f]] [.map 266 a] r h:=.of func152 afX H
def afZ:bq:={an:=[(5,4,ah),(8,4,ah)]}
def af0(a:List (PV×AV))(b:Int)(m c:By)(j:Int)(d:Rw){r h}(H:ay (b==7) (Fi r h [.agg [U j,N 0]] [.map 266 a])
 (ay (b==8) (bu d 0 fun n o p q s=>∃e f,ak 214 [.mp 0,.agg [N n,S o,S p,U q,L 5 s]] [.map 266 a] [.agg [U e,N f]] [.map 266 a]/\ay (f !=0) (Fi r h [.agg [U e,N f]] [.map 266 a])
 (bu d 1 fun t u v w x=>∃g i,ak 214 [.mp 0,.agg [N t,S u,S v,U w,L 5 x]] [.map 266 a] [.agg [U g,N i]] [.map 266 a]/\ay (i !=0) (Fi r h [.agg [U g,N i]] [.map 266 a])
 (Fi r h [.agg [U (cF .or .u64 e g),N 0]] [.map 266 a])))
 (((cA a (S c)=none/\Fi r h [.agg [U 0,N 7]] [.map 266 a])\/(∃k l,cA a (S c)=some (.agg [U k,N l])/\Fi r h [.agg [U k,N l]] [.map 266 a]))))):
  ak 214 [.mp 0,.agg [N b,S m,S c,U j,L 5 d]] [.map 266 a] r h:=.of func214 afZ H
def af1:bq:={an:=[(1,1,fg),(1,2,fy),(1,3,fg),(1,5,iG)]}
def af2(b:Rw)(c:Int)(d e:By)(f:Int)(g:Rw){r h}(H:∃a,ak 334 [vL 6 b] [] [.mp 0] [.map 266 a]/\∃i j,ak 152 [.mp 0,.agg [N c,S d,S e,U f,L 5 g]] [.map 266 a] [.agg [U i,N j]] [.map 266 a]/\Fi r h [vU i,vN j] []):
  ak 281 [vL 6 b,.agg [N c,S d,S e,U f,L 5 g]] [] r h:=.of func281 af1 H
def zs(a:Rw)(b c:Int)(d:List (PV×AV)):St:=⟨aM 33 [(3,.mp 0),(9,vL 6 a),(10,vN b),(11,vN c)],[],[.map 266 d]⟩
def Z3:bq:={an:=[(4,1,ah),(7,2,fg),(7,5,fg),(7,6,fy),(7,7,fy)],cut:=[(3,{bl:=[3,9,10,11]})]}
def af3(a:Rw){r h}(H:Lp f334 0 (zs a (a.length:Int) 0 []) 0 r h):
  ak 334 [vL 6 a] [] r h:=.of func334 Z3 H
def Q1(c:Rw)(d b:Int)(a:List (PV×AV)){r h}(H:ay (decide (b<d)) (gI c b fun e k l m n o=>((cA a (S e)=none/\∃f g,ak 152 [.mp 0,.agg [N k,S l,S m,U n,L 5 o]] [.map 266 a] [.agg [U f,N g]] [.map 266 a]/\bh .i64 (b+1)/\Lp f334 0 (zs c d (b+1) (cn a (S e) (.agg [U f,N g]))) 0 r h)\/(∃i j,cA a (S e)=some (.agg [U i,N j])/\bh .i64 (b+1)/\Lp f334 0 (zs c d (b+1) a) 0 r h)))
 (Fi r h [.mp 0] [.map 266 a])):
  Lp f334 0 (zs c d b a) 0 r h:=.of Z3 H
def dg(a:By):Int×Bool:=
 bif a==[97,97,114,99,104,54,52]then(3221225655,true)else bif a==[105,51,56,54]then(1073741827,true)else bif a==[120,56,54,95,54,52]then(3221225534,true)else(0,false)
def C81(a:By):ak 81 [vS a] [] [vW (dg a).1,vB (dg a).2] []:=
 W81 a (ae (fun h=>ai (by rw[dg,h];rfl) rfl) fun b=>ae (fun h=>ai (by rw[dg,b,h];rfl) rfl) fun c=>ae (fun h=>ai (by rw[dg,b,c,h];rfl) rfl) fun h=>ai (by rw[dg,b,c,h];rfl) rfl)
def mP:List By:=[[97,97,114,99,104,54,52],[105,51,56,54],[120,56,54,95,54,52]]
def Z4:ak 277 [] [] [vL 1 (aR mP)] []:=afF fi
structure Row where
 name:By
 params:By
 n0:Int
 n1:Int
 n2:Int
def Row.row(r:Row):List PV:=[S r.name,S r.params,N r.n0,N r.n1,N r.n2]
def Row.nr(r:Row)(i:Nat):Int:=match i with|0=>r.n0|1=>r.n1|_=>r.n2
def lp:List Row:=[
 ⟨[98,114,107],[97,100,100,114],214,45,12⟩,
 ⟨[99,108,111,115,101],[102,100],57,6,3⟩,
 ⟨[100,117,112],[102,100],23,41,32⟩,
 ⟨[101,120,105,116],[99,111,100,101],93,1,60⟩,
 ⟨[101,120,105,116,95,103,114,111,117,112],[99,111,100,101],94,252,231⟩,
 ⟨[103,101,116,112,105,100],[],172,20,39⟩,
 ⟨[105,111,99,116,108],[102,100,32,114,101,113,117,101,115,116,32,97,114,103],29,54,16⟩,
 ⟨[107,105,108,108],[112,105,100,32,115,105,103],129,37,62⟩,
 ⟨[109,109,97,112],[97,100,100,114,32,108,101,110,32,112,114,111,116,32,102,108,97,103,115,32,102,100,32,111,102,102],222,90,9⟩,
 ⟨[109,112,114,111,116,101,99,116],[97,100,100,114,32,108,101,110,32,112,114,111,116],226,125,10⟩,
 ⟨[109,117,110,109,97,112],[97,100,100,114,32,108,101,110],215,91,11⟩,
 ⟨[111,112,101,110],[112,97,116,104,32,102,108,97,103,115,32,109,111,100,101],-1,5,2⟩,
 ⟨[111,112,101,110,97,116],[100,105,114,32,112,97,116,104,32,102,108,97,103,115,32,109,111,100,101],56,295,257⟩,
 ⟨[112,114,99,116,108],[111,112,116,105,111,110,32,97,32,98,32,99,32,100],167,172,157⟩,
 ⟨[114,101,97,100],[102,100,32,98,117,102,32,99,111,117,110,116],63,3,0⟩,
 ⟨[115,111,99,107,101,116],[102,97,109,105,108,121,32,116,121,112,101,32,112,114,111,116,111,99,111,108],198,359,41⟩,
 ⟨[119,114,105,116,101],[102,100,32,98,117,102,32,99,111,117,110,116],64,4,1⟩]
def af4:ak 278 [] [] [vL 5 (lp.map Row.row)] []:=afH fi
structure Cl where
 name:By
 nr:Int
 params:List By
def Cl.row(c:Cl):List PV:=[S c.name,W c.nr,L 1 (aR c.params)]
abbrev Z5(c:Cl):AV:=.agg [S c.name,W c.nr,L 1 (aR c.params)]
def jZ(i:Nat):List Row->List Cl
 |[]=>[]
 |r::t=>bif r.nr i != -1 then⟨r.name,IntKind.wrap .u32 (r.nr i),je r.params⟩::jZ i t else jZ i t
def ra(aq:By):List Cl:=bif decide (idx (aq == ·) mP<0)then[]else jZ (idx (aq == ·) mP).toNat lp
def JX{α:Type}{p:α->Bool}:∀(l:List α),idx p l<l.length
 |[]=>by simp[idx]
 |x::l=>by
  have:=JX (p:=p) l;unfold idx;simp only[aC];cases p x<;>simp only[aj,af]
  .cases decide (idx p l<0)<;>simp only[aj,af]<;>omega
  .omega
def EB:∀r∈lp,r.params.all (fun c=>c==32||(97<=c&&c<=122))=true/\r.params.length<=2^31:=by decide
def af5(aq:By):ak 219 [vS aq] [] [vL 3 ((ra aq).map Cl.row)] []:=by
 have key:∀(j:Nat),j<3->∀(t:List Row)(i:Nat)(a:List Cl),lp.drop i=t->a.length<=i->Lp f219 0 (zr (j:Int) (a.map Cl.row) (lp.map Row.row) (lp.map Row.row).length i) 0 [.own 0 0 3 ((a++jZ j t).map Cl.row)] []:=by
  intro j k t;induction t with
  |nil=>
   intro i a b _;exact QY _ _ _ _ _ (aT (l:=lp) (by simp) b (ai (by simp[jZ]) rfl))
  |cons x t f=>
   intro i a b o;obtain⟨c,d,g⟩:=drop_cons b;have e:=EB x (aK c);have m:lp.length=17:=rfl;refine QY _ _ _ _ _ (aO (l:=lp) (by simp) b ⟨x.name,x.params,x.n0,x.n1,x.n2,by omega,aY c,⟨by omega,by omega⟩,x.nr j,?_,ae (fun h=>⟨_,acn _ e.1 e.2,by simp;omega,aB,?_⟩) fun h=>⟨aB,?_⟩⟩)
   .match j,k with
    |0,_=>rfl
    |1,_=>rfl
    |2,_=>rfl
   .have:=f (i+1) (a++[⟨x.name,IntKind.wrap .u32 (x.nr j),je x.params⟩]) d (by simp;omega)
    rw[jZ,h];rw[bn]at this;rw[cg (l₁:=a) (l₂:=[_])]at this;exact this
   .rw[jZ,h]
    exact f (i+1) a d (by omega)
 have q:=JX (p:=(aq == ·)) mP
 have g:mP.length=3:=rfl;cases h:decide (idx (aq == ·) mP<0)
 .refine Go.Ac.ak.soft (r:=[.own 0 0 3 _]) ?_ rfl
  have n:=bH h;refine ZT aq ⟨_,Z4,_,P8 aq mP (by decide),aW h ⟨_,af4,?_⟩⟩
  have:=key (idx (aq == ·) mP).toNat (by omega) lp 0 [] rfl (by simp)
  rw[show(((idx (aq == ·) mP).toNat:Nat):Int)=idx (aq == ·) mP by omega]at this
  rw[ra,h];exact this
 .exact ZT aq ⟨_,Z4,_,P8 aq mP (by decide),bF h (ai (by rw[ra,h];rfl) rfl)⟩
def fa(aq name:By):Option Cl:=(ra aq).find? fun c=>c.name==name
def Q2(aq:By):(ra aq).length<=17:=by
 have:∀j l,(jZ j l).length<=l.length:=by
  intro j l;induction l with
  |nil=>simp[jZ]
  |cons r l a=>unfold jZ;cases r.nr j != -1<;>simp only[aj,af,aC]<;>omega
 unfold ra;cases decide (idx (aq == ·) mP<0)
 .exact this _ lp
 .simp
def af6(aq name:By):ak 155 [vS aq,vS name] [] [Z5 ((fa aq name).getD ⟨[],0,[]⟩),vB (fa aq name).isSome] []:=by
 have g:=Q2 aq;refine afz _ _ ⟨_,af5 aq,_,O9 _ _ (ew (p:=fun c=>c.name==name) (l:=ra aq) (Hd:=fun i=>pf _ _ i name) (by omega) fun i r h b d=>Jn _ _ _ _ (eA (l:=ra aq) (by simp) (fun x a=>⟨x.name,x.nr,aR x.params,by omega,aY a,_,afD _ _ _ _ fi,b x a⟩) d)),ae (fun h=>?_) fun h=>?_⟩
 .exact ai (by rw[fa,yR (aN h)];rfl) rfl
 .have h:=bH h
  obtain⟨x,e,-,f⟩:=uD (p:=fun c=>c.name==name) (l:=ra aq) (by omega)
  exact⟨x.name,x.nr,aR x.params,by omega,by rw[bp,e];rfl,ai (by rw[fa,f];rfl) rfl⟩
def mp{α:Type}(key:α->By)(f:α->AV)(l:List α):List (PV×AV):=l.map fun x=>(S (key x),f x)
def fW{α:Type}(key:α->By)(l:List α)(k:By):Option α:=l.find? fun x=>k==key x
def lq{α:Type}(key:α->By)(x:α):List α->List α
 |[]=>[x]
 |y::l=>bif key x==key y then x::l else y::lq key x l
def G6{α:Type}(key:α->By)(k:By):List α->List α
 |[]=>[]
 |y::l=>bif k==key y then l else y::G6 key k l
def JY(a b:By):lz (S a) (S b)=(a==b):=rfl
def ju{α:Type}(key:α->By)(f:α->AV)(k:By):∀(l:List α),cA (mp key f l) (S k)=(fW key l k).map f
 |[]=>rfl
 |x::l=>by
  have a:=ju key f k l;unfold mp fW at a⊢;rw[bB,cA,JY,cx];cases k==key x
  .exact a
  .rfl
def wa{α:Type}(key:α->By)(f:α->AV)(x:α):∀(l:List α),cn (mp key f l) (S (key x)) (f x)=mp key f (lq key x l)
 |[]=>rfl
 |y::l=>by
  have a:=wa key f x l;unfold mp at a⊢;rw[bB,cn,JY,lq];cases key x==key y
  .rw[aI (by decide),a];rfl
  .rfl
def Q3{α:Type}(key:α->By)(f:α->AV)(k:By):∀(l:List α),kx (mp key f l) (S k)=mp key f (G6 key k l)
 |[]=>rfl
 |y::l=>by
  have a:=Q3 key f k l;unfold mp at a⊢;rw[bB,kx,JY,G6];cases k==key y
  .rw[aI (by decide),a];rfl
  .rfl
abbrev Kn:=By×Int×Int
abbrev Vp(m:List Kn):List (PV×AV):=mp (·.1) (fun p=>.agg [U p.2.1,N p.2.2]) m
def gl(m:List Kn):Ex->Int×Int
 |.mk k _ n v (x::y::_)=>bif k==7 then(v,0)else bif k==8 then
   (bif(gl m x).2 !=0 then gl m x else bif(gl m y).2 !=0 then gl m y else(cF .or .u64 (gl m x).1 (gl m y).1,0))else
   ((fW (·.1) m n).map (·.2)).getD (0,7)
 |.mk k _ n v _=>bif k==7 then(v,0)else((fW (·.1) m n).map (·.2)).getD (0,7)
def iL(m:List Kn)(e:Ex):Int×Int:=bif !gN e then(0,1)else gl m e
def No{e:Ex}(h:eZ e=true):(e.kind==8)=false/\e.kids=[]:=by
 unfold eZ at h;cases h1:eK e
 .rw[h1]at h
  cases h2:dQ e
  .rw[h2]at h;simp at h
  .obtain⟨n,rfl⟩:=oG h2;exact⟨rfl,rfl⟩
 .obtain⟨m,rfl⟩:=BW h1;exact⟨rfl,rfl⟩
def Q4{e:Ex}(h:eZ e=true):gN e=true:=by
 have:=(No h).1;obtain⟨k,o,n,v,l⟩:=e;rw[xX (show(k==8)=false from this),h]
def Q5{o n:By}{v:Int}{l:List Ex}(h:gN (.mk 8 o n v l)=true):∃x y,l=[x,y]/\gN x=true/\eZ y=true:=by
 match l,h with
 |[x,y],h=>
  unfold gN at h;simp only[show((8:Int)==8)=true from rfl,aj]at h
  obtain⟨_,h⟩:=cd h;obtain⟨a,b⟩:=cd h;exact⟨x,y,rfl,b,a⟩
def XD(m:List Kn):∀(d:Nat)(e:Ex),bJ e<=d->gN e=true->ak 214 [.mp 0,oE e] [.map 266 (Vp m)] [.agg [U (gl m e).1,N (gl m e).2]] [.map 266 (Vp m)]
 |0,e,h,_=>by rw[cW]at h;omega
 |d+1,e,h,i=>by
  obtain⟨k,o,n,v,l⟩:=e;apply af0;refine ae (fun b=>ai ?_ rfl) fun b=>ae (fun c=>?_) fun c=>?_
  .have a:(k==7)=true:=b
   clear b h i;match l with
   |[]=>simp only[gl,a];rfl
   |[_]=>simp only[gl,a];rfl
   |_::_::_=>simp only[gl,a];rfl
  .obtain rfl:k=8:=eq_of_beq c
   obtain⟨x,y,rfl,t,u⟩:=Q5 i;simp only[bJ,cp]at h;have j:=XD m d x (by omega) t
   have q:=XD m d y (by omega) (Q4 u)
   refine⟨x.kind,x.op,x.name,x.num,bw x.kids,by omega,by rw[<-Ex.cD];rfl,_,_,j,ae (fun f=>ai ?_ rfl) fun f=>⟨y.kind,y.op,y.name,y.num,bw y.kids,by omega,by rw[<-Ex.cD];rfl,_,_,q,ae (fun g=>ai ?_ rfl) fun g=>ai ?_ rfl⟩⟩
   .simp only[gl,f];rfl
   .simp only[gl,f,g];rfl
   .simp only[gl,f,g];rfl
  .have a:(k==7)=false:=b
   have w:(k==8)=false:=c;clear b c h i;have s:gl m (.mk k o n v l)=((fW (·.1) m n).map (·.2)).getD (0,7):=by
    match l with
    |[]=>simp only[gl,a];rfl
    |[_]=>simp only[gl,a];rfl
    |_::_::_=>simp only[gl,a,w];rfl
   rw[s];cases hg:fW (·.1) m n with
   |none=>exact .inl ⟨by rw[ju];show(fW _ m n).map _=none;rw[hg];rfl,fi⟩
   |some p=>exact .inr ⟨p.2.1,p.2.2,by rw[ju];show(fW _ m n).map _=_;rw[hg];rfl,fi⟩
def XE(m:List Kn)(e:Ex)(a:tf e):ak 152 [.mp 0,oE e] [.map 266 (Vp m)] [.agg [U (iL m e).1,N (iL m e).2]] [.map 266 (Vp m)]:=by
 apply afY;exact⟨_,QZ e a,ae (fun h=>ai (by rw[iL,h];rfl) rfl) fun h=>⟨_,_,XD m _ e (ar _) (by simpa using h),ai (by rw[iL,h];rfl) rfl⟩⟩
def zt:List dT->List Kn->List Kn
 |[],m=>m
 |d::t,m=>zt t (match fW (·.1) m d.name with|none=>lq (·.1) (d.name,iL m d.ex) m|some _=>m)
def af7(l:List dT)(k:l.length<=2^40)(g:∀d∈l,tf d.ex):ak 334 [vL 6 (l.map dT.row)] [] [.mp 0] [.map 266 (Vp (zt l []))]:=by
 have key:∀(t:List dT)(i:Nat)(m:List Kn),l.drop i=t->Lp f334 0 (zs (l.map dT.row) l.length i (Vp m)) 0 [.mp 0] [.map 266 (Vp (zt t m))]:=by
  intro t;induction t with
  |nil=>intro i m b;exact Q1 _ _ _ _ (aT (l:=l) rfl b fi)
  |cons d t a=>
   intro i m b;obtain⟨c,e,j⟩:=drop_cons b;refine Q1 _ _ _ _ (aO (l:=l) rfl b ⟨d.name,d.ex.kind,d.ex.op,d.ex.name,d.ex.num,bw d.ex.kids,by omega,(aY c).trans (by rw[dT.row,Ex.cD]),?_⟩)
   have a:=a (i+1) (match fW (·.1) m d.name with|none=>lq (·.1) (d.name,iL m d.ex) m|some _=>m) e
   have f:=wa (α:=Kn) (·.1) (fun p=>.agg [U p.2.1,N p.2.2]) (d.name,iL m d.ex) m
   rw[zt];cases hg:fW (·.1) m d.name with
   |none=>
    rw[hg]at a;refine .inl ⟨by rw[ju,hg];rfl,_,_,XE m _ (g d (aK c)),aB,?_⟩
    rw[f];exact a
   |some p=>
    rw[hg]at a;exact .inr ⟨p.2.1,p.2.2,by rw[ju,hg];rfl,aB,a⟩
 apply af3;rw[ao];exact key l 0 [] rfl
def fO(l:List dT)(e:Ex):Int×Int:=iL (zt l []) e
def Z6(l:List dT)(e:Ex)(b:l.length<=2^40)(c:∀d∈l,tf d.ex)(a:tf e):ak 281 [vL 6 (l.map dT.row),oE e] [] [vU (fO l e).1,vN (fO l e).2] []:=by
 apply af2;exact⟨_,af7 l b c,_,_,XE _ e a,fi⟩
def l0:List dT->Int->List Int->List Kn->Except (Int×Int) (List Int)
 |[],_,a,_=>.ok a
 |d::t,i,a,m=>match fW (·.1) m d.name with
  |some _=>.error (i,8)
  |none=>bif(iL m d.ex).2 !=0 then .error (i,(iL m d.ex).2)else l0 t (i+1) (a++[(iL m d.ex).1]) (lq (·.1) (d.name,iL m d.ex) m)
def tg(l:List dT):Except (Int×Int) (List Int):=l0 l 0 [] []
def Q6:Except (Int×Int) (List Int)->List AV
 |.error (i,e)=>[vL 1 [],vN i,vN e]
 |.ok l=>[.own 0 0 1 (l.map fun n=>[U n]),vN (-1),vN 0]
def XF:Except (Int×Int) (List Int)->List AV
 |.error (i,e)=>[vL 1 [],vN i,vN e]
 |.ok l=>[vL 1 (l.map fun n=>[U n]),vN (-1),vN 0]
def af8(l:List dT)(s:l.length<=2^40)(k:∀d∈l,tf d.ex):ak 103 [vL 6 (l.map dT.row)] [] (XF (tg l)) []:=by
 have key:∀(t:List dT)(i:Nat)(a:List Int)(m:List Kn),l.drop i=t->a.length<=i->Lp f103 0 (EA (a.map fun n=>[U n]) (l.map dT.row) l.length i (Vp m)) 0 (Q6 (l0 t i a m)) []:=by
  intro t;induction t with
  |nil=>intro i a m b _;exact Q0 _ _ _ _ _ (aT (l:=l) rfl b fi)
  |cons d t o=>
   intro i a m b u;obtain⟨f,g,q⟩:=drop_cons b;have c:=XE m _ (k d (aK f));refine Q0 _ _ _ _ _ (aO (l:=l) rfl b ⟨d.name,d.ex.kind,d.ex.op,d.ex.name,d.ex.num,bw d.ex.kids,by omega,(aY f).trans (by rw[dT.row,Ex.cD]),?_⟩)
   have j:=wa (α:=Kn) (·.1) (fun p=>.agg [U p.2.1,N p.2.2]) (d.name,iL m d.ex) m
   rw[l0];cases hg:fW (·.1) m d.name with
   |none=>
    refine .inl ⟨by rw[ju,hg];rfl,_,_,c,ae (fun e=>ai (by simp only[e];rfl) rfl) fun e=>⟨by simp;omega,aB,?_⟩⟩
    have:=o (i+1) (a++[(iL m d.ex).1]) (lq (·.1) (d.name,iL m d.ex) m) g (by simp;omega)
    rw[j];simp only[e,af];rw[cg]at this;exact this
   |some p=>exact .inr ⟨p.2.1,p.2.2,by rw[ju,hg];rfl,_,_,c,fi⟩
 have h:=key l 0 [] [] rfl (by simp)
 rw[tg];have w:ak 103 [vL 6 (l.map dT.row)] [] (Q6 (l0 l 0 [] [])) []:=by
  apply afW;rw[ao];exact h
 cases ht:l0 l 0 [] []with
 |error p=>rw[ht]at w;exact w
 |ok p=>rw[ht]at w;exact Go.Ac.ak.soft w rfl
def EC(a b:Rw)(c d:Int)(e:Rw)(f g i:List (PV×AV)):St:=⟨aM 96 [(1,vL 1 a),(6,.aA 0 0),(25,vL 2 b),(26,vN c),(27,vN d)],[],[.cells [.mp 1,.mp 2,.mp 3,O 4 e],.map 272 f,.map 273 g,.map 274 i]⟩
def ED(a:Rw)(b c:Int)(d:Rw)(e f g:List (PV×AV)):St:=⟨aM 96 [(6,.aA 0 0),(50,vL 1 a),(51,vN b),(52,vN c)],[],[.cells [.mp 1,.mp 2,.mp 3,O 4 d],.map 272 e,.map 273 f,.map 274 g]⟩
def zu(a b:Rw)(c d:Int):St:=⟨aM 96 [(14,.own 0 0 4 a),(66,vL 4 b),(67,vN c),(68,vN d)],[some 0],[]⟩
def zw(a b:Rw)(c d:Int)(e:Rw)(f g:Int)(i:By)(j k:Int)(l:Rw):St:=⟨aM 96 [(14,.own 0 0 4 a),(17,.aA 0 0),(66,vL 4 b),(67,vN c),(68,vN d),(76,vL 3 e),(77,vN f),(78,vN g)],[some 0],[.cells [vS i,vN j,vN k,O 3 l]]⟩
def Q7:bq:={an:=[(4,1,ah),(5,3,fy),(5,5,{fb:=some [4]}),(5,6,fg),(5,11,{fb:=some [5]}),(12,1,ah),(20,1,ah),(24,1,ah),(25,1,iH),(25,2,fg),(25,3,ah),(25,7,iH)],mod:=[(13,2,[(0,[3]),(2,[]),(3,[])])],cut:=[(11,{bl:=[6,50,51,52]}),(19,{bl:=[14,66,67,68],dw:=[(14,4)],owns:=[14]}),(23,{bl:=[14,17,66,67,68,76,77,78],dw:=[(14,4)],owns:=[14]}),(3,{bl:=[1,6,25,26,27]})]}
def af9(a b:Rw){r h}(H:Lp f104 0 (EC b a (a.length:Int) 0 [] [] [] []) 0 r h):
  ak 104 [vL 2 a,vL 1 b] [] r h:=.of func104 Q7 H
def Q8(c e:Rw)(f a:Int)(g:Rw)(b i j:List (PV×AV)){r h}(H:ay (decide (a<f)) (p8 e a fun d m=>((cA b (S d)=none/\bh .i64 (a+1)/\Lp f104 0 (EC c e f (a+1) g (cn b (S d) (.agg [S d,L 4 m])) i j) 0 r h)\/(∃k l,cA b (S d)=some (.agg [S k,L 4 l])/\Fi r h [vL 4 [],vN 8] [])))
 (Lp f104 1 (ED c (c.length:Int) 0 g b i j) 0 r h)):
  Lp f104 0 (EC c e f a g b i j) 0 r h:=.of Q7 H
def Q9(d:Rw)(e a:Int)(b:Rw)(c g i:List (PV×AV)){r h}(H:ay (decide (a<e)) (M7 d a fun m=>∃f j k l,ak 153 [.aA 0 0,vS m] [.cells [.mp 1,.mp 2,.mp 3,O 4 b],.map 272 c,.map 273 g,.map 274 i] [vN f] [.cells [.mp 1,.mp 2,.mp 3,O 4 j],.map 272 c,.map 273 k,.map 274 l]/\ay (f !=0) (Fi r h [vL 4 [],vN f] [])
 (bh .i64 (a+1)/\Lp f104 1 (ED d e (a+1) j c k l) 0 r h))
 (Lp f104 2 (zu [] b (b.length:Int) 0) 0 r h)):
  Lp f104 1 (ED d e a b c g i) 0 r h:=.of Q7 H
def Ra(b c:Rw)(d a:Int){r h}(H:ay (decide (a<d)) (jV c a fun i f g e=>Lp f104 3 (zw b c d a e (e.length:Int) 0 [] f g []) 0 r h)
 (Fi r h [.own 0 0 4 b,vN 0] [])):
  Lp f104 2 (zu b c d a) 0 r h:=.of Q7 H
def Rb(c i:Rw)(j d:Int)(k:Rw)(l a:Int)(e:By)(f g:Int)(b:Rw){r h}(H:ay (decide (a<l)) (rU k a fun p q s=>∃m n o,ak 154 [.agg [S p,L 1 q,L 5 s]] [] [.agg [S m,L 1 n,L 5 o]] []/\(b++([[S m,L 1 n,L 5 o]]:Rw)).length*64<=2^47/\bh .i64 (a+1)/\Lp f104 3 (zw c i j d k l (a+1) e f g (b++([[S m,L 1 n,L 5 o]]:Rw))) 0 r h)
 ((c++([[S e,N f,N g,L 3 b]]:Rw)).length*56<=2^47/\bh .i64 (d+1)/\Lp f104 2 (zu (c++([[S e,N f,N g,L 3 b]]:Rw)) i j (d+1)) 0 r h)):
  Lp f104 3 (zw c i j d k l a e f g b) 0 r h:=.of Q7 H
def zx(a:By)(b:Int)(c:Rw)(d e:Int)(f:Rw)(g i j:List (PV×AV)):St:=⟨aM 86 [(0,.aA 0 0),(1,vS a),(9,vN b),(56,vL 4 c),(57,vN d),(58,vN e)],[],[.cells [.mp 1,.mp 2,.mp 3,O 4 f],.map 272 g,.map 273 i,.map 274 j]⟩
def Z7:bq:={an:=[(13,1,ah),(19,12,{take:=true})],mod:=[(8,2,[(0,[3])]),(14,2,[(0,[3]),(2,[]),(3,[])])],cut:=[(12,{bl:=[0,1,9,56,57,58]})]}
def aga(b c a:List (PV×AV))(e:Rw)(d:By){r h}(H:((cA b (S d)=none/\Fi r h [vN 7] [.cells [.mp 1,.mp 2,.mp 3,O 4 e],.map 272 b,.map 273 c,.map 274 a])\/(∃o f,cA b (S d)=some (.agg [S o,L 4 f])/\((cA c (S d)=none/\((cA a (S d)=none/\Lp f153 0 (zx d (e.length:Int) f (f.length:Int) 0 e b (cn c (S d) (vB true)) a) 4 r h)\/(∃g,cA a (S d)=some (O 4 g)/\∃i j,ak 215 [.aA 0 0,vL 4 g] [.cells [.mp 1,.mp 2,.mp 3,O 4 e],.map 272 b,.map 273 c,.map 274 a] [vN i] [.cells [.mp 1,.mp 2,.mp 3,O 4 j],.map 272 b,.map 273 c,.map 274 a]/\Fi r h [vN i] [.cells [.mp 1,.mp 2,.mp 3,O 4 j],.map 272 b,.map 273 c,.map 274 a])))\/(∃k,cA c (S d)=some (vB k)/\ay k (Fi r h [vN 5] [.cells [.mp 1,.mp 2,.mp 3,O 4 e],.map 272 b,.map 273 c,.map 274 a])
 (((cA a (S d)=none/\Lp f153 0 (zx d (e.length:Int) f (f.length:Int) 0 e b (cn c (S d) (vB true)) a) 4 r h)\/(∃l,cA a (S d)=some (O 4 l)/\∃m n,ak 215 [.aA 0 0,vL 4 l] [.cells [.mp 1,.mp 2,.mp 3,O 4 e],.map 272 b,.map 273 c,.map 274 a] [vN m] [.cells [.mp 1,.mp 2,.mp 3,O 4 n],.map 272 b,.map 273 c,.map 274 a]/\Fi r h [vN m] [.cells [.mp 1,.mp 2,.mp 3,O 4 n],.map 272 b,.map 273 c,.map 274 a])))))))):
  ak 153 [.aA 0 0,vS d] [.cells [.mp 1,.mp 2,.mp 3,O 4 e],.map 272 b,.map 273 c,.map 274 a] r h:=.of func153 Z7 H
def Rc(e:By)(b:Int)(f:Rw)(g d:Int)(a:Rw)(c i j:List (PV×AV)){r h}(H:ay (decide (d<g)) (jV f d fun o p q s=>∃k l m n,ak 216 [.aA 0 0,.agg [S o,N p,N q,L 3 s]] [.cells [.mp 1,.mp 2,.mp 3,O 4 a],.map 272 c,.map 273 i,.map 274 j] [vN k] [.cells [.mp 1,.mp 2,.mp 3,O 4 l],.map 272 c,.map 273 m,.map 274 n]/\ay (k !=0) (Fi r h [vN k] [.cells [.mp 1,.mp 2,.mp 3,O 4 l],.map 272 c,.map 273 m,.map 274 n])
 (bh .i64 (d+1)/\Lp f153 0 (zx e b f g (d+1) l c m n) 4 r h))
 ((0<=b/\b<=(a.length:Int)/\(a.length:Int)<=(a.length:Int))/\(List.drop (Int.toNat b) (List.take a.length a)).length*56<=2^47/\Fi r h [vN 0] [.cells [.mp 1,.mp 2,.mp 3,O 4 a],.map 272 c,.map 273 (kx i (S e)),.map 274 (cn j (S e) (O 4 (List.drop (Int.toNat b) (List.take a.length a))))])):
  Lp f153 0 (zx e b f g d a c i j) 4 r h:=.of Z7 H
def agb:bq:={an:=[(1,4,{take:=true}),(1,9,{take:=true})]}
def agc(c d e:List (PV×AV))(a b:Rw){r h}(H:(a++b).length*56<=2^47/\ay (decide (((a++b).length:Int)>500)) (Fi r h [vN 9] [.cells [.mp 1,.mp 2,.mp 3,O 4 (a++b)],.map 272 c,.map 273 d,.map 274 e])
 (Fi r h [vN 0] [.cells [.mp 1,.mp 2,.mp 3,O 4 (a++b)],.map 272 c,.map 273 d,.map 274 e])):
  ak 215 [.aA 0 0,vL 4 b] [.cells [.mp 1,.mp 2,.mp 3,O 4 a],.map 272 c,.map 273 d,.map 274 e] r h:=.of func215 agb H
def agd:bq:={mod:=[(2,3,[(0,[3]),(2,[]),(3,[])]),(3,3,[(0,[3])])]}
def age(a b c:List (PV×AV))(e:Rw)(d:By)(f g:Int)(i:Rw){r h}(H:ay (!(d==[])) (∃j k l m,ak 153 [.aA 0 0,vS d] [.cells [.mp 1,.mp 2,.mp 3,O 4 e],.map 272 a,.map 273 b,.map 274 c] [vN j] [.cells [.mp 1,.mp 2,.mp 3,O 4 k],.map 272 a,.map 273 l,.map 274 m]/\Fi r h [vN j] [.cells [.mp 1,.mp 2,.mp 3,O 4 k],.map 272 a,.map 273 l,.map 274 m])
 (∃n o,ak 215 [.aA 0 0,vL 4 [[S d,N f,N g,L 3 i]]] [.cells [.mp 1,.mp 2,.mp 3,O 4 e],.map 272 a,.map 273 b,.map 274 c] [vN n] [.cells [.mp 1,.mp 2,.mp 3,O 4 o],.map 272 a,.map 273 b,.map 274 c]/\Fi r h [vN n] [.cells [.mp 1,.mp 2,.mp 3,O 4 o],.map 272 a,.map 273 b,.map 274 c])):
  ak 216 [.aA 0 0,.agg [S d,N f,N g,L 3 i]] [.cells [.mp 1,.mp 2,.mp 3,O 4 e],.map 272 a,.map 273 b,.map 274 c] r h:=.of func216 agd H
section
def agf(r:gC)(h:BX r):ak 154 [qX r] [] [qX r] []:=by
 have d:∀e∈r.cond,bJ e<=cp r.cond:=fun e a=>ep e a
 have b:∀l:List Ex,(∀e∈l,tf e)->mM l:=by
  intro l;induction l with
  |nil=>intro _;trivial
  |cons x l c=>intro h;exact⟨uS x (h x aS),c fun e a=>h e (aP _ a)⟩
 apply ae9;refine⟨_,Go.Ac.ak.soft (YY (aR r.params) (by have:=h.pl;simp[aR];omega)) rfl,bw r.cond,?_,ai (by rw[db]) rfl⟩
 rw[<-db];exact Z1 _ r.cond (ar _) (b _ fun e a=>(h.cond e a).1) h.cl
structure Fs where
 w:List By
 kn:List (By×List dr)
 eX:List dr
abbrev fb(ps:List dP)(s:Fs):List Bx:=[.cells [.mp 1,.mp 2,.mp 3,O 4 (s.eX.map dr.row)],.map 272 (mp dP.name JW ps),.map 273 (mp id (fun _=>vB true) s.w),.map 274 (mp (·.1) (fun p=>O 4 (p.2.map dr.row)) s.kn)]
def EE(s:Fs)(l:List dr):Int×Fs:=(bif decide (((s.eX++l).length:Int)>500)then 9 else 0,{s with eX:=s.eX++l})
def oH(rec:By->Fs->Int×Fs)(s:Fs)(x:dr):Int×Fs:=bif !(x.use==[])then rec x.use s else EE s [x]
def kK(rec:By->Fs->Int×Fs):List dr->Fs->Int×Fs
 |[],s=>(0,s)
 |x::t,s=>bif(oH rec s x).1 !=0 then oH rec s x else kK rec t (oH rec s x).2
def JZ(name:By)(n:Nat)(r:Int×Fs):Int×Fs:=bif r.1 !=0 then r else(0,{r.2 with w:=G6 id name r.2.w,kn:=lq (·.1) (name,r.2.eX.drop n) r.2.kn})
def mQ(ps:List dP):Nat->By->Fs->Int×Fs
 |0,_,s=>(0,s)
 |n+1,name,s=>match fW dP.name ps name with
  |none=>(7,s)
  |some p=>match fW id s.w name with
   |some _=>(5,s)
   |none=>match fW (·.1) s.kn name with
    |some k=>EE s k.2
    |none=>JZ name s.eX.length (kK (mQ ps n) p.aV {s with w:=lq id name s.w})
structure NX (Q:dr->Prop) (s:Fs):Prop where
 len:s.eX.length<=500
 kn:∀k∈s.kn,k.2.length<=500/\∀x∈k.2,Q x
 eX:∀x∈s.eX,Q x
structure BY (Q:dr->Prop) (s s':Fs):Prop where
 w:s'.w=s.w
 ok:NX Q s'
 len:s.eX.length<=s'.eX.length
def uT{α:Type}{key:α->By}{x:α}:∀{l:List α},fW key l (key x)=none->lq key x l=l++[x]
 |[],_=>rfl
 |y::l,h=>by
  unfold fW at h;rw[cx]at h;unfold lq;cases hk:key x==key y<;>rw[hk]at h
  .simp only[af]
   rw[uT (l:=l) h];rfl
  .simp at h
def G7{k:By}:∀{l:List By},fW id l k=none->G6 id k (lq id k l)=l
 |[],_=>by simp[lq,G6]
 |y::l,h=>by
  unfold fW at h;rw[cx]at h;unfold lq;cases hk:k==id y
  .rw[hk]at h
   rw[show(id k==id y)=false from hk,af]
   unfold G6;rw[hk,af,G7 (l:=l) h]
  .rw[hk]at h;simp at h
def G8{α:Type}{key:α->By}{x:α}:∀{l:List α}{y:α},y∈lq key x l->y=x\/y∈l
 |[],y,h=>by simp[lq]at h;exact .inl h
 |z::l,y,h=>by
  unfold lq at h;cases hk:key x==key z<;>rw[hk]at h
  .rw[af]at h
   rcases aU.1 h with rfl|h
   .exact .inr aS
   .rcases G8 h with h|h
    .exact .inl h
    .exact .inr (aP _ h)
  .rw[aj]at h
   rcases aU.1 h with rfl|h
   .exact .inl rfl
   .exact .inr (aP _ h)
def uU{α:Type}{key:α->By}{l:List α}{k:By}{x:α}(h:fW key l k=some x):x∈l/\k=key x:=by
 unfold fW at h;exact⟨kS h,by have:=ql h;exact eq_of_beq this⟩
variable {Q:dr->Prop}
def BZ{s:Fs}{l:List dr}(h:NX Q s)(c:∀x∈l,Q x)(b:(EE s l).1=0):BY Q s (EE s l).2:=by
 unfold EE at b⊢;cases hd:decide (((s.eX++l).length:Int)>500)<;>rw[hd]at b
 .have:=bH hd
  refine⟨rfl,⟨by show(s.eX++l).length<=500;omega,h.kn,fun x a=>?_⟩,by simp⟩
  rcases bC.1 a with a|a
  .exact h.eX x a
  .exact c x a
 .simp at b
def zy{rec:By->Fs->Int×Fs}(b:∀name s,NX Q s->(rec name s).1=0->BY Q s (rec name s).2){s:Fs}{x:dr}(h:NX Q s)(c:x.use=[]->Q x)(a:(oH rec s x).1=0):BY Q s (oH rec s x).2:=by
 unfold oH at a⊢;cases hu : !(x.use==[])<;>rw[hu]at a
 .exact BZ h (by simp;exact c (by simpa using hu)) a
 .exact b _ _ h a
def wU{rec:By->Fs->Int×Fs}(d:∀name s,NX Q s->(rec name s).1=0->BY Q s (rec name s).2):∀(l:List dr)(s:Fs),NX Q s->(∀x∈l,x.use=[]->Q x)->(kK rec l s).1=0->BY Q s (kK rec l s).2
 |[],s,h,_,_=>⟨rfl,h,ar _⟩
 |x::t,s,h,e,a=>by
  unfold kK at a⊢;cases hz:(oH rec s x).1 !=0<;>rw[hz]at a
  .have b:=zy d h (e x aS) (by simpa using hz)
   have c:=wU d t _ b.ok (fun y f=>e y (aP _ f)) a
   exact⟨c.w.trans b.w,c.ok,dF b.len c.len⟩
  .rw[aj]at a
   rw[a]at hz;simp at hz
def sc(ps:List dP)(e:∀p∈ps,∀x∈p.aV,x.use=[]->Q x):∀(n:Nat)(name:By)(s:Fs),NX Q s->(mQ ps n name s).1=0->BY Q s (mQ ps n name s).2
 |0,_,s,h,_=>⟨rfl,h,ar _⟩
 |n+1,name,s,h,a=>by
  unfold mQ at a⊢;cases hp:fW dP.name ps name with
  |none=>rw[hp]at a;simp at a
  |some p=>
   have f:=(uU hp).1;rw[hp]at a;simp only at a⊢;cases hw:fW id s.w name with
   |some y=>rw[hw]at a;simp at a
   |none=>
    rw[hw]at a;simp only at a⊢;cases c:fW (·.1) s.kn name with
    |some k=>
     rw[c]at a;exact BZ h (fun x d=>(h.kn k (uU c).1).2 x d) a
    |none=>
     rw[c]at a;simp only at a⊢;unfold JZ at a⊢;cases hz:(kK (mQ ps n) p.aV {s with w:=lq id name s.w}).1 !=0<;>rw[hz]at a
     .have b:=wU (Q:=Q) (sc ps e n) p.aV {s with w:=lq id name s.w} ⟨h.len,h.kn,h.eX⟩ (e p f) (by simpa using hz)
      refine⟨?_,⟨b.ok.len,fun k c=>?_,b.ok.eX⟩,b.len⟩
      .show G6 id name (kK (mQ ps n) p.aV {s with w:=lq id name s.w}).2.w=s.w
       rw[b.w];exact G7 hw
      .rcases G8 c with rfl|c
       .have:=b.ok.len
        exact⟨by simp;omega,fun x d=>b.ok.eX x (tV d)⟩
       .exact b.ok.kn k c
     .rw[aj]at a
      rw[a]at hz;simp at hz
def G9(ps:List dP)(w:List By):Nat:=ps.countP fun p=>(fW id w p.name).isNone
def Rd:∀{ps:List dP}{w:List By}{name:By}{p:dP},p∈ps->p.name=name->fW id w name=none->G9 ps (lq id name w)<G9 ps w:=by
 intro ps w name p a d c;rw[show lq id name w=w++[name]from uT (key:=id) (x:=name) c]
 have mono:∀q:dP,(fW id (w++[name]) q.name).isNone=true->(fW id w q.name).isNone=true:=by
  intro q b;unfold fW at b⊢;rw[List.find?_append]at b;cases hf:w.find? (fun x=>q.name==id x)
  .rfl
  .rw[hf]at b;simp at b
 unfold G9;induction ps with
 |nil=>simp at a
 |cons q ps e=>
  rw[List.countP_cons,List.countP_cons];have f:ps.countP (fun p=>(fW id (w++[name]) p.name).isNone)<=ps.countP fun p=>(fW id w p.name).isNone:=List.countP_mono_left fun x _ h=>mono x h
  rcases aU.1 a with rfl|a
  .rw[d,c]
   have:(fW id (w++[name]) name).isNone=false:=by
    unfold fW at c⊢;rw[List.find?_append,c];simp
   rw[this];simp;omega
  .have:=e a
   have:=mono q;cases ha:(fW id (w++[name]) q.name).isNone
   .simp;omega
   .rw[this ha];simp;omega
def Z8(ps:List dP)(s:Fs)(l:List dr)(h:s.eX.length<=500)(a:l.length<=500):ak 215 [.aA 0 0,vL 4 (l.map dr.row)] (fb ps s) [vN (EE s l).1] (fb ps (EE s l).2):=by
 have e:s.eX.map dr.row++l.map dr.row=(s.eX++l).map dr.row:=by rw[cg]
 apply agc;rw[e,ao];exact⟨by simp;omega,ae (fun h=>ai (by rw[EE,h];rfl) rfl) fun h=>ai (by rw[EE,h];rfl) rfl⟩
def agh(ps:List dP){rec:By->Fs->Int×Fs}(s:Fs)(x:dr)(h:s.eX.length<=500)(b:ak 153 [.aA 0 0,vS x.use] (fb ps s) [vN (rec x.use s).1] (fb ps (rec x.use s).2))(c:True):
  ak 216 [.aA 0 0,Nl x] (fb ps s) [vN (oH rec s x).1] (fb ps (oH rec s x).2):=by
 apply age;exact ae (fun a=>⟨_,_,_,_,b,ai (by rw[oH,a];rfl) (by rw[oH,a];rfl)⟩) fun a=>⟨_,_,Z8 ps s [x] h (by simp),ai (by rw[oH,a];rfl) (by rw[oH,a];rfl)⟩
def Z9(ps:List dP)(e:∀p∈ps,∀x∈p.aV,x.use=[]->Q x)(o:∀p∈ps,p.aV.length<=2^40):∀(n:Nat)(name:By)(s:Fs),G9 ps s.w<n->NX Q s ->
  ak 153 [.aA 0 0,vS name] (fb ps s) [vN (mQ ps n name s).1] (fb ps (mQ ps n name s).2)
 |0,_,_,h,_=>absurd h (by omega)
 |n+1,name,s,K,h=>by
  apply aga;cases hp:fW dP.name ps name with
  |none=>exact .inl ⟨by rw[ju,hp];rfl,ai (by rw[mQ,hp]) (by rw[mQ,hp])⟩
  |some p=>
   refine .inr ⟨p.name,p.aV.map dr.row,by rw[ju,hp];rfl,?_⟩
   cases hw:fW id s.w name with
   |some y=>exact .inr ⟨true,by rw[ju,hw];rfl,bF rfl (ai (by rw[mQ,hp,hw]) (by rw[mQ,hp,hw]))⟩
   |none=>
    refine .inl ⟨by rw[ju,hw];rfl,?_⟩
    cases hk:fW (·.1) s.kn name with
    |some k=>
     have I:=h.kn k (uU hk).1;exact .inr ⟨k.2.map dr.row,by rw[ju,hk];rfl,_,_,Z8 ps s k.2 h.len I.1,ai (by rw[mQ,hp,hw];simp only[hk]) (by rw[mQ,hp,hw];simp only[hk];rfl)⟩
    |none=>
     refine .inl ⟨by rw[ju,hk];rfl,?_⟩
     have d:=uU hp;have M:=Rd d.1 d.2.symm hw;have u:=wa (α:=By) id (fun _=>vB true) name s.w
     have v:mQ ps (n+1) name s=JZ name s.eX.length (kK (mQ ps n) p.aV {s with w:=lq id name s.w}):=by rw[mQ,hp,hw];simp only[hk]
     rw[v];have T:=o p d.1;have key:∀(t:List dr)(i:Nat)(z:Fs),p.aV.drop i=t->z.w=lq id name s.w->NX Q z->s.eX.length<=z.eX.length ->
       Lp f153 0 (zx name (s.eX.length:Int) (p.aV.map dr.row) p.aV.length i (z.eX.map dr.row) (mp dP.name JW ps) (mp id (fun _=>vB true) z.w) (mp (·.1) (fun p=>O 4 (p.2.map dr.row)) z.kn)) 4 [vN (JZ name s.eX.length (kK (mQ ps n) t z)).1] (fb ps (JZ name s.eX.length (kK (mQ ps n) t z)).2):=by
      intro t;induction t with
      |nil=>
       intro i z c g b q;apply Rc;have X:=b.len;have r:=wa (α:=By×List dr) (·.1) (fun p=>O 4 (p.2.map dr.row)) (name,z.eX.drop s.eX.length) z.kn
       have D:=Q3 (α:=By) id (fun _=>vB true) name z.w
       have j:List.drop (Int.toNat ((s.eX.length:Nat):Int)) (List.take (z.eX.map dr.row).length (z.eX.map dr.row))=(z.eX.drop s.eX.length).map dr.row:=by
        rw[eU (ar _),toNat_cast,od]
       refine aT (l:=p.aV) rfl c ⟨⟨by omega,by simp;omega,by omega⟩,?_,ai rfl ?_⟩
       .rw[j];simp;omega
       .rw[j,D,r];rfl
      |cons x t H=>
       intro i z c g b q;obtain⟨m,E,J⟩:=drop_cons c;have G:=aK m;apply Rc;refine aO (l:=p.aV) rfl c ⟨x.use,x.act.kind,x.act.data,x.bj.map gC.row,by omega,aY m,_,_,_,_,agh ps z x b.len (Z9 ps e o n x.use z (by rw[g];omega) b) trivial,ae (fun a=>ai ?_ ?_) fun a=>⟨aB,?_⟩⟩
       .rw[kK,a];simp only[aj,JZ,a]
       .rw[kK,a];simp only[aj,JZ,a]
       .have f:=zy (Q:=Q) (sc ps e n) b (e p d.1 x G) (by simpa using a)
        rw[kK,a];exact H (i+1) _ E (f.w.trans g) f.ok (dF q f.len)
     have:=key p.aV 0 {s with w:=lq id name s.w} rfl rfl ⟨h.len,h.kn,h.eX⟩ (ar _);rw[ao,ao];rw[show mp id (fun _=>vB true) (lq id name s.w)=cn (mp id (fun _=>vB true) s.w) (S name) (vB true)from u.symm]at this
     exact this
def J0:List dP->List dP->Bool
 |[],_=>false
 |p::t,pre=>match fW dP.name pre p.name with
  |some _=>true
  |none=>J0 t (pre++[p])
def gO(ps:List dP):List By->Fs->Int×Fs
 |[],s=>(0,s)
 |x::t,s=>bif(mQ ps (ps.length+1) x s).1 !=0 then mQ ps (ps.length+1) x s else gO ps t (mQ ps (ps.length+1) x s).2
def nV(p:dr):dr:=⟨[],p.act,p.bj⟩
def nG(ps:List dP)(names:List By):Except Int (List dr):=
 bif J0 ps []then .error 8 else bif(gO ps names ⟨[],[],[]⟩).1 !=0 then .error (gO ps names ⟨[],[],[]⟩).1 else .ok ((gO ps names ⟨[],[],[]⟩).2.eX.map nV)
def Re:Except Int (List dr)->List AV
 |.error e=>[vL 4 [],vN e]
 |.ok l=>[.own 0 0 4 (l.map dr.row),vN 0]
def aaa:Except Int (List dr)->List AV
 |.error e=>[vL 4 [],vN e]
 |.ok l=>[vL 4 (l.map dr.row),vN 0]
def rb(ps:List dP)(b:∀p∈ps,∀x∈p.aV,x.use=[]->Q x):∀(l:List By)(s:Fs),NX Q s->(gO ps l s).1=0->NX Q (gO ps l s).2
 |[],s,h,_=>h
 |x::t,s,h,a=>by
  unfold gO at a⊢;cases hz:(mQ ps (ps.length+1) x s).1 !=0<;>rw[hz]at a
  .exact rb ps b t _ (sc ps b _ _ _ h (by simpa using hz)).ok a
  .rw[aj]at a
   rw[a]at hz;simp at hz
def TV(d:List dr)(c:List dr)(j:Nat)(p:dr)(g:∀r∈p.bj,BX r)(o:p.bj.length<=2^40){r:List AV}{h:List Bx}(K:Lp f104 2 (zu ((d++[nV p]).map dr.row) (c.map dr.row) c.length (j+1)) 0 r h)(n:j<=2^40)(s:d.length<=2^40):
  Lp f104 3 (zw (d.map dr.row) (c.map dr.row) c.length j (p.bj.map gC.row) p.bj.length 0 [] p.act.kind p.act.data []) 0 r h:=by
 have key:∀(t:List gC)(i:Nat)(q:List gC),p.bj.drop i=t->q=p.bj.take i->Lp f104 3 (zw (d.map dr.row) (c.map dr.row) c.length j (p.bj.map gC.row) p.bj.length i [] p.act.kind p.act.data (q.map gC.row)) 0 r h:=by
  intro t;induction t with
  |nil=>
   intro i q a b;have:=drop_nil a;rw[eU this]at b;subst b;apply Rb;refine aT (l:=p.bj) rfl a ⟨by simp;omega,aB,?_⟩
   rw[cg]at K;exact K
  |cons x t k=>
   intro i q a b;obtain⟨e,f,m⟩:=drop_cons a;have u:q.length<=i:=by rw[b];simp;omega
   apply Rb;refine aO (l:=p.bj) rfl a ⟨x.call,aR x.params,x.cond.map Ex.row,by omega,aY e,_,_,_,agf x (g x (aK e)),by simp;omega,aB,?_⟩
   have:=k (i+1) (q++[x]) f (by rw[b,hL,e];rfl)
   rw[cg]at this;exact this
 exact key p.bj 0 [] rfl rfl
def agi(ps:List dP)(names:List By)(o:∀p∈ps,∀x∈p.aV,x.use=[]->wS x)(D:∀p∈ps,p.aV.length<=2^40)(M:ps.length<=2^40)(I:names.length<=2^40):
  ak 104 [vL 2 (ps.map dP.row),vL 1 (aR names)] [] (aaa (nG ps names)) []:=by
 have H:∀(c:List dr),(∀x∈c,wS x)->c.length<=500->∀(t:List dr)(i:Nat)(d:List dr),c.drop i=t->d=(c.take i).map nV->Lp f104 2 (zu (d.map dr.row) (c.map dr.row) c.length i) 0 [.own 0 0 4 ((c.map nV).map dr.row),vN 0] []:=by
  intro c h J t;induction t with
  |nil=>
   intro i d a g;have:=drop_nil a;rw[eU this]at g;subst g;apply Ra;exact aT (l:=c) rfl a fi
  |cons x t k=>
   intro i d a g;obtain⟨b,e,n⟩:=drop_cons a;have v:=h x (aK b);have K:d.length<=i:=by rw[g];simp;omega
   apply Ra;refine aO (l:=c) rfl a ⟨x.use,x.act.kind,x.act.data,x.bj.map gC.row,by omega,aY b,?_⟩
   simp only[ao];exact TV d c i x v.bj (dF v.rl (by omega)) (k (i+1) (d++[nV x]) e (by rw[g,hL,b];simp)) (by omega) (by omega)
 have G:∀(t:List By)(i:Nat)(s:Fs),names.drop i=t->NX wS s->s.w=[]->Lp f104 1 (ED (aR names) names.length i (s.eX.map dr.row) (mp dP.name JW ps) (mp id (fun _=>vB true) s.w) (mp (·.1) (fun p=>O 4 (p.2.map dr.row)) s.kn)) 0
   (Re (bif(gO ps t s).1 !=0 then .error (gO ps t s).1 else .ok ((gO ps t s).2.eX.map nV))) []:=by
  intro t;induction t with
  |nil=>
   intro i s a j u;apply Q9;refine aT (l:=names) rfl a ?_;rw[ao];exact H s.eX j.eX j.len s.eX 0 [] rfl rfl
  |cons x t k=>
   intro i s a j u;obtain⟨b,e,n⟩:=drop_cons a;apply Q9;have r:G9 ps s.w<ps.length+1:=Nat.lt_succ_of_le List.countP_le_length;refine aO (l:=names) rfl a ⟨x,by omega,aY b,_,_,_,_,Z9 ps o D _ x s r j,ae (fun f=>ai ?_ rfl) fun f=>⟨aB,?_⟩⟩
   .rw[gO,f];simp only[aj,f];rfl
   .have y:=sc ps o _ x s j (by simpa using f)
    rw[gO,f];exact k (i+1) _ e y.ok (y.w.trans u)
 have E:∀(t:List dP)(i:Nat),ps.drop i=t->Lp f104 0 (EC (aR names) (ps.map dP.row) ps.length i [] (mp dP.name JW (ps.take i)) [] []) 0
   (Re (bif J0 t (ps.take i)then .error 8 else bif(gO ps names ⟨[],[],[]⟩).1 !=0 then .error (gO ps names ⟨[],[],[]⟩).1 else .ok ((gO ps names ⟨[],[],[]⟩).2.eX.map nV))) []:=by
  intro t;induction t with
  |nil=>
   intro i a;have:=drop_nil a;rw[eU this];apply Q8;refine aT (l:=ps) rfl a ?_;rw[show(aR names).length=names.length from ao ..]
   exact G names 0 ⟨[],[],[]⟩ rfl ⟨by simp,by simp,by simp⟩ rfl
  |cons p t k=>
   intro i a;obtain⟨b,e,n⟩:=drop_cons a;have m:ps.take (i+1)=ps.take i++[p]:=by rw[hL,b];rfl
   apply Q8;refine aO (l:=ps) rfl a ⟨p.name,p.aV.map dr.row,by omega,aY b,?_⟩
   have z:=wa (α:=dP) dP.name JW p (ps.take i);rw[J0];cases hg:fW dP.name (ps.take i) p.name with
   |none=>
    refine .inl ⟨by rw[ju,hg];rfl,aB,?_⟩
    have:=k (i+1) e;rw[m,<-uT (key:=dP.name) hg,<-z,uT (key:=dP.name) hg]at this;exact this
   |some q=>exact .inr ⟨q.name,q.aV.map dr.row,by rw[ju,hg];rfl,fi⟩
 have w:ak 104 [vL 2 (ps.map dP.row),vL 1 (aR names)] [] (Re (nG ps names)) []:=by
  apply af9;rw[ao];exact E ps 0 rfl
 cases m:nG ps names with
 |error p=>rw[m]at w;exact w
 |ok p=>rw[m]at w;exact Go.Ac.ak.soft w rfl
end
def Lr(a:By)(b c:Rw)(d e:Int)(f g i:Rw)(j k:Int):St:=⟨aM 85 [(1,vS a),(2,.aA 0 0),(13,.own 0 0 9 b),(53,vL 4 c),(54,vN d),(55,vN e)],[some 0],[.cells [vL 6 f,vL 2 g,vL 1 i,vN j,vN k]]⟩
def Ls(a:By)(b c:Rw)(d e:Int)(f:Rw)(g i:Int)(j k l:Rw)(m n:Int)(o:By)(p q:Int)(s:Rw):St:=⟨aM 85 [(1,vS a),(2,.aA 0 0),(13,.own 0 0 9 b),(15,.aA 1 0),(53,vL 4 c),(54,vN d),(55,vN e),(60,vL 3 f),(61,vN g),(62,vN i)],[some 0],[.cells [vL 6 j,vL 2 k,vL 1 l,vN m,vN n],.cells [vS o,vN p,vN q,vL 3 s]]⟩
def A79:bq:={an:=[(1,1,ah),(2,4,ah),(4,2,ah),(7,4,ah),(13,1,ah),(16,1,ah),(17,5,ah)],cut:=[(12,{bl:=[1,2,13,53,54,55],dw:=[(13,9)],owns:=[13]}),(15,{bl:=[1,2,13,15,53,54,55,60,61,62],dw:=[(13,9)],owns:=[13]})]}
def W79(a b c:Rw)(d e:Int)(f:By){r h}(H:∃m k,ak 81 [vS f] [] [vW m,vB k] []/\ay (!k) (Fi r h [vL 9 [],vN 1] []) (∃l,ak 102 [.agg [L 6 a,L 2 b,L 1 c,N d,N e]] [] [vB l] []/\ay (!l) (Fi r h [vL 9 [],vN 1] [])
 (∃n o g,ak 103 [vL 6 a] [] [vL 1 n,vN o,vN g] []/\ay (g !=0) (Fi r h [vL 9 [],vN g] [])
 (∃i j,ak 104 [vL 2 b,vL 1 c] [] [vL 4 i,vN j] []/\ay (j !=0) (Fi r h [vL 9 [],vN j] [])
 (Lp f79 0 (Lr f [] i (i.length:Int) 0 a b c d e) 0 r h))))):
  ak 79 [.agg [L 6 a,L 2 b,L 1 c,N d,N e],vS f] [] r h:=.of func79 A79 H
def Vq(f:By)(b c:Rw)(d a:Int)(g i j:Rw)(k l:Int){r h}(H:ay (decide (a<d)) (jV c a fun m n o e=>Lp f79 1 (Ls f b c d a e (e.length:Int) 0 g i j k l m n o e) 0 r h)
 (Fi r h [.own 0 0 9 b,vN 0] [])):
  Lp f79 0 (Lr f b c d a g i j k l) 0 r h:=.of A79 H
def Vr(b:By)(c k:Rw)(l d:Int)(m:Rw)(n a:Int)(e f g:Rw)(i j:Int)(E:By)(o p:Int)(G:Rw){r h}(H:ay (decide (a<n)) (rU m a fun I J K=>∃q s t u v w x y z D,ak 105 [.agg [L 6 e,L 2 f,L 1 g,N i,N j],vS b,.agg [S I,L 1 J,L 5 K],.agg [N o,N p]] [] [.agg [W q,N s,N t,N u,N v,N w,U x,U y,L 6 z],vN D] []/\ay (D !=0) (Fi r h [vL 9 [],vN D] [])
 ((c++([[W q,N s,N t,N u,N v,N w,U x,U y,L 6 z]]:Rw)).length*88<=2^47/\bh .i64 (a+1)/\Lp f79 1 (Ls b (c++([[W q,N s,N t,N u,N v,N w,U x,U y,L 6 z]]:Rw)) k l d m n (a+1) e f g i j E o p G) 0 r h))
 (bh .i64 (d+1)/\Lp f79 0 (Lr b c k l (d+1) e f g i j) 0 r h)):
  Lp f79 1 (Ls b c k l d m n a e f g i j E o p G) 0 r h:=.of A79 H
def EF(a b:Rw)(c d:Int)(e f g:Rw)(i j k l m n o p q s:Int)(t:Rw)(u v w x y z D E:Int)(G:Rw):St:=⟨aM 66 [(4,.aA 0 0),(8,.aA 1 0),(12,vL 1 a),(14,.aA 2 0),(43,vL 5 b),(44,vN c),(45,vN d)],[],[.cells [vL 6 e,vL 2 f,vL 1 g,vN i,vN j],K4 k l m n o p q s t,K9 u v w x y z D E G]⟩
def aab:bq:={an:=[(1,3,ah),(4,2,ah),(10,1,ah)],cut:=[(9,{bl:=[4,8,12,14,43,44,45],vp:=[(2,8)]})]}
def agk(e f g:Rw)(i j:Int)(k b:By)(l a:Rw)(m n:Int){r h}(H:∃o c p q,ak 155 [vS k,vS b] [] [.agg [S o,W c,L 1 p],vB q] []/\ay (!q) (Fi r h [.agg [W 0,N 0,N 0,N 0,N 0,N 0,U 0,U 0,L 6 []],vN 7] [])
 (∃s d,ak 156 [.agg [S b,L 1 l,L 5 a],.agg [S o,W c,L 1 p]] [] [vL 1 s,vN d] []/\ay (d !=0) (Fi r h [.agg [W 0,N 0,N 0,N 0,N 0,N 0,U 0,U 0,L 6 []],vN d] [])
 (Lp f105 0 (EF s a (a.length:Int) 0 e f g i j 0 0 0 0 0 0 0 0 [] c m n 1 0 0 0 0 []) 0 r h))):
  ak 105 [.agg [L 6 e,L 2 f,L 1 g,N i,N j],vS k,.agg [S b,L 1 l,L 5 a],.agg [N m,N n]] [] r h:=.of func105 aab H
def Rf(b d:Rw)(e a:Int)(c k l:Rw)(m n o p q s t u v w:Int)(x:Rw)(f g i y z D E G:Int)(I:Rw){r h}(H:ay (decide (a<e)) (bu d a fun Y Z F A R=>∃J K M Q T X j,ak 157 [.aA 0 0,.agg [N Y,S Z,S F,U A,L 5 R]] [.cells [vL 6 c,vL 1 b]] [.agg [N J,N K,N M,U Q,U T,L 6 X],vN j] [.cells [vL 6 c,vL 1 b]]/\ay (j !=0) (Fi r h [.agg [W 0,N 0,N 0,N 0,N 0,N 0,U 0,U 0,L 6 []],vN j] [])
 (bh .i64 (a+1)/\Lp f105 0 (EF b d e (a+1) c k l m n o p q s t u v w x f g i J K M Q T X) 0 r h))
 (Fi r h [.agg [W f,N g,N i,N y,N z,N D,U E,U G,L 6 I],vN 0] [])):
  Lp f105 0 (EF b d e a c k l m n o p q s t u v w x f g i y z D E G I) 0 r h:=.of aab H
def EG(a:Rw)(b c:Int)(d:By)(e f:Rw)(g:By)(i:Int)(j:Rw):St:=⟨aM 40 [(2,.aA 0 0),(3,.aA 1 0),(16,vL 1 a),(17,vN b),(18,vN c)],[],[.cells [vS d,vL 1 e,vL 5 f],.cells [vS g,vW i,vL 1 j]]⟩
def aac:bq:={an:=[(5,2,ah),(6,5,ah),(9,2,{fz:=true,bA:=true})],cut:=[(4,{bl:=[2,3,16,17,18]})]}
def aad(c:By)(a d:Rw)(e:By)(f:Int)(b:Rw){r h}(H:ay (decide ((a.length:Int)>(b.length:Int))) (Fi r h [vL 1 [],vN 9] [])
 (Lp f156 0 (EG a (a.length:Int) 0 c a d e f b) 0 r h)):
  ak 156 [.agg [S c,L 1 a,L 5 d],.agg [S e,W f,L 1 b]] [] r h:=.of func156 aac H
def Rg(d:Rw)(e c:Int)(g:By)(a i:Rw)(j:By)(k:Int)(b:Rw){r h}(H:ay (decide (c<e)) (M7 d c fun m=>(0<=(0:Int)/\(0:Int)<=c/\c<=(a.length:Int))/\∃l,ak 203 [vL 1 (List.drop 0 (List.take (Int.toNat c) a)),vS m] [] [vB l] []/\ay l (Fi r h [vL 1 [],vN 8] [])
 (bh .i64 (c+1)/\Lp f156 0 (EG d e (c+1) g a i j k b) 0 r h))
 (∃f,ak 217 [vL 1 a] [] [.own 0 0 1 f] []/\(0<=(a.length:Int)/\(a.length:Int)<=(b.length:Int)/\(b.length:Int)<=(b.length:Int))/\(f++(List.drop (Int.toNat (a.length:Int)) (List.take b.length b))).length*16<=2^47/\Fi r h [.own 0 0 1 (f++(List.drop (Int.toNat (a.length:Int)) (List.take b.length b))),vN 0] [])):
  Lp f156 0 (EG d e c g a i j k b) 0 r h:=.of aac H
def th(a:Rw)(b c:Int)(d e:Rw)(f g i j k:Int)(l:Rw)(m n o p q:Int)(s:Rw):St:=⟨aM 53 [(0,.aA 0 0),(4,.aA 1 0),(6,.aA 2 0),(29,vL 5 a),(30,vN b),(31,vN c)],[],[.cells [vL 6 d,vL 1 e],K6 f g i j k l,K6 m n o p q s]⟩
def aae:bq:={an:=[(11,1,ah),(15,1,{take:=true}),(15,6,{take:=true})],cut:=[(10,{bl:=[0,4,6,29,30,31]})]}
def agl(b c:Rw)(d:Int)(e f:By)(g:Int)(a:Rw){r h}(H:ay (d==4) (∃i j k l m n o,ak 222 [.aA 0 0,.agg [N d,S e,S f,U g,L 5 a]] [.cells [vL 6 b,vL 1 c]] [.agg [N i,N j,N k,U l,U m,L 6 n],vN o] [.cells [vL 6 b,vL 1 c]]/\Fi r h [.agg [N i,N j,N k,U l,U m,L 6 n],vN o] [.cells [vL 6 b,vL 1 c]])
 (ay (d==1) (Lp f157 0 (th a (a.length:Int) 0 b c 0 0 0 0 0 [] 4 0 0 0 0 []) 1 r h)
 (ay (d==2) (Lp f157 0 (th a (a.length:Int) 0 b c 0 0 0 0 0 [] 3 0 0 0 0 []) 1 r h)
 (Lp f157 0 (th a (a.length:Int) 0 b c 0 0 0 0 0 [] 2 0 0 0 0 []) 1 r h)))):
  ak 157 [.aA 0 0,.agg [N d,S e,S f,U g,L 5 a]] [.cells [vL 6 b,vL 1 c]] r h:=.of func157 aae H
def Rh(e:Rw)(f c:Int)(a b:Rw)(u v w x y:Int)(z:Rw)(g i j k l:Int)(d:Rw){r h}(H:ay (decide (c<f)) (bu e c fun D E G I J=>∃m n o p q s t,ak 157 [.aA 0 0,.agg [N D,S E,S G,U I,L 5 J]] [.cells [vL 6 a,vL 1 b]] [.agg [N m,N n,N o,U p,U q,L 6 s],vN t] [.cells [vL 6 a,vL 1 b]]/\ay (t !=0) (Fi r h [.agg [N 0,N 0,N 0,U 0,U 0,L 6 []],vN t] [.cells [vL 6 a,vL 1 b]])
 ((d++([[N m,N n,N o,U p,U q,L 6 s]]:Rw)).length*64<=2^47/\bh .i64 (c+1)/\Lp f157 0 (th e f (c+1) a b u v w x y z g i j k l (d++([[N m,N n,N o,U p,U q,L 6 s]]:Rw))) 1 r h))
 (Fi r h [.agg [N g,N i,N j,U k,U l,L 6 d],vN 0] [.cells [vL 6 a,vL 1 b]])):
  Lp f157 0 (th e f c a b u v w x y z g i j k l d) 1 r h:=.of aae H
def agm:bq:={an:=[(1,3,ah),(2,3,fy),(2,5,{fb:=some [3]}),(2,6,ah),(2,8,fg),(2,9,ah),(2,12,{fb:=some [4]}),(6,7,ah),(6,8,ah),(10,7,ah),(10,8,ah)]}
def agn(a b:Rw)(n:Int)(j o:By)(p:Int)(c:Rw){r h}(H:bu c 0 fun q X s Y t=>∃d,ak 267 [vL 1 b,vS s] [] [vN d] []/\∃e,ak 280 [vS j] [] [vN e] []/\ay (decide (d<0)) (Fi r h [.agg [N 0,N 0,N 0,U 0,U 0,L 6 []],vN 7] [.cells [vL 6 a,vL 1 b]])
 (ay (q==6) (bu t 0 fun u v w x y=>∃k f,ak 281 [vL 6 a,.agg [N u,S v,S w,U x,L 5 y]] [] [vU k,vN f] []/\ay (f !=0) (Fi r h [.agg [N 0,N 0,N 0,U 0,U 0,L 6 []],vN f] [.cells [vL 6 a,vL 1 b]])
 (bu c 1 fun z D E G I=>∃l g,ak 281 [vL 6 a,.agg [N z,S D,S E,U G,L 5 I]] [] [vU l,vN g] []/\ay (g !=0) (Fi r h [.agg [N 0,N 0,N 0,U 0,U 0,L 6 []],vN g] [.cells [vL 6 a,vL 1 b]])
 (Fi r h [.agg [N 5,N d,N e,U k,U l,L 6 []],vN 0] [.cells [vL 6 a,vL 1 b]])))
 (bu c 1 fun J K M Q T=>∃m i,ak 281 [vL 6 a,.agg [N J,S K,S M,U Q,L 5 T]] [] [vU m,vN i] []/\ay (i !=0) (Fi r h [.agg [N 0,N 0,N 0,U 0,U 0,L 6 []],vN i] [.cells [vL 6 a,vL 1 b]])
 (Fi r h [.agg [N 5,N d,N e,U 18446744073709551615,U m,L 6 []],vN 0] [.cells [vL 6 a,vL 1 b]])))):
  ak 222 [.aA 0 0,.agg [N n,S j,S o,U p,L 5 c]] [.cells [vL 6 a,vL 1 b]] r h:=.of func222 agm H
def ago:bq:={an:=[(1,2,ah)]}
def agp(b:By){r h}(H:∃a,ak 267 [vL 1 [[S [61,61]],[S [33,61]],[S [60]],[S [60,61]],[S [62]],[S [62,61]]],vS b] [] [vN a] []/\bh .i64 ((1:Int)+a)/\Fi r h [vN ((1:Int)+a)] []):
  ak 280 [vS b] [] r h:=.of func280 ago H
inductive Cn where
 |mk (kind arg op mask value:Int) (kids:List Cn)
mutual
def Cn.row:Cn->List PV
 |.mk k a o m v l=>[N k,N a,N o,U m,U v,L 6 (dx l)]
def dx:List Cn->Rw
 |[]=>[]
 |e::l=>e.row::dx l
end
def Cn.kind:Cn->Int|.mk k _ _ _ _ _=>k
def Cn.arg:Cn->Int|.mk _ a _ _ _ _=>a
def Cn.op:Cn->Int|.mk _ _ o _ _ _=>o
def Cn.mask:Cn->Int|.mk _ _ _ m _ _=>m
def Cn.value:Cn->Int|.mk _ _ _ _ v _=>v
def Cn.kids:Cn->List Cn|.mk _ _ _ _ _ l=>l
def dR:∀(l:List Cn),dx l=l.map Cn.row
 |[]=>rfl
 |e::l=>by rw[dx,dR l];rfl
def Cn.cD(e:Cn):e.row=[N e.kind,N e.arg,N e.op,U e.mask,U e.value,L 6 (dx e.kids)]:=by cases e;rfl
abbrev Bf(c:Cn):AV:=.agg [N c.kind,N c.arg,N c.op,U c.mask,U c.value,L 6 (dx c.kids)]
def zz:Cn:=.mk 0 0 0 0 0 []
def opN(s:By):Int:=1+idx (s == ·) ops
def agq(s:By):ak 280 [vS s] [] [vN (opN s)] []:=by
 have:=JX (p:=(s == ·)) ops
 have:=yQ (s == ·) ops
 have:ops.length=6:=rfl;exact agp s ⟨_,P8 s ops (by decide),aB,fi⟩
def xp(a:List dT)(i o mask:Int)(y:Ex):Cn×Int:=bif(fO a y).2 !=0 then(zz,(fO a y).2)else(.mk 5 i o mask (fO a y).1 [],0)
def sN(a:List dT)(ps:List By):Ex->Cn×Int
 |.mk _ o _ _ (x::y::_)=>bif decide (idx (x.name == ·) ps<0)then(zz,7)else
  bif x.kind==6 then(bif(fO a (lZ x 0)).2 !=0 then(zz,(fO a (lZ x 0)).2)else xp a (idx (x.name == ·) ps) (opN o) (fO a (lZ x 0)).1 y)else xp a (idx (x.name == ·) ps) (opN o) 18446744073709551615 y
 |_=>(zz,7)
mutual
def gF(a:List dT)(ps:List By):Ex->Cn×Int
 |.mk k o n v l=>bif k==4 then sN a ps (.mk k o n v l)else oI a ps l [] (bif k==1 then 4 else bif k==2 then 3 else 2)
def oI(a:List dT)(ps:List By):List Ex->List Cn->Int->Cn×Int
 |[],b,k=>(.mk k 0 0 0 0 b,0)
 |x::t,b,k=>bif(gF a ps x).2 !=0 then(zz,(gF a ps x).2)else oI a ps t (b++[(gF a ps x).1]) k
end
def TW{o n:By}{v:Int}{l:List Ex}(h:cz (.mk 4 o n v l)=true):∃x y,l=[x,y]/\n=[]/\v=0/\ki o ops=true/\jF x=true/\gN y=true:=by
 match l,h with
 |[x,y],h=>
  obtain⟨-,h⟩:=cd (b:=(4:Int)==4) (show(bif(4:Int)==4 then(bif ib (.mk 4 o n v [x,y])then(bif ki o ops then(bif jF x then gN y else false)else false)else false)else false)=true from h)
  obtain⟨a,h⟩:=cd h;obtain⟨c,h⟩:=cd h;obtain⟨d,e⟩:=cd h;obtain⟨o',g,i,f⟩:=sb a;obtain⟨-,-,rfl,rfl,-⟩:=Ex.mk.inj f;exact⟨x,y,rfl,rfl,rfl,c,d,e⟩
def J1{e:Ex}(h:cz e=true)(b:(e.kind==4)=false):∀x∈e.kids,cz x=true:=by
 obtain⟨k,o,n,v,l⟩:=e;have f:(k==4)=false:=b;clear b;match l,h with
 |[x,y],h=>
  simp only[cz,f,af]at h;obtain⟨-,h⟩:=cd h;obtain⟨-,h⟩:=cd h;obtain⟨c,d⟩:=cd h;intro z a;rcases aU.1 a with rfl|a
  .exact c
  .rw[cE.1 a];exact d
 |[x],h=>
  simp only[cz]at h;obtain⟨-,h⟩:=cd h;obtain⟨-,h⟩:=cd h;intro z a;rw[cE.1 a];exact h
def Ri{e:Ex}(h:jF e=true)(a:(e.kind==6)=true):∃x,e.kids=[x]/\eZ x=true:=by
 unfold jF at h;cases h1:dQ e
 .rw[h1]at h
  cases h2:ia e
  .rw[h2]at h;simp at h
  .rw[h2]at h
   obtain⟨-,h⟩:=cd (show(bif bK e.name then eZ (lZ e 0)else false)=true from h)
   obtain⟨n,x,rfl⟩:=v7 h2;exact⟨x,rfl,h⟩
 .obtain⟨n,rfl⟩:=oG h1
  simp[Ex.kind]at a
structure DOK (ds:List dT) (ps:List By):Prop where
 dl:ds.length<=2^40
 ds:∀d∈ds,tf d.ex
 ps:ps.length<=2^40
abbrev bb(a:List dT)(ps:List By):Bx:=.cells [vL 6 (a.map dT.row),vL 1 (aR ps)]
def ags(a:List dT)(ps:List By)(b:DOK a ps)(e:Ex)(q:(e.kind==4)=true)(p:cz e=true)(s:tf e):ak 222 [.aA 0 0,oE e] [bb a ps] [Bf (sN a ps e).1,vN (sN a ps e).2] [bb a ps]:=by
 obtain⟨k,o,n,v,l⟩:=e;obtain rfl:k=4:=eq_of_beq q;obtain⟨x,y,rfl,rfl,rfl,-,t,E⟩:=TW p;have m:=ft s.2.2.2;have u:=m x (by simp)
 have w:=m y (by simp)
 have g:=Z6 a y b.dl b.ds w;have fin:∀(i o mask:Int),ay ((fO a y).2 !=0) (Fi [Bf (xp a i o mask y).1,vN (xp a i o mask y).2] [bb a ps] [.agg [N 0,N 0,N 0,U 0,U 0,L 6 []],vN (fO a y).2] [bb a ps]) (Fi [Bf (xp a i o mask y).1,vN (xp a i o mask y).2] [bb a ps] [.agg [N 5,N i,N o,U mask,U (fO a y).1,L 6 []],vN 0] [bb a ps]):=
  fun i o mask=>ae (fun h=>ai (by rw[xp,h];rfl) rfl) fun h=>ai (by rw[xp,h];rfl) rfl
 apply agn;refine⟨x.kind,x.op,x.name,x.num,bw x.kids,by omega,by rw[<-Ex.cD];rfl,_,P8 x.name ps b.ps,_,agq o,ae (fun h=>ai (by simp only[sN,h];rfl) rfl) fun c=>ae (fun h=>?_) fun h=>?_⟩
 .obtain⟨z,f,D⟩:=Ri t h
  have j:lZ x 0=z:=by rw[lZ,f];rfl
  have r:=ft ((mN x).1 u).2.2.2 z (by rw[f];simp)
  refine⟨z.kind,z.op,z.name,z.num,bw z.kids,by omega,by rw[f,<-Ex.cD];rfl,_,_,Z6 a z b.dl b.ds r,ae (fun d=>ai ?_ rfl) fun d=>⟨y.kind,y.op,y.name,y.num,bw y.kids,by omega,by rw[<-Ex.cD];rfl,_,_,g,?_⟩⟩
  .simp only[sN,c,h,j,d];rfl
  .simp only[sN,c,h,j,d,aj,af]
   exact fin _ _ _
 .refine⟨y.kind,y.op,y.name,y.num,bw y.kids,by omega,by rw[<-Ex.cD];rfl,_,_,g,?_⟩
  simp only[sN,c,h,af];exact fin _ _ _
def aag(a:List dT)(ps:List By)(s:DOK a ps):∀(d:Nat)(e:Ex),bJ e<=d->cz e=true->tf e->ak 157 [.aA 0 0,oE e] [bb a ps] [Bf (gF a ps e).1,vN (gF a ps e).2] [bb a ps]
 |0,e,h,_,_=>by rw[cW]at h;omega
 |d+1,e,h,q,u=>by
  have y:=(mN e).1 u;have loop:∀(k:Int),(e.kind==4)=false->Lp f157 0 (th (bw e.kids) (bw e.kids).length 0 (a.map dT.row) (aR ps) 0 0 0 0 0 [] k 0 0 0 0 []) 1 [Bf (oI a ps e.kids [] k).1,vN (oI a ps e.kids [] k).2] [bb a ps]:=by
   intro k b;have key:∀(t:List Ex)(i:Nat)(f:List Cn),e.kids.drop i=t->f.length<=i->Lp f157 0 (th (bw e.kids) e.kids.length i (a.map dT.row) (aR ps) 0 0 0 0 0 [] k 0 0 0 0 (dx f)) 1 [Bf (oI a ps t f k).1,vN (oI a ps t f k).2] [bb a ps]:=by
    intro t;induction t with
    |nil=>intro i f m _;apply Rh;exact aT (l:=e.kids) rfl m (ai (by rw[oI];rfl) rfl)
    |cons x t w=>
     intro i f m r;obtain⟨g,j,z⟩:=drop_cons m;have o:=aK g;have D:=ep x o;rw[cW e]at h;have c:=aag a ps s d x (by omega) (J1 q b x o) (ft y.2.2.2 x o)
     have p:dx f++([[N (gF a ps x).1.kind,N (gF a ps x).1.arg,N (gF a ps x).1.op,U (gF a ps x).1.mask,U (gF a ps x).1.value,L 6 (dx (gF a ps x).1.kids)]]:Rw)=dx (f++[(gF a ps x).1]):=by
      rw[dR f,dR (f++[(gF a ps x).1]),cg,<-Cn.cD];rfl
     apply Rh;refine aO (l:=e.kids) rfl m ⟨x.kind,x.op,x.name,x.num,bw x.kids,by omega,by rw[db,<-Ex.cD];exact aY g,_,_,_,_,_,_,_,c,ae (fun n=>ai (by rw[oI,n];rfl) rfl) fun n=>⟨?_,aB,?_⟩⟩
     .rw[p,dR];simp;omega
     .rw[p,oI,n]
      exact w (i+1) _ j (by simp;omega)
   rw[show(bw e.kids).length=e.kids.length by rw[db,ao]]
   exact key e.kids 0 [] rfl (by simp)
  apply agl;have v:gF a ps e=bif e.kind==4 then sN a ps e else oI a ps e.kids [] (bif e.kind==1 then 4 else bif e.kind==2 then 3 else 2):=by cases e;rfl
  rw[v];exact ae (fun b=>⟨_,_,_,_,_,_,_,ags a ps s e b q u,ai (by rw[b];rfl) rfl⟩) fun b=>ae (fun g=>by rw[b,g];exact loop 4 b) fun g=>ae (fun j=>by rw[b,g,j];exact loop 3 b) fun j=>by rw[b,g,j];exact loop 2 b
def Bg:List By->List By->Bool
 |[],_=>false
 |x::t,pre=>bif ki x pre then true else Bg t (pre++[x])
def dv(r:gC)(c:Cl):List By×Int:=
 bif decide ((r.params.length:Int)>(c.params.length:Int))then([],9)else bif Bg r.params []then([],8)else(r.params++c.params.drop r.params.length,0)
def agt(r:gC)(c:Cl)(h:BX r)(o:c.params.length<=2^40):ak 156 [qX r,Z5 c] [] [vL 1 (aR (dv r c).1),vN (dv r c).2] []:=by
 have e:(aR r.params).length=r.params.length:=ao ..;have g:(aR c.params).length=c.params.length:=ao ..;have p:=h.pl;have f:List.drop (Int.toNat ((aR r.params).length:Int)) (List.take (aR c.params).length (aR c.params))=aR (c.params.drop r.params.length):=by
  rw[eU (ar _),toNat_cast,e,aR,aR,od]
 cases h1:decide ((r.params.length:Int)>(c.params.length:Int))
 .have hlen:=bH h1
  have key:∀(t:List By)(i:Nat),r.params.drop i=t->Lp f156 0 (EG (aR r.params) r.params.length i r.call (aR r.params) (r.cond.map Ex.row) c.name c.nr (aR c.params)) 0
    (bif Bg t (r.params.take i)then[vL 1 [],vN 8]else[.own 0 0 1 (aR (r.params++c.params.drop r.params.length)),vN 0]) []:=by
   intro t;induction t with
   |nil=>
    intro i b;apply Rg;refine aT (l:=r.params) rfl b ⟨_,YY (aR r.params) (by omega),⟨by omega,by omega,by omega⟩,?_,ai ?_ rfl⟩
    .rw[f];simp[aR];omega
    .rw[f];simp[aR,Bg]
   |cons x t m=>
    intro i b;obtain⟨a,k,n⟩:=drop_cons b;have j:List.drop 0 (List.take (Int.toNat (i:Int)) (aR r.params))=aR (r.params.take i):=by rw[gq,toNat_cast,aR,aR,iQ]
    apply Rg;refine aO (l:=r.params) rfl b ⟨x,by omega,aY a,⟨by omega,by omega,by omega⟩,_,by rw[j];exact TO x (r.params.take i) (by simp;omega),ae (fun d=>ai (by rw[Bg,d];rfl) rfl) fun d=>⟨aB,?_⟩⟩
    have:=m (i+1) k;rw[hL,a]at this;rw[Bg,d];exact this
  have w:ak 156 [qX r,Z5 c] [] (bif Bg r.params []then[vL 1 [],vN 8]else[.own 0 0 1 (aR (r.params++c.params.drop r.params.length)),vN 0]) []:=by
   apply aad;rw[e,g];exact aW h1 (key r.params 0 rfl)
  rw[dv,h1];cases a:Bg r.params []
  .rw[a]at w;exact Go.Ac.ak.soft w rfl
  .rw[a]at w;exact w
 .apply aad
  rw[e,g];exact bF h1 (ai (by rw[dv,h1];rfl) rfl)
structure Bd where
 nr:Int
 act:Act
 cond:Cn
def Bd.row(b:Bd):List PV:=W b.nr::N b.act.kind::N b.act.data::b.cond.row
def bdC(b:Bd):List PV:=[W b.nr,N b.act.kind,N b.act.data,N b.cond.kind,N b.cond.arg,N b.cond.op,U b.cond.mask,U b.cond.value,L 6 (dx b.cond.kids)]
def Bd.cD(b:Bd):b.row=bdC b:=by rw[Bd.row,Cn.cD];rfl
abbrev bdA(b:Bd):AV:=.agg [W b.nr,N b.act.kind,N b.act.data,N b.cond.kind,N b.cond.arg,N b.cond.op,U b.cond.mask,U b.cond.value,L 6 (dx b.cond.kids)]
def TX:Bd:=⟨0,⟨0,0⟩,zz⟩
def rh(b:List dT)(ps:List By)(nr:Int)(a:Act):List Ex->Cn->Bd×Int
 |[],c=>(⟨nr,a,c⟩,0)
 |x::t,_=>bif(gF b ps x).2 !=0 then(TX,(gF b ps x).2)else rh b ps nr a t (gF b ps x).1
def fH(u:eW)(aq:By)(r:gC)(a:Act):Bd×Int:=match fa aq r.call with
 |none=>(TX,7)
 |some c=>bif(dv r c).2 !=0 then(TX,(dv r c).2)else rh u.aG (dv r c).1 c.nr a r.cond (.mk 1 0 0 0 0 [])
def Rj{aq name:By}{c:Cl}(h:fa aq name=some c):c.params.length<=6:=by
 have b:=kS h;have g:∀j l,(∀r∈l,(je r.params).length<=6)->∀c∈jZ j l,c.params.length<=6:=by
  intro j l;induction l with
  |nil=>intro _ c a;simp[jZ]at a
  |cons r l f=>
   intro d c a;unfold jZ at a;cases hz:r.nr j != -1<;>rw[hz]at a
   .exact f (fun r e=>d r (aP _ e)) c a
   .rcases aU.1 a with rfl|a
    .exact d r aS
    .exact f (fun r e=>d r (aP _ e)) c a
 unfold ra at b;cases hz:decide (idx (aq == ·) mP<0)<;>rw[hz]at b
 .exact g _ lp (by decide) c b
 .simp at b
def Ha(r:gC)(c:Cl)(h:r.params.length<=2^39)(a:c.params.length<=6):(dv r c).1.length<=2^40:=by
 unfold dv;cases decide ((r.params.length:Int)>(c.params.length:Int))
 .cases Bg r.params []
  .simp;omega
  .simp
 .simp
def agu(u:eW)(aq:By)(r:gC)(a:Act)(n:q8 u)(f:BX r)(s:∀e∈r.cond,cz e=true):
  ak 105 [sC u,vS aq,qX r,Bc a] [] [bdA (fH u aq r a).1,vN (fH u aq r a).2] []:=by
 apply agk;refine⟨_,_,_,_,af6 aq r.call,?_⟩;cases hc:fa aq r.call with
 |none=>exact bF rfl (ai (by rw[fH,hc];rfl) rfl)
 |some c=>
  have q:=Rj hc;have w:=Ha r c f.pl q;refine aW rfl ⟨_,_,agt r c f (by omega),ae (fun g=>ai (by rw[fH,hc];simp only[g];rfl) rfl) fun g=>?_⟩
  have k:DOK u.aG (dv r c).1:=⟨n.dl,fun d k=>(n.aG d k).2,w⟩
  have h:=f.cl;have key:∀(t:List Ex)(i:Nat)(z:Cn),r.cond.drop i=t->Lp f105 0 (EF (aR (dv r c).1) (r.cond.map Ex.row) r.cond.length i (u.aG.map dT.row) (u.aD.map dP.row) (aR u.main) u.bZ.kind u.bZ.data 0 0 0 0 0 0 0 0 [] c.nr a.kind a.data z.kind z.arg z.op z.mask z.value (dx z.kids)) 0
    [bdA (rh u.aG (dv r c).1 c.nr a t z).1,vN (rh u.aG (dv r c).1 c.nr a t z).2] []:=by
   intro t;induction t with
   |nil=>intro i z b;apply Rf;exact aT (l:=r.cond) rfl b fi
   |cons x t v=>
    intro i z b;obtain⟨m,p,y⟩:=drop_cons b;have o:=aK m;apply Rf;refine aO (l:=r.cond) rfl b ⟨x.kind,x.op,x.name,x.num,bw x.kids,by omega,by rw[<-Ex.cD];exact aY m,_,_,_,_,_,_,_,aag _ _ k _ x (ar _) (s x o) (f.cond x o).1,ae (fun j=>ai (by rw[rh,j];rfl) rfl) fun j=>⟨aB,?_⟩⟩
    rw[rh,j];exact v (i+1) _ p
  rw[fH,hc];simp only[g,af];rw[ao];exact key r.cond 0 (.mk 1 0 0 0 0 []) rfl
def j8(u:eW)(aq:By)(a:Act):List gC->List Bd->Except Int (List Bd)
 |[],b=>.ok b
 |r::t,b=>bif(fH u aq r a).2 !=0 then .error (fH u aq r a).2 else j8 u aq a t (b++[(fH u aq r a).1])
def kL(u:eW)(aq:By):List dr->List Bd->Except Int (List Bd)
 |[],a=>.ok a
 |p::t,a=>match j8 u aq p.act p.bj a with
  |.error e=>.error e
  |.ok o=>kL u aq t o
def er(u:eW)(aq:By):Except Int (List Bd):=
 bif !(dg aq).2 then .error 1 else bif !iK u then .error 1 else match tg u.aG with
  |.error (_,e)=>.error e
  |.ok _=>match nG u.aD u.main with
   |.error e=>.error e
   |.ok l=>kL u aq l []
def XG:Except Int (List Bd)->List AV
 |.error e=>[vL 9 [],vN e]
 |.ok l=>[.own 0 0 9 (l.map Bd.row),vN 0]
def agv:Except Int (List Bd)->List AV
 |.error e=>[vL 9 [],vN e]
 |.ok l=>[vL 9 (l.map Bd.row),vN 0]
structure PB (x:dr):Prop where
 sm:wS x
 bool:∀r∈x.bj,∀e∈r.cond,cz e=true
def TY{x:dr}(k:wS x)(c:kq x=true)(l:x.use=[]):PB x:=by
 refine⟨k,fun r j e i=>?_⟩
 unfold kq at c;rw[l]at c;have d:=(cd (show(bif(bV x.act).2 then x.bj.all ln else false)=true from c)).2
 have f:=bf.1 d r j;have a:=(cd (b:=bK r.call) f).2;cases h4:(bif !(r.params.all bK)then true else decide ((r.cond.length:Int)>1))<;>rw[h4]at a
 .have g:=bf.1 a e i
  exact(cd (b:=cz e) g).1
 .simp at a
def Hb(u:eW)(aq:By)(a:Act):∀(t:List gC)(b o:List Bd),j8 u aq a t b = .ok o->o.length=b.length+t.length
 |[],b,o,h=>by simp[j8]at h;simp[h]
 |r::t,b,o,h=>by
  unfold j8 at h;cases hz:(fH u aq r a).2 !=0<;>rw[hz]at h
  .have:=Hb u aq a t _ o h
   simp at this⊢;omega
  .simp at h
def B0{l:List dT}{i e:Int}(h:tg l = .error (i,e)):(e !=0)=true:=by
 have:∀(l:List dT)(j:Int)(a:List Int)(m:List Kn),l0 l j a m = .error (i,e)->(e !=0)=true:=by
  intro l;induction l with
  |nil=>intro j a m h;simp[l0]at h
  |cons d t b=>
   intro j a m h;unfold l0 at h;cases hg:fW (·.1) m d.name with
   |some y=>rw[hg]at h;simp at h;rw[<-h.2];rfl
   |none=>
    rw[hg]at h;simp only at h;cases hz:(iL m d.ex).2 !=0<;>rw[hz]at h
    .exact b _ _ _ h
    .simp at h;rw[<-h.2];exact hz
 exact this l 0 [] [] h
def Hc{ps:List dP}{names:List By}{e:Int}(h:nG ps names = .error e):(e !=0)=true:=by
 unfold nG at h;cases hd:J0 ps []<;>rw[hd]at h
 .simp only[af]at h
  cases hz:(gO ps names ⟨[],[],[]⟩).1 !=0<;>rw[hz]at h
  .simp at h
  .simp at h;rw[<-h];exact hz
 .simp at h;rw[<-h];rfl
def TZ{ps:List dP}{names:List By}{l:List dr}(b:∀p∈ps,∀x∈p.aV,x.use=[]->PB x)(h:nG ps names = .ok l):(∀x∈l,PB x)/\l.length<=500:=by
 unfold nG at h;cases hd:J0 ps []<;>rw[hd]at h
 .simp only[af]at h
  cases hz:(gO ps names ⟨[],[],[]⟩).1 !=0<;>rw[hz]at h
  .simp at h
   subst h;have:=rb (Q:=PB) ps b names ⟨[],[],[]⟩ ⟨by simp,by simp,by simp⟩ (by simpa using hz)
   refine⟨fun x c=>?_,by simpa using this.len⟩
   obtain⟨y,d,rfl⟩:=bg.1 c;have a:=this.eX y d;exact⟨⟨by simp[nV],a.sm.rl,a.sm.bj⟩,a.bool⟩
  .simp at h
 .simp at h
def C79(u:eW)(aq:By)(c:q8 u):ak 79 [sC u,vS aq] [] (agv (er u aq)) []:=by
 have key:∀(l:List dr),(∀x∈l,PB x)->l.length<=500->∀(t:List dr)(j:Nat)(k:List Bd),l.drop j=t->k.length<=j*2^20 ->
   Lp f79 0 (Lr aq (k.map Bd.row) (l.map dr.row) l.length j (u.aG.map dT.row) (u.aD.map dP.row) (aR u.main) u.bZ.kind u.bZ.data) 0 (XG (kL u aq t k)) []:=by
  intro l D a0 t;induction t with
  |nil=>intro j k h _;apply Vq;exact aT (l:=l) rfl h fi
  |cons p t Z=>
   intro j k h R;obtain⟨f,g,K⟩:=drop_cons h;have a:=D p (aK f);have a1:=a.sm.rl;have inner:∀(s:List gC)(i:Nat)(z:List Bd),p.bj.drop i=s->z.length+s.length<=j*2^20+p.bj.length ->
     Lp f79 1 (Ls aq (z.map Bd.row) (l.map dr.row) l.length j (p.bj.map gC.row) p.bj.length i (u.aG.map dT.row) (u.aD.map dP.row) (aR u.main) u.bZ.kind u.bZ.data p.use p.act.kind p.act.data (p.bj.map gC.row)) 0
      (XG (match j8 u aq p.act s z with|.error e=>.error e|.ok o=>kL u aq t o)) []:=by
    intro s;induction s with
    |nil=>
     intro i z n I;have:=drop_nil n;apply Vr;exact aT (l:=p.bj) rfl n ⟨aB,Z (j+1) z g (by
      have e:(j+1)*2^20=j*2^20+2^20:=by rw[bY,cN]
      simp only[cO]at I;omega)⟩
    |cons r s A=>
     intro i z n I;obtain⟨Q,F,k3⟩:=drop_cons n;simp only[aC]at I;have E:=aK Q;apply Vr;refine aO (l:=p.bj) rfl n ⟨r.call,aR r.params,r.cond.map Ex.row,by omega,aY Q,_,_,_,_,_,_,_,_,_,_,agu u aq r p.act c (a.sm.bj r E) (a.bool r E),ae (fun m=>ai (by rw[j8,m];rfl) rfl) fun m=>⟨by simp;omega,aB,?_⟩⟩
     have:=A (i+1) (z++[(fH u aq r p.act).1]) F (by simp;omega)
     rw[j8,m];rw[cg (l₁:=z),show[(fH u aq r p.act).1].map Bd.row=[bdC (fH u aq r p.act).1] by rw[<-Bd.cD];rfl]at this
     exact this
   apply Vq;refine aO (l:=l) rfl h ⟨p.use,p.act.kind,p.act.data,p.bj.map gC.row,by omega,aY f,?_⟩
   simp only[ao];exact inner p.bj 0 k rfl (by omega)
 have w:ak 79 [sC u,vS aq] [] (XG (er u aq)) []:=by
  apply W79;refine⟨_,_,C81 aq,ae (fun f=>ai (by rw[er,f];rfl) rfl) fun f=>⟨_,afV u c,ae (fun g=>ai (by rw[er,f,g];rfl) rfl) fun g=>?_⟩⟩
  have E:iK u=true:=by simpa using g
  rw[er,f,g];simp only[af];have y:=af8 u.aG c.dl fun d Y=>(c.aG d Y).2
  have M:∀p∈u.aD,∀x∈p.aV,x.use=[]->PB x:=by
   intro p a x G J;have K:=(cd (show(bif u.aG.all Be then(bif(bif u.aD.all xo then decide ((u.main.length:Int)>0)else false)then(bif u.main.all bK then(bV u.bZ).2 else false)else false)else false)=true from E)).2
   have T:=(cd (cd K).1).1;have m:=bf.1 T p a;have X:=(cd (b:=bK p.name) m).2;exact TY ((c.aD p a).aV x G) (bf.1 X x G) J
  cases ht:tg u.aG with
  |error q=>
   rw[ht]at y;obtain⟨i,e⟩:=q;have H:(e !=0)=true:=B0 ht;exact⟨_,_,_,y,bF H fi⟩
  |ok q=>
   rw[ht]at y;refine⟨_,_,_,y,aW rfl ?_⟩;have v:=agi u.aD u.main (fun p a x G J=>(M p a x G J).sm) (fun p a=>(c.aD p a).pl) c.pl c.ml
   simp only;cases hf:nG u.aD u.main with
   |error e=>
    rw[hf]at v;have H:(e !=0)=true:=Hc hf;exact⟨_,_,v,bF H fi⟩
   |ok l=>
    rw[hf]at v;have D:=TZ M hf;refine⟨_,_,v,aW rfl ?_⟩;rw[ao];exact key l D.1 D.2 l 0 [] rfl (by simp)
 cases ht:er u aq with
 |error p=>rw[ht]at w;exact w
 |ok p=>rw[ht]at w;exact Go.Ac.ak.soft w rfl
def agw:bq:={an:=[(1,1,ah)]}
def agx(b c d e f:Int)(a:Rw){r h}(H:∃g,ak 336 [.agg [N b,N c,N d,U e,U f,L 6 a]] [] [vB g] []/\ay g (∃i,ak 337 [vL 6 a,.fn (.func 338) [] []] [] [vB i] []/\Fi r h [vB (!i)] []) (Fi r h [vB false] [])):
  ak 283 [.agg [N b,N c,N d,U e,U f,L 6 a]] [] r h:=.of func283 agw H
def agy:bq:={an:=[(1,3,aa),(1,4,aa),(1,7,aa),(1,8,aa),(1,11,aa),(1,12,aa)]}
def agz(a b:Int){r h}(H:Fi r h [vB (bif(bif(bif(decide (a>=0))then(decide (a<=5))else false)then(decide (b>=1))else false)then(decide (b<=6))else false)] []):
  ak 286 [vN a,vN b] [] r h:=.of func286 agy H
def agA:bq:={an:=[(4,9,ah)]}
def agB(a b c d e:Int)(f:Rw){r h}(H:ay (a==5) (ay ((f.length:Int)==0) (∃g,ak 286 [vN b,vN c] [] [vB g] []/\Fi r h [vB g] []) (Fi r h [vB false] []))
 (ay (a==1) (ay ((f.length:Int)==0) (Fi r h [vB ((((true&&(b==0))&&(c==0))&&(d==0))&&(e==0))] []) (Fi r h [vB false] []))
 (ay (a==2) (ay ((f.length:Int)==1) (Fi r h [vB ((((true&&(b==0))&&(c==0))&&(d==0))&&(e==0))] []) (Fi r h [vB false] []))
 (ay (a==3) (Fi r h [vB ((((true&&(b==0))&&(c==0))&&(d==0))&&(e==0))] [])
 (ay (a==4) (Fi r h [vB ((((true&&(b==0))&&(c==0))&&(d==0))&&(e==0))] [])
 (Fi r h [vB false] [])))))):
  ak 336 [.agg [N a,N b,N c,U d,U e,L 6 f]] [] r h:=.of func336 agA H
def agC:bq:={an:=[(1,1,ah)]}
def agD(a b c d e:Int)(f:Rw){r h}(H:∃g,ak 283 [.agg [N a,N b,N c,U d,U e,L 6 f]] [] [vB g] []/\Fi r h [vB (!g)] []):
  ak 338 [.agg [N a,N b,N c,U d,U e,L 6 f]] [] r h:=.of func338 agC H
def agE:bq:={an:=[(1,1,ah),(3,1,ah)]}
def agF(a b c d e:Int)(f:Rw){r h}(H:∃g,ak 283 [.agg [N a,N b,N c,U d,U e,L 6 f]] [] [vB g] []/\ay (!g) (Fi r h [.agg [N 4,N 0,N 0,U 0,U 0,L 6 []]] [])
 (∃i j k l m n,ak 284 [.agg [N a,N b,N c,U d,U e,L 6 f],vB true] [] [.agg [N i,N j,N k,U l,U m,L 6 n]] []/\Fi r h [.agg [N i,N j,N k,U l,U m,L 6 n]] [])):
  ak 224 [.agg [N a,N b,N c,U d,U e,L 6 f]] [] r h:=.of func224 agE H
def agG:bq:={an:=[(2,3,ah),(2,6,ah),(3,4,aa),(3,5,aa),(5,4,aa),(5,5,aa),(6,3,ah),(7,4,aa),(7,5,aa),(9,4,aa),(9,5,aa),(11,3,ah)]}
def agH(b d e f g:Int)(c:Rw)(a:Bool){r h}(H:ay (b==2) (rV c 0 fun u v w x y z=>∃i j k l m n,ak 284 [.agg [N u,N v,N w,U x,U y,L 6 z],vB (!a)] [] [.agg [N i,N j,N k,U l,U m,L 6 n]] []/\Fi r h [.agg [N i,N j,N k,U l,U m,L 6 n]] [])
 (ay (bif(b==1)then(!a)else false) (Fi r h [.agg [N 4,N 0,N 0,U 0,U 0,L 6 []]] [])
 (ay (bif(b==5)then(!a)else false) (∃o,ak 339 [vN e] [] [vN o] []/\∃p,ak 340 [vL 6 c,vB a] [] [vL 6 p] []/\Fi r h [.agg [N b,N d,N o,U f,U g,L 6 p]] [])
 (ay (bif(b==3)then(!a)else false) (∃q,ak 340 [vL 6 c,vB a] [] [vL 6 q] []/\Fi r h [.agg [N 4,N d,N e,U f,U g,L 6 q]] [])
 (ay (bif(b==4)then(!a)else false) (∃s,ak 340 [vL 6 c,vB a] [] [vL 6 s] []/\Fi r h [.agg [N 3,N d,N e,U f,U g,L 6 s]] [])
 (∃t,ak 340 [vL 6 c,vB a] [] [vL 6 t] []/\Fi r h [.agg [N b,N d,N e,U f,U g,L 6 t]] [])))))):
  ak 284 [.agg [N b,N d,N e,U f,U g,L 6 c],vB a] [] r h:=.of func284 agG H
def agI:bq:={}
def agJ(a:Int){r h}(H:ay (a==1) (Fi r h [vN 2] [])
 (ay (a==2) (Fi r h [vN 1] [])
 (ay (a==3) (Fi r h [vN 6] [])
 (ay (a==6) (Fi r h [vN 3] [])
 (ay (a==5) (Fi r h [vN 4] [])
 (Fi r h [vN 5] [])))))):
  ak 339 [vN a] [] r h:=.of func339 agI H
def EH(a:Bool)(b c:Rw)(d e:Int):St:=⟨aM 22 [(1,vB a),(5,.own 0 0 6 b),(8,vL 6 c),(9,vN d),(10,vN e)],[some 0],[]⟩
def aah:bq:={an:=[(4,1,ah),(5,3,ah)],cut:=[(3,{bl:=[1,5,8,9,10],dw:=[(5,6)],owns:=[5]})]}
def agK(a:Rw)(b:Bool){r h}(H:Lp f340 0 (EH b [] a (a.length:Int) 0) 0 r h):
  ak 340 [vL 6 a,vB b] [] r h:=.of func340 aah H
def Rk(c:Bool)(b d:Rw)(e a:Int){r h}(H:ay (decide (a<e)) (rV d a fun m n o p q s=>∃f g i j k l,ak 284 [.agg [N m,N n,N o,U p,U q,L 6 s],vB c] [] [.agg [N f,N g,N i,U j,U k,L 6 l]] []/\(b++([[N f,N g,N i,U j,U k,L 6 l]]:Rw)).length*64<=2^47/\bh .i64 (a+1)/\Lp f340 0 (EH c (b++([[N f,N g,N i,U j,U k,L 6 l]]:Rw)) d e (a+1)) 0 r h)
 (Fi r h [.own 0 0 6 b] [])):
  Lp f340 0 (EH c b d e a) 0 r h:=.of aah H
def agL:bq:={an:=[(1,1,ah),(1,2,ah)]}
def agM(a b c d e:Int)(f:Rw){r h}(H:∃g i j k l m,ak 224 [.agg [N a,N b,N c,U d,U e,L 6 f]] [] [.agg [N g,N i,N j,U k,U l,L 6 m]] []/\∃n o,ak 223 [.agg [N g,N i,N j,U k,U l,L 6 m]] [] [vL 1 n,vB o] []/\ay (!o) (Fi r h [vL 1 [],vN 9] [])
 (Fi r h [vL 1 n,vN 0] [])):
  ak 159 [.agg [N a,N b,N c,U d,U e,L 6 f]] [] r h:=.of func159 agL H
def wc(a b:Rw)(c d e f g i j:Int)(k:Rw):St:=⟨aM 47 [(1,.aA 0 0),(4,.own 0 0 1 a),(22,vL 6 b),(23,vN c),(24,vN d)],[some 0],[K10 e f g i j k]⟩
def aai:bq:={an:=[(7,0,{bA:=true}),(10,1,ah),(11,1,ah),(14,4,{fz:=true,bA:=true,cons:=[1]})],cut:=[(9,{bl:=[1,4,22,23,24],dw:=[(4,1)],owns:=[4]})]}
def agN(b c d e f:Int)(a:Rw){r h}(H:ay (b==5) (Fi r h [vL 1 [[L 4 [[N c,N d,U e,U f]]]],vB true] [])
 (ay (b==1) (Lp f223 0 (wc [[L 4 []]] a (a.length:Int) 0 b c d e f a) 0 r h)
 (ay (b==3) (Lp f223 0 (wc [[L 4 []]] a (a.length:Int) 0 b c d e f a) 0 r h)
 (Lp f223 0 (wc [] a (a.length:Int) 0 b c d e f a) 0 r h)))):
  ak 223 [.agg [N b,N c,N d,U e,U f,L 6 a]] [] r h:=.of func223 aai H
def Rl(b c:Rw)(d a e f g i j:Int)(k:Rw){r h}(H:ay (decide (a<d)) (rV c a fun p q s t u v=>∃l m,ak 223 [.agg [N p,N q,N s,U t,U u,L 6 v]] [] [vL 1 l,vB m] []/\ay (!m) (Fi r h [vL 1 [],vB false] [])
 (∃n o,ak 282 [vN e,.own 0 0 1 b,vL 1 l] [] [.own 0 0 1 n,vB o] []/\ay (!o) (Fi r h [vL 1 [],vB false] [])
 (bh .i64 (a+1)/\Lp f223 0 (wc n c d (a+1) e f g i j k) 0 r h)))
 (Fi r h [.own 0 0 1 b,vB true] [])):
  Lp f223 0 (wc b c d a e f g i j k) 0 r h:=.of aai H
def EI(a b c:Rw)(d e:Int):St:=⟨aM 39 [(1,vL 1 a),(6,.own 0 0 1 b),(17,vL 1 c),(18,vN d),(19,vN e)],[some 0],[]⟩
def EJ(a b c d:Rw)(e f:Int)(g:Rw)(i j:Int):St:=⟨aM 39 [(1,vL 1 a),(6,.own 0 0 1 b),(8,vL 5 c),(17,vL 1 d),(18,vN e),(19,vN f),(23,vL 1 g),(24,vN i),(25,vN j)],[some 0],[]⟩
def XH:bq:={an:=[(6,1,ah),(9,1,ah),(10,4,ah)],cut:=[(5,{bl:=[1,6,17,18,19],dw:=[(6,1)],owns:=[6]}),(8,{bl:=[1,6,8,17,18,19,23,24,25],dw:=[(6,1)],owns:=[6]})],rf:=true}
def agO(a b:Rw){r h}(H:bh .i64 ((a.length:Int)*(b.length:Int))/\ay (decide (((a.length:Int)*(b.length:Int))>256)) (Fi r h [.own 0 0 1 [],vB false] [])
 (Lp f225 0 (EI b [] a (a.length:Int) 0) 0 r h)):
  ak 225 [vL 1 a,vL 1 b] [] r h:=.of func225 XH H
def Rm(a c d:Rw)(e b:Int){r h}(H:ay (decide (b<e)) (vG d b fun f=>Lp f225 1 (EJ a c f d e b a (a.length:Int) 0) 0 r h)
 (Fi r h [.own 0 0 1 c,vB true] [])):
  Lp f225 0 (EI a c d e b) 0 r h:=.of XH H
def Rn(d b e f:Rw)(g c:Int)(i:Rw)(j a:Int){r h}(H:ay (decide (a<j)) (vG i a fun l=>∃k,ak 285 [vL 1 [[L 5 e],[L 5 l]]] [] [vL 5 k] []/\(b++([[L 5 k]]:Rw)).length*24<=2^47/\bh .i64 (a+1)/\Lp f225 1 (EJ d (b++([[L 5 k]]:Rw)) e f g c i j (a+1)) 0 r h)
 (bh .i64 (c+1)/\Lp f225 0 (EI d b f g (c+1)) 0 r h)):
  Lp f225 1 (EJ d b e f g c i j a) 0 r h:=.of XH H
def agP:bq:={an:=[(2,2,{fz:=true,bA:=true})]}
def agQ(c:Int)(a b:Rw){r h}(H:ay (c==3) (∃d e,ak 335 [vL 1 a,vL 1 b] [] [.own 0 0 1 d,vB e] []/\Fi r h [.own 0 0 1 d,vB e] [])
 ((a++b).length*24<=2^47/\Fi r h [.own 0 0 1 (a++b),vB (decide (((a++b).length:Int)<=256))] [])):
  ak 282 [vN c,.own 0 0 1 a,vL 1 b] [] r h:=.of func282 agP H
def EK(a b c:Rw)(d e:Int):St:=⟨aM 39 [(1,vL 1 a),(6,.own 0 0 1 b),(17,vL 1 c),(18,vN d),(19,vN e)],[some 0],[]⟩
def EL(a b c d:Rw)(e f:Int)(g:Rw)(i j:Int):St:=⟨aM 39 [(1,vL 1 a),(6,.own 0 0 1 b),(8,vL 4 c),(17,vL 1 d),(18,vN e),(19,vN f),(23,vL 1 g),(24,vN i),(25,vN j)],[some 0],[]⟩
def XI:bq:={an:=[(6,1,ah),(9,1,ah),(10,4,ah)],cut:=[(5,{bl:=[1,6,17,18,19],dw:=[(6,1)],owns:=[6]}),(8,{bl:=[1,6,8,17,18,19,23,24,25],dw:=[(6,1)],owns:=[6]})],rf:=true}
def agR(a b:Rw){r h}(H:bh .i64 ((a.length:Int)*(b.length:Int))/\ay (decide (((a.length:Int)*(b.length:Int))>256)) (Fi r h [.own 0 0 1 [],vB false] [])
 (Lp f335 0 (EK b [] a (a.length:Int) 0) 0 r h)):
  ak 335 [vL 1 a,vL 1 b] [] r h:=.of func335 XI H
def Ro(a c d:Rw)(e b:Int){r h}(H:ay (decide (b<e)) (OL d b fun f=>Lp f335 1 (EL a c f d e b a (a.length:Int) 0) 0 r h)
 (Fi r h [.own 0 0 1 c,vB true] [])):
  Lp f335 0 (EK a c d e b) 0 r h:=.of XI H
def Rq(d b e f:Rw)(g c:Int)(i:Rw)(j a:Int){r h}(H:ay (decide (a<j)) (OL i a fun l=>∃k,ak 358 [vL 1 [[L 4 e],[L 4 l]]] [] [vL 4 k] []/\(b++([[L 4 k]]:Rw)).length*24<=2^47/\bh .i64 (a+1)/\Lp f335 1 (EL d (b++([[L 4 k]]:Rw)) e f g c i j (a+1)) 0 r h)
 (bh .i64 (c+1)/\Lp f335 0 (EK d b f g (c+1)) 0 r h)):
  Lp f335 1 (EL d b e f g c i j a) 0 r h:=.of XI H
mutual
def dU:Cn->Nat|.mk _ _ _ _ _ l=>dS l+1
def dS:List Cn->Nat|[]=>0|x::t=>dU x+dS t
end
def j9(c:Cn):dU c=dS c.kids+1:=by cases c;rfl
def oJ:∀{l:List Cn}{x:Cn},x∈l->dU x<=dS l
 |[],_,h=>by simp at h
 |y::l,x,h=>by
  rcases aU.1 h with rfl|h
  .simp only[dS];omega
  .have:=oJ h;simp only[dS];omega
def sd:∀(l:List Cn),l.length<=dS l
 |[]=>ar _
 |y::l=>by have:=sd l;have:=j9 y;simp only[dS,aC];omega
def sD(arg op:Int):Bool:=bif(bif(bif(decide (arg>=0))then(decide (arg<=5))else false)then(decide (op>=1))else false)then(decide (op<=6))else false
def XJ(arg op:Int):ak 286 [vN arg,vN op] [] [vB (sD arg op)] []:=agz _ _ fi
def He(c:Cn):Bool:=((((true&&(c.arg==0))&&(c.op==0))&&(c.mask==0))&&(c.value==0))
def lH(c:Cn):Bool:=
 bif c.kind==5 then(bif(c.kids.length:Int)==0 then sD c.arg c.op else false)else bif c.kind==1 then(bif(c.kids.length:Int)==0 then He c else false)else
 bif c.kind==2 then(bif(c.kids.length:Int)==1 then He c else false)else bif c.kind==3 then He c else bif c.kind==4 then He c else false
def agS(c:Cn):ak 336 [Bf c] [] [vB (lH c)] []:=by
 have f:(dx c.kids).length=c.kids.length:=by rw[dR,ao]
 apply agB;rw[f];exact ae (fun h=>ae (fun a=>⟨_,XJ _ _,ai (by rw[lH,h,a];rfl) rfl⟩) fun a=>ai (by rw[lH,h,a];rfl) rfl) fun b=>
  ae (fun h=>ae (fun a=>ai (by rw[lH,b,h,a];rfl) rfl) fun a=>ai (by rw[lH,b,h,a];rfl) rfl) fun a=>
  ae (fun h=>ae (fun d=>ai (by rw[lH,b,a,h,d];rfl) rfl) fun d=>ai (by rw[lH,b,a,h,d];rfl) rfl) fun d=>
  ae (fun h=>ai (by rw[lH,b,a,d,h];rfl) rfl) fun e=>ae (fun h=>ai (by rw[lH,b,a,d,e,h];rfl) rfl) fun h=>ai (by rw[lH,b,a,d,e,h];rfl) rfl
mutual
def nW:Cn->Bool|.mk k a o m v l=>bif lH (.mk k a o m v l)then xY l else false
def xY:List Cn->Bool|[]=>true|x::t=>nW x&&xY t
end
def B1(c:Cn):nW c=bif lH c then c.kids.all nW else false:=by
 have:∀l,xY l=l.all nW:=by
  intro l;induction l with
  |nil=>rfl
  |cons x l b=>rw[xY,b];rfl
 obtain⟨k,a,o,m,v,l⟩:=c;rw[nW,this];rfl
def aaj:∀(d:Nat)(c:Cn),dU c<=d->d<=2^40->ak 283 [Bf c] [] [vB (nW c)] []
 |0,c,h,_=>by rw[j9]at h;omega
 |d+1,c,h,g=>by
  have m:=j9 c;have k:=sd c.kids;rw[B1];apply agx;refine⟨_,agS c,ae (fun a=>⟨_,PL _ ⟨_,PQ _ ?_,fi⟩,ai (by rw[a,pL];rfl) rfl⟩) fun a=>ai (by rw[a];rfl) rfl⟩
  rw[dR];exact ew (Hd:=fun i=>pB _ _ i) (p:=fun x => !nW x) (l:=c.kids) (by omega) fun i r j e f=>JI _ _ _ (eA (l:=c.kids) (by simp) (fun x b=>⟨x.kind,x.arg,x.op,x.mask,x.value,dx x.kids,by omega,(aY b).trans (by rw[Cn.cD]),_,
   by apply agD;exact⟨_,aaj d x (by have:=oJ (aK b);omega) (by omega),fi⟩,e x b⟩) f)
def ri(op:Int):Int:=bif op==1 then 2 else bif op==2 then 1 else bif op==3 then 6 else bif op==6 then 3 else bif op==5 then 4 else 5
def agT(op:Int):ak 339 [vN op] [] [vN (ri op)] []:=
 agJ op (ae (fun h=>ai (by rw[ri,h];rfl) rfl) fun a=>ae (fun h=>ai (by rw[ri,a,h];rfl) rfl) fun b=>ae (fun h=>ai (by rw[ri,a,b,h];rfl) rfl) fun c=>
  ae (fun h=>ai (by rw[ri,a,b,c,h];rfl) rfl) fun d=>ae (fun h=>ai (by rw[ri,a,b,c,d,h];rfl) rfl) fun h=>ai (by rw[ri,a,b,c,d,h];rfl) rfl)
mutual
def nH:Cn->Bool->Cn
 |.mk k a o m v l,b=>bif k==2 then(oK l (!b)).headD zz else bif(bif k==1 then !b else false)then .mk 4 0 0 0 0 []else
  bif(bif k==5 then !b else false)then .mk k a (ri o) m v (oK l b)else bif(bif k==3 then !b else false)then .mk 4 a o m v (oK l b)else
  bif(bif k==4 then !b else false)then .mk 3 a o m v (oK l b)else .mk k a o m v (oK l b)
def oK:List Cn->Bool->List Cn
 |[],_=>[]
 |x::t,b=>nH x b::oK t b
end
def B2:∀(l:List Cn)(a:Bool),oK l a=l.map fun x=>nH x a
 |[],_=>rfl
 |x::t,a=>by rw[oK,B2 t a];rfl
def T0{b:Bool}(l:List Cn)(n:l.length<=2^40)(k:∀x∈l,ak 284 [Bf x,vB b] [] [Bf (nH x b)] []):ak 340 [vL 6 (dx l),vB b] [] [vL 6 (dx (oK l b))] []:=by
 have key:∀(t:List Cn)(i:Nat)(a:List Cn),l.drop i=t->a=(l.take i).map (fun x=>nH x b)->Lp f340 0 (EH b (dx a) (dx l) l.length i) 0 [.own 0 0 6 (dx (oK l b))] []:=by
  intro t;induction t with
  |nil=>
   intro i a c d;have:=drop_nil c;rw[eU this,<-B2]at d;rw[d];exact Rk _ _ _ _ _ (aT (l:=l) rfl c fi)
  |cons x t j=>
   intro i a c d;obtain⟨e,g,m⟩:=drop_cons c;have f:∀z:Cn,dx a++([[N z.kind,N z.arg,N z.op,U z.mask,U z.value,L 6 (dx z.kids)]]:Rw)=dx (a++[z]):=by
    intro z;rw[dR a,dR (a++[z]),cg,<-Cn.cD];rfl
   have o:a.length<=i:=by rw[d];simp;omega
   refine Rk _ _ _ _ _ (aO (l:=l) rfl c ⟨x.kind,x.arg,x.op,x.mask,x.value,dx x.kids,by omega,?_,_,_,_,_,_,_,k x (aK e),?_,aB,?_⟩)
   .rw[dR,<-Cn.cD];exact aY e
   .rw[f,dR];simp;omega
   .rw[f]
    exact j (i+1) _ g (by rw[d,hL,e];simp)
 refine Go.Ac.ak.soft (r:=[.own 0 0 6 _]) ?_ rfl;apply agK;rw[show(dx l).length=l.length by rw[dR,ao]]
 exact key l 0 [] rfl rfl
def aak:∀(d:Nat)(c:Cn)(n:Bool),dU c<=d->d<=2^40->nW c=true->ak 284 [Bf c,vB n] [] [Bf (nH c n)] []
 |0,c,_,h,_,_=>by rw[j9]at h;omega
 |d+1,c,n,h,y,q=>by
  have r:=j9 c;have z:=sd c.kids;rw[B1]at q;obtain⟨w,u⟩:=cd q;have t:∀(b:Bool),∀x∈c.kids,ak 284 [Bf x,vB b] [] [Bf (nH x b)] []:=fun b x s=>aak d x b (by have:=oJ s;omega) (by omega) (bf.1 u x s)
  have p:=T0 c.kids (by omega) (t n)
  obtain⟨k,a,o,m,v,l⟩:=c;apply agH;refine ae (fun f=>?_) fun f=>ae (fun e=>ai ?_ rfl) fun e=>ae (fun g=>⟨_,agT o,_,p,ai ?_ rfl⟩) fun g=>ae (fun i=>⟨_,p,ai ?_ rfl⟩) fun i=>ae (fun j=>⟨_,p,ai ?_ rfl⟩) fun j=>⟨_,p,ai ?_ rfl⟩
  .obtain rfl:k=2:=eq_of_beq f
   have e:((l.length:Int)==1)=true:=(cd (show(bif(l.length:Int)==1 then He (.mk 2 a o m v l)else false)=true from w)).1
   have g:=eq_of_beq e;match l,g with
   |[x],_=>
    exact⟨x.kind,x.arg,x.op,x.mask,x.value,dx x.kids,by omega,by rw[<-Cn.cD];rfl,_,_,_,_,_,_,t (!n) x (by simp[Cn.kids]),fi⟩
  .simp only[Cn.kind]at f e;rw[nH,f,e];rfl
  .simp only[Cn.kind]at f e g;rw[nH,f,e,g];rfl
  .simp only[Cn.kind]at f e g i;rw[nH,f,e,g,i];rfl
  .simp only[Cn.kind]at f e g i j;rw[nH,f,e,g,i,j];rfl
  .simp only[Cn.kind]at f e g i j;rw[nH,f,e,g,i,j];rfl
def sO(c:Cn):Cn:=bif !nW c then .mk 4 0 0 0 0 []else nH c true
def agU(c:Cn)(a:dU c<=2^40):ak 224 [Bf c] [] [Bf (sO c)] []:=by
 apply agF;exact⟨_,aaj _ c (ar _) a,ae (fun h=>ai (by rw[sO,h];rfl) rfl) fun h=>⟨_,_,_,_,_,_,aak _ c true (ar _) a (by simpa using h),ai (by rw[sO,h];rfl) rfl⟩⟩
mutual
theorem zA:∀(c:Cn)(b:Bool),dU (nH c b)<=dU c
 |.mk k a o m v l,b=>by
  have e:=ti l b;have d:=ti l (!b);unfold nH;cases k==2
  .cases(bif k==1 then !b else false)
   .cases(bif k==5 then !b else false)
    .cases(bif k==3 then !b else false)
     .cases(bif k==4 then !b else false)<;>simp only[aj,af,dU]<;>omega
     .simp only[aj,af,dU];omega
    .simp only[aj,af,dU];omega
   .simp only[aj,af,dU,dS];omega
  .simp only[aj]
   cases hd:oK l (!b)with
   |nil=>simp only[List.headD,zz,dU,dS];omega
   |cons x t=>rw[hd]at d;simp only[dS]at d;simp only[List.headD,dU];omega
theorem ti:∀(l:List Cn)(b:Bool),dS (oK l b)<=dS l
 |[],_=>ar _
 |x::t,b=>by have:=zA x b;have:=ti t b;simp only[oK,dS];omega
end
def zB(c:Cn):dU (sO c)<=dU c:=by
 unfold sO;have:=j9 c;cases nW c
 .simp only[jM,aj,dU,dS];omega
 .exact zA c true
def uV(a b c d e:Int):St:=⟨aM 47 [(1,.aA 0 0),(3,vN a)],[],[.cells [vN b,vN c,vU d,vU e]]⟩
def aal:bq:={an:=[(1,4,ah),(6,1,ah),(6,3,ah),(8,1,ah),(8,4,ah),(13,2,ah),(13,5,ah),(13,9,ah)],join:=[(13,{bl:=[1,3]})]}
def agV(b a c d:Int){r h}(H:∃e,ak 286 [vN b,vN a] [] [vB e] []/\ay (!e) (Fi r h [vL 1 []] [])
 (ay (a==1) (∃f g i j k,ak 287 [.agg [N b,N a,U c,U d],vB true,vN 1] [] [.agg [N f,N g,B i,W j,W k]] []/\∃l m n o p,ak 287 [.agg [N b,N a,U c,U d],vB false,vN 1] [] [.agg [N l,N m,B n,W o,W p]] []/\Fi r h [vL 1 [[L 5 [[N f,N g,B i,W j,W k],[N l,N m,B n,W o,W p]]]]] [])
 (ay (a==2) (∃q s t u v,ak 287 [.agg [N b,N a,U c,U d],vB true,vN 2] [] [.agg [N q,N s,B t,W u,W v]] []/\∃w x y z D,ak 287 [.agg [N b,N a,U c,U d],vB false,vN 2] [] [.agg [N w,N x,B y,W z,W D]] []/\Fi r h [vL 1 [[L 5 [[N q,N s,B t,W u,W v]]],[L 5 [[N w,N x,B y,W z,W D]]]]] [])
 (ay (a==6) (Rp f226 13 (uV 5 b a c d) 0 r h)
 (ay (a==4) (Rp f226 13 (uV 3 b a c d) 0 r h)
 (Rp f226 13 (uV a b a c d) 0 r h)))))):
  ak 226 [.agg [N b,N a,U c,U d]] [] r h:=.of func226 aal H
def T5(e b a c d:Int){r h}(H:∃f g i j k,ak 287 [.agg [N b,N a,U c,U d],vB true,vN e] [] [.agg [N f,N g,B i,W j,W k]] []/\∃l m n o p,ak 287 [.agg [N b,N a,U c,U d],vB true,vN 1] [] [.agg [N l,N m,B n,W o,W p]] []/\∃q s t u v,ak 287 [.agg [N b,N a,U c,U d],vB false,vN a] [] [.agg [N q,N s,B t,W u,W v]] []/\Fi r h [vL 1 [[L 5 [[N f,N g,B i,W j,W k]]],[L 5 [[N l,N m,B n,W o,W p],[N q,N s,B t,W u,W v]]]]] []):
  Rp f226 13 (uV e b a c d) 0 r h:=xm.of aal H
def agW:bq:={}
def agX(b f c d:Int)(a:Bool)(e:Int){r h}(H:ay a (0<=(32:Int)/\0<=(32:Int)/\Fi r h [.agg [N b,N e,B a,W (IntKind.wrap .u32 (Int.fdiv c (2^(min (Int.toNat 32) (IntKind.bits .u64))))),W (IntKind.wrap .u32 (Int.fdiv d (2^(min (Int.toNat 32) (IntKind.bits .u64)))))]] [])
 (Fi r h [.agg [N b,N e,B a,W (IntKind.wrap .u32 c),W (IntKind.wrap .u32 d)]] [])):
  ak 287 [.agg [N b,N f,U c,U d],vB a,vN e] [] r h:=.of func287 agW H
def agY:bq:={an:=[(1,1,ah),(7,4,aa),(7,5,aa),(7,6,aa)]}
def agZ(d a:Int)(e:Bool)(c b:Int){r h}(H:∃f,ak 307 [.agg [N d,N a,B e,W c,W b]] [] [vB f] []/\ay (!f) (Fi r h [vB true] [])
 (ay (a==1) (Fi r h [vB ((cF .andNot .u32 b c) !=0)] [])
 (ay (a==2) (Fi r h [vB (bif(c==0)then(b==0)else false)] [])
 (ay (a==3) (Fi r h [vB (b==0)] [])
 (ay (a==5) (Fi r h [vB (decide (c<=b))] [])
 (ay (a==6) (Fi r h [vB (decide (c<b))] [])
 (Fi r h [vB false] []))))))):
  ak 288 [.agg [N d,N a,B e,W c,W b]] [] r h:=.of func288 agY H
def ag0:bq:={an:=[(1,1,ah),(5,4,aa),(5,5,aa),(5,6,aa)]}
def ag1(d a:Int)(e:Bool)(c b:Int){r h}(H:∃f,ak 307 [.agg [N d,N a,B e,W c,W b]] [] [vB f] []/\ay (!f) (Fi r h [vB false] [])
 (ay (a==1) (Fi r h [vB (bif(c==0)then(b==0)else false)] [])
 (ay (a==2) (Fi r h [vB ((cF .andNot .u32 b c) !=0)] [])
 (ay (a==3) (Fi r h [vB (decide (c<b))] [])
 (ay (a==4) (Fi r h [vB (decide (c<=b))] [])
 (ay (a==6) (Fi r h [vB (b==0)] [])
 (Fi r h [vB false] []))))))):
  ak 292 [.agg [N d,N a,B e,W c,W b]] [] r h:=.of func292 ag0 H
def ag2:bq:={an:=[(1,4,ah)]}
def ag3(a b:Int)(d:Bool)(e f:Int){r h}(H:∃c,ak 286 [vN a,vN b] [] [vB c] []/\Fi r h [vB c] []):
  ak 307 [.agg [N a,N b,B d,W e,W f]] [] r h:=.of func307 ag2 H
structure At where
 arg:Int
 op:Int
 mask:Int
 value:Int
def At.row(a:At):List PV:=[N a.arg,N a.op,U a.mask,U a.value]
structure Hf where
 arg:Int
 op:Int
 high:Bool
 mask:Int
 value:Int
 deriving DecidableEq
def Hf.row(h:Hf):List PV:=[N h.arg,N h.op,B h.high,W h.mask,W h.value]
abbrev T6(h:Hf):AV:=.agg [N h.arg,N h.op,B h.high,W h.mask,W h.value]
def atR(x:List At):List PV:=[L 4 (x.map At.row)]
def iz(l:List (List At)):Rw:=l.map atR
def hfR(x:List Hf):List PV:=[L 5 (x.map Hf.row)]
def cB(l:List (List Hf)):Rw:=l.map hfR
def fI{α:Type}(a b:List (List α)):List (List α):=a.flatMap fun x=>b.map fun y=>x++y
def lr{α:Type}(a b:List (List α)):List (List α)×Bool:=bif decide ((a.length:Int)*(b.length:Int)>256)then([],false)else(fI a b,true)
def ag4(x y:List At)(a:x.length<=2^40)(b:y.length<=2^40):ak 358 [vL 1 [[L 4 (x.map At.row)],[L 4 (y.map At.row)]]] [] [vL 4 ((x++y).map At.row)] []:=by
 refine Go.Ac.ak.soft (r:=[.own 0 0 4 _]) ?_ rfl;apply acX;have c:(x.map At.row).length=x.length:=ao ..;have d:(y.map At.row).length=y.length:=ao ..;apply JG;refine bF rfl ⟨x.map At.row,by omega,rfl,aB,aW (cf (by omega)) ⟨aB,?_⟩⟩
 apply JG;refine bF rfl ⟨y.map At.row,by omega,rfl,aB,aW (cf (by omega)) ⟨aB,?_⟩⟩
 apply JG;refine aW rfl ⟨_,acq _ (by omega),?_⟩
 apply JH;refine bF rfl ⟨x.map At.row,by omega,rfl,by simp;omega,aB,?_⟩
 apply JH;refine bF rfl ⟨y.map At.row,by omega,rfl,by simp;omega,aB,?_⟩
 apply JH;exact aW rfl (ai (by simp) rfl)
def ag5(a b:List (List At))(o:a.length<=2^20)(p:b.length<=2^20)(r:∀x∈a,x.length<=2^40)(D:∀x∈b,x.length<=2^40):
  ak 335 [vL 1 (iz a),vL 1 (iz b)] [] [.own 0 0 1 (iz (lr a b).1),vB (lr a b).2] []:=by
 have w:(iz a).length=a.length:=ao ..;have lb:(iz b).length=b.length:=ao ..;have f:(a.length:Int)*(b.length:Int)=((a.length*b.length:Nat):Int):=by simp
 have K:a.length*b.length<=2^20*2^20:=hF o p;apply agR;rw[w,lb,f];refine⟨aB,ae (fun h=>ai (by rw[lr,f,h];rfl) (by rfl)) fun h=>?_⟩
 have Q:=bH h;have M:fI a b=fI a b:=rfl;have key:∀(t:List (List At))(i:Nat)(c:List (List At)),a.drop i=t->c.length+t.length*b.length<=256 ->
   Lp f335 0 (EK (iz b) (iz c) (iz a) a.length i) 0 [.own 0 0 1 (iz (c++fI t b)),vB true] []:=by
  intro t;induction t with
  |nil=>intro i c d _;apply Ro;exact aT (l:=a) rfl d (ai (by simp[fI]) rfl)
  |cons x t u=>
   intro i c d I;obtain⟨k,n,H⟩:=drop_cons d;have q:=r x (aK k);have G:(x::t).length*b.length=b.length+t.length*b.length:=by rw[aC,bY,cN,oc]
   have inner:∀(s:List (List At))(j:Nat)(z:List (List At)),b.drop j=s->z.length+s.length+t.length*b.length<=256 ->
     Lp f335 1 (EL (iz b) (iz z) (x.map At.row) (iz a) a.length i (iz b) b.length j) 0 [.own 0 0 1 (iz (z++(s.map fun y=>x++y)++fI t b)),vB true] []:=by
    intro s;induction s with
    |nil=>
     intro j z e g;apply Rq;refine aT (l:=b) rfl e ⟨aB,?_⟩;simp only[cO]at g;have:=u (i+1) z n (by omega)
     rw[ob,eG];exact this
    |cons y s E=>
     intro j z e g;obtain⟨m,v,J⟩:=drop_cons e;simp only[aC]at g;apply Rq;refine aO (l:=b) rfl e ⟨y.map At.row,by omega,aY m,_,ag4 x y q (D y (aK m)),by simp[iz];omega,aB,?_⟩
     have:=E (j+1) (z++[x++y]) v (by simp;omega)
     rw[show iz (z++[x++y])=iz z++[[L 4 ((x++y).map At.row)]] by simp[iz,atR]]at this
     rw[show z++((y::s).map fun y=>x++y)++fI t b=z++[x++y]++(s.map fun y=>x++y)++fI t b by simp]
     exact this
   apply Ro;refine aO (l:=a) rfl d ⟨x.map At.row,by omega,aY k,?_⟩
   rw[lb];have:=inner b 0 c rfl (by omega)
   rw[show c++fI (x::t) b=c++(b.map fun y=>x++y)++fI t b by simp[fI]]
   exact this
 have:=key a 0 [] rfl (by simp;omega)
 rw[lr,f,h];exact this
def ag6(x y:List Hf)(a:x.length<=2^40)(b:y.length<=2^40):ak 285 [vL 1 [[L 5 (x.map Hf.row)],[L 5 (y.map Hf.row)]]] [] [vL 5 ((x++y).map Hf.row)] []:=by
 refine Go.Ac.ak.soft (r:=[.own 0 0 5 _]) ?_ rfl;apply acB;have c:(x.map Hf.row).length=x.length:=ao ..;have d:(y.map Hf.row).length=y.length:=ao ..;apply Jv;refine bF rfl ⟨x.map Hf.row,by omega,rfl,aB,aW (cf (by omega)) ⟨aB,?_⟩⟩
 apply Jv;refine bF rfl ⟨y.map Hf.row,by omega,rfl,aB,aW (cf (by omega)) ⟨aB,?_⟩⟩
 apply Jv;refine aW rfl ⟨_,acp _ (by omega),?_⟩
 apply Jw;refine bF rfl ⟨x.map Hf.row,by omega,rfl,by simp;omega,aB,?_⟩
 apply Jw;refine bF rfl ⟨y.map Hf.row,by omega,rfl,by simp;omega,aB,?_⟩
 apply Jw;exact aW rfl (ai (by simp) rfl)
def ag7(a b:List (List Hf))(o:a.length<=2^20)(p:b.length<=2^20)(r:∀x∈a,x.length<=2^40)(D:∀x∈b,x.length<=2^40):
  ak 225 [vL 1 (cB a),vL 1 (cB b)] [] [.own 0 0 1 (cB (lr a b).1),vB (lr a b).2] []:=by
 have w:(cB a).length=a.length:=ao ..;have lb:(cB b).length=b.length:=ao ..;have f:(a.length:Int)*(b.length:Int)=((a.length*b.length:Nat):Int):=by simp
 have K:a.length*b.length<=2^20*2^20:=hF o p;apply agO;rw[w,lb,f];refine⟨aB,ae (fun h=>ai (by rw[lr,f,h];rfl) (by rfl)) fun h=>?_⟩
 have Q:=bH h;have M:fI a b=fI a b:=rfl;have key:∀(t:List (List Hf))(i:Nat)(c:List (List Hf)),a.drop i=t->c.length+t.length*b.length<=256 ->
   Lp f225 0 (EI (cB b) (cB c) (cB a) a.length i) 0 [.own 0 0 1 (cB (c++fI t b)),vB true] []:=by
  intro t;induction t with
  |nil=>intro i c d _;apply Rm;exact aT (l:=a) rfl d (ai (by simp[fI]) rfl)
  |cons x t u=>
   intro i c d I;obtain⟨k,n,H⟩:=drop_cons d;have q:=r x (aK k);have G:(x::t).length*b.length=b.length+t.length*b.length:=by rw[aC,bY,cN,oc]
   have inner:∀(s:List (List Hf))(j:Nat)(z:List (List Hf)),b.drop j=s->z.length+s.length+t.length*b.length<=256 ->
     Lp f225 1 (EJ (cB b) (cB z) (x.map Hf.row) (cB a) a.length i (cB b) b.length j) 0 [.own 0 0 1 (cB (z++(s.map fun y=>x++y)++fI t b)),vB true] []:=by
    intro s;induction s with
    |nil=>
     intro j z e g;apply Rn;refine aT (l:=b) rfl e ⟨aB,?_⟩;simp only[cO]at g;have:=u (i+1) z n (by omega)
     rw[ob,eG];exact this
    |cons y s E=>
     intro j z e g;obtain⟨m,v,J⟩:=drop_cons e;simp only[aC]at g;apply Rn;refine aO (l:=b) rfl e ⟨y.map Hf.row,by omega,aY m,_,ag6 x y q (D y (aK m)),by simp[cB];omega,aB,?_⟩
     have:=E (j+1) (z++[x++y]) v (by simp;omega)
     rw[show cB (z++[x++y])=cB z++[[L 5 ((x++y).map Hf.row)]] by simp[cB,hfR]]at this
     rw[show z++((y::s).map fun y=>x++y)++fI t b=z++[x++y]++(s.map fun y=>x++y)++fI t b by simp]
     exact this
   apply Rm;refine aO (l:=a) rfl d ⟨x.map Hf.row,by omega,aY k,?_⟩
   rw[lb];have:=inner b 0 c rfl (by omega)
   rw[show c++fI (x::t) b=c++(b.map fun y=>x++y)++fI t b by simp[fI]]
   exact this
 have:=key a 0 [] rfl (by simp;omega)
 rw[lr,f,h];exact this
def rj(k:Int)(a b:List (List At)):List (List At)×Bool:=bif k==3 then lr a b else(a++b,decide (((a++b).length:Int)<=256))
def ag8(k:Int)(a b:List (List At))(c:a.length<=2^20)(d:b.length<=2^20)(f:∀x∈a,x.length<=2^40)(g:∀x∈b,x.length<=2^40):
  ak 282 [vN k,.own 0 0 1 (iz a),vL 1 (iz b)] [] [.own 0 0 1 (iz (rj k a b).1),vB (rj k a b).2] []:=by
 have e:iz a++iz b=iz (a++b):=by simp[iz]
 have le:(iz (a++b)).length=(a++b).length:=ao ..;apply agQ;rw[e,le];exact ae (fun h=>⟨_,_,ag5 a b c d f g,ai (by rw[rj,h];rfl) rfl⟩) fun h=>⟨by simp;omega,ai (by rw[rj,h];rfl) rfl⟩
mutual
def uW:Cn->List (List At)×Bool
 |.mk k a o m v l=>bif k==5 then([[⟨a,o,m,v⟩]],true)else NY k l (bif k==1 then[[]]else bif k==3 then[[]]else[])
def NY(k:Int):List Cn->List (List At)->List (List At)×Bool
 |[],b=>(b,true)
 |x::t,b=>bif !(uW x).2 then([],false)else bif !(rj k b (uW x).1).2 then([],false)else NY k t (rj k b (uW x).1).1
end
structure CL {α:Type} (n:Nat) (l:List (List α)):Prop where
 len:l.length<=256
 each:∀x∈l,x.length<=n
def zC{α:Type}{n m:Nat}{a b:List (List α)}(d:∀x∈a,x.length<=n)(f:∀x∈b,x.length<=m):CL (n+m) (lr a b).1:=by
 unfold lr;cases hd:decide ((a.length:Int)*(b.length:Int)>256)
 .have e:(a.length:Int)*(b.length:Int)=((a.length*b.length:Nat):Int):=by simp
  have h:=bH hd;rw[e]at h;refine⟨?_,fun x c=>?_⟩
  .have:(fI a b).length=a.length*b.length:=by
    clear d hd e h;induction a with
    |nil=>simp[fI]
    |cons x a j=>
     rw[show fI (x::a) b=(b.map fun y=>x++y)++fI a b from rfl,de,ao,j,aC,bY,cN,oc]
   show(fI a b).length<=256
   omega
  .obtain⟨y,g,c⟩:=fk.1 (show x∈fI a b from c)
   obtain⟨z,i,rfl⟩:=bg.1 c;have:=d y g;have:=f z i;simp;omega
 .exact⟨by simp,by simp⟩
def Hg{k:Int}{n m:Nat}{a b:List (List At)}(d:CL n a)(e:CL m b)(h:(rj k a b).2=true):CL (n+m) (rj k a b).1:=by
 unfold rj at h⊢;cases hk:k==3<;>rw[hk]at h
 .have h:=aN h
  refine⟨by show(a++b).length<=256;omega,fun x c=>?_⟩
  rcases bC.1 (show x∈a++b from c)with c|c
  .have:=d.each x c;omega
  .have:=e.each x c;omega
 .exact zC d.each e.each
mutual
theorem J2:∀(c:Cn),CL (dU c) (uW c).1
 |.mk k a o m v l=>by
  unfold uW;cases k==5
  .have:CL 1 (bif k==1 then[[]]else bif k==3 then[[]]else([]:List (List At))):=by cases k==1<;>cases k==3<;>exact⟨by simp,by simp⟩
   have:=Rr l k _ 1 this;simp only[af,dU];rw[oc];exact this
  .exact⟨by simp,by simp[dU]⟩
theorem Rr:∀(l:List Cn)(k:Int)(b:List (List At))(n:Nat),CL n b->CL (n+dS l) (NY k l b).1
 |[],k,b,n,h=>h
 |x::t,k,b,n,h=>by
  unfold NY;have d:=J2 x;cases hb:(uW x).2
  .exact⟨by simp,by simp⟩
  .cases hj:(rj k b (uW x).1).2
   .exact⟨by simp,by simp⟩
   .have:=Rr t k _ _ (Hg h d hj)
    simp only[dS,fh,af];rw[<-gp];exact this
end
def ofR:List (List At)×Bool->List AV
 |(l,true)=>[.own 0 0 1 (iz l),vB true]
 |(_,false)=>[vL 1 [],vB false]
def T7:∀(c:Cn),(uW c).2=false->(uW c).1=[]
 |.mk k a o m v l,h=>by
  unfold uW at h⊢;have:∀(l:List Cn)(b:List (List At)),(NY k l b).2=false->(NY k l b).1=[]:=by
   intro l;induction l with
   |nil=>intro b h;simp[NY]at h
   |cons x t d=>
    intro b h;unfold NY at h⊢;cases hb:(uW x).2<;>rw[hb]at h
    .rfl
    .cases hj:(rj k b (uW x).1).2<;>rw[hj]at h
     .rfl
     .exact d _ h
  cases hk:k==5<;>rw[hk]at h
  .exact this l _ h
  .simp at h
def aam:∀(d:Nat)(c:Cn),dU c<=d->d<=2^40->ak 223 [Bf c] [] [vL 1 (iz (uW c).1),vB (uW c).2] []
 |0,c,h,_=>by rw[j9]at h;omega
 |d+1,c,h,K=>by
  have H:=j9 c;have E:=sd c.kids;have J:∀x∈c.kids,ak 223 [Bf x] [] [vL 1 (iz (uW x).1),vB (uW x).2] []:=fun x s=>aam d x (by have:=oJ s;omega) (by omega)
  have loop:∀(t:List Cn)(i:Nat)(f:List (List At))(n:Nat),c.kids.drop i=t->CL n f->n+dS t<=2^40+1 ->
    Lp f223 0 (wc (iz f) (dx c.kids) c.kids.length i c.kind c.arg c.op c.mask c.value (dx c.kids)) 0 (ofR (NY c.kind t f)) []:=by
   intro t;induction t with
   |nil=>intro i f n q _ _;apply Rl;exact aT (l:=c.kids) rfl q fi
   |cons x t I=>
    intro i f n q z G;obtain⟨b,e,g⟩:=drop_cons q;have s:=aK b;have u:=J2 x;simp only[dS]at G;have M:=oJ s;have Q:=j9 x;apply Rl;refine aO (l:=c.kids) rfl q ⟨x.kind,x.arg,x.op,x.mask,x.value,dx x.kids,by omega,by rw[dR,<-Cn.cD];exact aY b,_,_,J x s,ae (fun j=>ai (by rw[NY,j];rfl) rfl) fun j=>
     ⟨_,_,ag8 c.kind f (uW x).1 (by have:=z.len;omega) (by have:=u.len;omega) (fun y D=>by have:=z.each y D;omega) (fun y D=>by have:=u.each y D;omega),ae (fun p=>ai (by rw[NY,j,p];rfl) rfl) fun p=>⟨aB,?_⟩⟩⟩
    rw[NY,j,p];exact I (i+1) _ _ e (Hg z u (by simpa using p)) (by omega)
  have w:ak 223 [Bf c] [] (bif c.kind==5 then[vL 1 (iz (uW c).1),vB (uW c).2]else ofR (uW c)) []:=by
   obtain⟨k,a,o,m,v,l⟩:=c;simp only[Cn.kind,Cn.arg,Cn.op,Cn.mask,Cn.value,Cn.kids]at loop H E;apply agN;have hlen:(dx l).length=l.length:=by rw[dR,ao]
   refine ae (fun b=>ai ?_ rfl) fun b=>?_
   .simp only[Cn.kind]at b⊢
    rw[uW,b];rfl
   .simp only[Cn.kind,Cn.kids]at b⊢
    rw[b,uW,b,hlen];refine ae (fun e=>?_) fun e=>ae (fun g=>?_) fun g=>?_
    .rw[e];exact loop l 0 [[]] 1 rfl ⟨by simp,by simp⟩ (by omega)
    .rw[e,g];exact loop l 0 [[]] 1 rfl ⟨by simp,by simp⟩ (by omega)
    .rw[e,g];exact loop l 0 [] 0 rfl ⟨by simp,by simp⟩ (by omega)
  cases hk:c.kind==5<;>rw[hk]at w
  .cases hb:(uW c).2
   .have r:uW c=([],false):=Prod.ext (T7 c hb) hb
    rw[r]at w⊢;exact w
   .have r:uW c=((uW c).1,true):=Prod.ext rfl hb
    rw[r]at w;exact Go.Ac.ak.soft w rfl
  .exact w
def fu(c:Cn):List (List At)×Int:=bif !(uW (sO c)).2 then([],9)else((uW (sO c)).1,0)
def ag9(c:Cn)(a:dU c<=2^40):ak 159 [Bf c] [] [vL 1 (iz (fu c).1),vN (fu c).2] []:=by
 have:=zB c;apply agM;exact⟨_,_,_,_,_,_,agU c a,_,_,aam _ (sO c) (ar _) (by omega),ae (fun h=>ai (by rw[fu,h];rfl) rfl) fun h=>ai (by rw[fu,h];rfl) rfl⟩
def mR(a:At)(high:Bool)(op:Int):Hf:=bif high then⟨a.arg,op,high,IntKind.wrap .u32 (Int.fdiv a.mask (2^(min (Int.toNat 32) (IntKind.bits .u64)))),IntKind.wrap .u32 (Int.fdiv a.value (2^(min (Int.toNat 32) (IntKind.bits .u64))))⟩else
 ⟨a.arg,op,high,IntKind.wrap .u32 a.mask,IntKind.wrap .u32 a.value⟩
def J4(a:At)(high:Bool)(op:Int):ak 287 [.agg [N a.arg,N a.op,U a.mask,U a.value],vB high,vN op] [] [T6 (mR a high op)] []:=by
 apply agX;exact ae (fun h=>⟨by omega,by omega,ai (by rw[mR,h];rfl) rfl⟩) fun h=>ai (by rw[mR,h];rfl) rfl
def l4(a:At)(strict:Int):List (List Hf):=[[mR a true strict],[mR a true 1,mR a false a.op]]
def dM(a:At):List (List Hf):=bif !sD a.arg a.op then[]else bif a.op==1 then[[mR a true 1,mR a false 1]]else bif a.op==2 then[[mR a true 2],[mR a false 2]]else
 bif a.op==6 then l4 a 5 else bif a.op==4 then l4 a 3 else l4 a a.op
def aha(a:At):ak 226 [.agg [N a.arg,N a.op,U a.mask,U a.value]] [] [vL 1 (cB (dM a))] []:=by
 have j:∀(s:Int)(r:List (List Hf)),r=l4 a s->Rp f226 13 (uV s a.arg a.op a.mask a.value) 0 [vL 1 (cB r)] []:=by
  rintro s _ rfl;apply T5;exact⟨_,_,_,_,_,J4 a true s,_,_,_,_,_,J4 a true 1,_,_,_,_,_,J4 a false a.op,fi⟩
 apply agV;exact⟨_,XJ _ _,ae (fun h=>ai (by rw[dM,h];rfl) rfl) fun b=>ae (fun h=>⟨_,_,_,_,_,J4 a true 1,_,_,_,_,_,J4 a false 1,ai (by rw[dM,b,h];rfl) rfl⟩) fun c=>
  ae (fun h=>⟨_,_,_,_,_,J4 a true 2,_,_,_,_,_,J4 a false 2,ai (by rw[dM,b,c,h];rfl) rfl⟩) fun d=>ae (fun h=>j 5 _ (by rw[dM,b,c,d,h];rfl)) fun e=>ae (fun h=>j 3 _ (by rw[dM,b,c,d,e,h];rfl)) fun h=>j a.op _ (by rw[dM,b,c,d,e,h];rfl)⟩
def XK(h:Hf):ak 307 [T6 h] [] [vB (sD h.arg h.op)] []:=by apply ag3;exact⟨_,XJ _ _,fi⟩
def lI(h:Hf):Bool:=bif !sD h.arg h.op then true else bif h.op==1 then((cF .andNot .u32 h.value h.mask) !=0)else bif h.op==2 then(bif(h.mask==0)then(h.value==0)else false)else
 bif h.op==3 then(h.value==0)else bif h.op==5 then decide (h.mask<=h.value)else bif h.op==6 then decide (h.mask<h.value)else false
def ahb(h:Hf):ak 288 [T6 h] [] [vB (lI h)] []:=by
 apply agZ;exact⟨_,XK h,ae (fun e=>ai (by rw[lI,e];rfl) rfl) fun a=>ae (fun e=>ai (by rw[lI,a,e];rfl) rfl) fun b=>ae (fun e=>ai (by rw[lI,a,b,e];rfl) rfl) fun c=>ae (fun e=>ai (by rw[lI,a,b,c,e];rfl) rfl) fun d=>
  ae (fun e=>ai (by rw[lI,a,b,c,d,e];rfl) rfl) fun f=>ae (fun e=>ai (by rw[lI,a,b,c,d,f,e];rfl) rfl) fun e=>ai (by rw[lI,a,b,c,d,f,e];rfl) rfl⟩
def jh(h:Hf):Bool:=bif !sD h.arg h.op then false else bif h.op==1 then(bif(h.mask==0)then(h.value==0)else false)else bif h.op==2 then((cF .andNot .u32 h.value h.mask) !=0)else
 bif h.op==3 then decide (h.mask<h.value)else bif h.op==4 then decide (h.mask<=h.value)else bif h.op==6 then(h.value==0)else false
def ahc(h:Hf):ak 292 [T6 h] [] [vB (jh h)] []:=by
 apply ag1;exact⟨_,XK h,ae (fun e=>ai (by rw[jh,e];rfl) rfl) fun a=>ae (fun e=>ai (by rw[jh,a,e];rfl) rfl) fun b=>ae (fun e=>ai (by rw[jh,a,b,e];rfl) rfl) fun c=>ae (fun e=>ai (by rw[jh,a,b,c,e];rfl) rfl) fun d=>
  ae (fun e=>ai (by rw[jh,a,b,c,d,e];rfl) rfl) fun f=>ae (fun e=>ai (by rw[jh,a,b,c,d,f,e];rfl) rfl) fun e=>ai (by rw[jh,a,b,c,d,f,e];rfl) rfl⟩
def zD(a b:Rw)(c d:Int):St:=⟨aM 77 [(3,.own 0 0 1 a),(14,vL 1 b),(15,vN c),(16,vN d)],[some 0],[]⟩
def zE(a b c:Rw)(d e:Int):St:=⟨aM 77 [(3,.own 0 0 1 a),(8,.own 1 0 1 b),(31,vL 1 c),(32,vN d),(33,vN e)],[some 0,some 0],[]⟩
def we(a b:Rw)(c:Int)(d:Rw)(e:Bool)(f:Rw)(g i:Int)(j:Rw)(k l:Int):St:=⟨aM 77 [(3,.own 0 0 1 a),(8,.own 1 0 1 b),(9,vN c),(10,vL 5 d),(11,vB e),(31,vL 1 f),(32,vN g),(33,vN i),(38,vL 1 j),(39,vN k),(40,vN l)],[some 0,some 0],[]⟩
def T8:bq:={an:=[(4,1,ah),(5,1,ah),(12,2,ah),(16,2,ah),(17,8,ah),(17,11,aa),(17,12,aa),(17,13,aa),(17,14,aa),(17,15,aa),(17,16,aa),(17,17,aa),(17,18,aa),(17,19,aa),(17,20,aa)],cut:=[(11,{bl:=[3,8,31,32,33],dw:=[(3,1),(8,1)],owns:=[3,8]}),(15,{bl:=[3,8,9,10,11,31,32,33,38,39,40],dw:=[(3,1),(8,1)],owns:=[3,8]}),(3,{bl:=[3,14,15,16],dw:=[(3,1)],owns:=[3]})]}
def ahd(a:Rw){r h}(H:Lp f161 0 (zD [] a (a.length:Int) 0) 0 r h):
  ak 161 [vL 1 a] [] r h:=.of func161 T8 H
def Rs(a c:Rw)(d b:Int){r h}(H:ay (decide (b<d)) (vG c b fun g=>∃e f,ak 227 [vL 5 g] [] [vL 5 e,vB f] []/\ay f ((a++([[L 5 e]]:Rw)).length*24<=2^47/\bh .i64 (b+1)/\Lp f161 0 (zD (a++([[L 5 e]]:Rw)) c d (b+1)) 0 r h)
 (bh .i64 (b+1)/\Lp f161 0 (zD a c d (b+1)) 0 r h))
 (Lp f161 1 (zE a [] a (a.length:Int) 0) 0 r h)):
  Lp f161 0 (zD a c d b) 0 r h:=.of T8 H
def Rt(b c d:Rw)(e a:Int){r h}(H:ay (decide (a<e)) (vG d a fun f=>Lp f161 2 (we b c a f false d e a b (b.length:Int) 0) 0 r h)
 (Fi r h [.own 0 0 1 c] [])):
  Lp f161 1 (zE b c d e a) 0 r h:=.of T8 H
def Ru(f d:Rw)(e:Int)(b:Rw)(l:Bool)(g:Rw)(i c:Int)(j:Rw)(k a:Int){r h}(H:ay (decide (a<k)) (vG j a fun m=>ay l (bh .i64 (a+1)/\Lp f161 2 (we f d e b true g i c j k (a+1)) 0 r h) (ay (a !=e) (∃n,ak 228 [vL 5 m,vL 5 b] [] [vB n] []/\bh .i64 (a+1)/\Lp f161 2 (we f d e b (bif n then(bif(decide ((m.length:Int)<(b.length:Int)))then true else(decide (a<e)))else false) g i c j k (a+1)) 0 r h) (bh .i64 (a+1)/\Lp f161 2 (we f d e b (bif false then(bif(decide ((m.length:Int)<(b.length:Int)))then true else(decide (a<e)))else false) g i c j k (a+1)) 0 r h)))
 (ay (!l) ((d++([[L 5 b]]:Rw)).length*24<=2^47/\bh .i64 (c+1)/\Lp f161 1 (zE f (d++([[L 5 b]]:Rw)) g i (c+1)) 0 r h)
 (bh .i64 (c+1)/\Lp f161 1 (zE f d g i (c+1)) 0 r h))):
  Lp f161 2 (we f d e b l g i c j k a) 0 r h:=.of T8 H
def wg(a b:Rw)(c d:Int):St:=⟨aM 37 [(4,.own 0 0 5 a),(7,vL 5 b),(8,vN c),(9,vN d)],[some 0],[]⟩
def aan:bq:={an:=[(4,1,ah),(5,1,ah),(7,1,ah),(7,6,ah)],cut:=[(3,{bl:=[4,7,8,9],dw:=[(4,5)],owns:=[4]})]}
def ahe(a:Rw){r h}(H:Lp f227 0 (wg [] a (a.length:Int) 0) 0 r h):
  ak 227 [vL 5 a] [] r h:=.of func227 aan H
def Rv(b i:Rw)(j a:Int){r h}(H:ay (decide (a<j)) (ny i a fun c d e f g=>∃k,ak 288 [.agg [N c,N d,B e,W f,W g]] [] [vB k] []/\ay k (Fi r h [vL 5 [],vB false] []) (∃l,ak 289 [vL 5 b,.fn (.func 290) [] [.aA 0 0]] [.cells [vN c,vN d,vB e,vW f,vW g]] [vB l] [.cells [vN c,vN d,vB e,vW f,vW g]]/\ay l (Fi r h [vL 5 [],vB false] [])
 (∃m,ak 292 [.agg [N c,N d,B e,W f,W g]] [] [vB m] []/\ay (!m) (∃n,ak 293 [vL 5 b,.agg [N c,N d,B e,W f,W g]] [] [vB n] []/\ay (!n) ((b++([[N c,N d,B e,W f,W g]]:Rw)).length*32<=2^47/\bh .i64 (a+1)/\Lp f227 0 (wg (b++([[N c,N d,B e,W f,W g]]:Rw)) i j (a+1)) 0 r h)
 (bh .i64 (a+1)/\Lp f227 0 (wg b i j (a+1)) 0 r h)) (bh .i64 (a+1)/\Lp f227 0 (wg b i j (a+1)) 0 r h))))
 (Fi r h [.own 0 0 5 b,vB true] [])):
  Lp f227 0 (wg b i j a) 0 r h:=.of aan H
def ahf:bq:={}
def ahg(b a:Rw){r h}(H:ay (decide ((b.length:Int)<=(a.length:Int))) (∃c,ak 289 [vL 5 b,.fn (.func 294) [] [.aA 0 0]] [.cells [vL 5 a]] [vB c] [.cells [vL 5 a]]/\Fi r h [vB (!c)] []) (Fi r h [vB false] [])):
  ak 228 [vL 5 b,vL 5 a] [] r h:=.of func228 ahf H
def ahh:bq:={an:=[(1,2,ah)]}
def ahi(f g:Int)(i:Bool)(j k a b:Int)(c:Bool)(d e:Int){r h}(H:∃l,ak 291 [.agg [N f,N g,B i,W j,W k],.agg [N a,N b,B c,W d,W e]] [] [vB l] []/\Fi r h [vB l] [.cells [vN a,vN b,vB c,vW d,vW e]]):
  ak 290 [.agg [N f,N g,B i,W j,W k],.aA 0 0] [.cells [vN a,vN b,vB c,vW d,vW e]] r h:=.of func290 ahh H
def ahj:bq:={an:=[(1,4,aa),(1,5,aa),(1,6,aa),(1,9,aa),(1,10,aa),(1,11,aa),(1,12,aa),(1,13,aa),(1,16,aa),(1,17,aa),(1,18,aa),(1,19,aa),(1,20,aa),(1,23,aa),(1,24,aa),(1,25,aa),(1,26,aa),(1,27,aa),(1,30,aa),(1,31,aa),(1,32,aa),(1,33,aa),(1,34,aa)]}
def ahk(a b:Int)(c:Bool)(d e f g:Int)(i:Bool)(j k:Int){r h}(H:Fi r h [vB (bif(bif(bif(bif(bif(b==1)then(g==1)else false)then(a==f)else false)then(c==i)else false)then(d==j)else false)then(e !=k)else false)] []):
  ak 291 [.agg [N a,N b,B c,W d,W e],.agg [N f,N g,B i,W j,W k]] [] r h:=.of func291 ahj H
def ahl:bq:={an:=[(1,2,ah)]}
def ahm(b c:Int)(d:Bool)(e f:Int)(a:Rw){r h}(H:∃g,ak 293 [vL 5 a,.agg [N b,N c,B d,W e,W f]] [] [vB g] []/\Fi r h [vB (!g)] [.cells [vL 5 a]]):
  ak 294 [.agg [N b,N c,B d,W e,W f],.aA 0 0] [.cells [vL 5 a]] r h:=.of func294 ahl H
def mS(a b:Hf):Bool:=bif(bif(bif(bif(bif(a.op==1)then(b.op==1)else false)then(a.arg==b.arg)else false)then(a.high==b.high)else false)then(a.mask==b.mask)else false)then(a.value !=b.value)else false
def ahn(a b:Hf):ak 291 [T6 a,T6 b] [] [vB (mS a b)] []:=by apply ahk;exact fi
abbrev hfB(h:Hf):Bx:=.cells [vN h.arg,vN h.op,vB h.high,vW h.mask,vW h.value]
def aao(l:List Hf)(h:Hf)(d:l.length<=2^40):ak 289 [vL 5 (l.map Hf.row),.fn (.func 290) [] [.aA 0 0]] [hfB h] [vB (l.any fun x=>mS x h)] [hfB h]:=by
 apply Pp;refine⟨_,by
  apply PM;exact ew (Hd:=fun i=>py _ _ i h.arg h.op h.high h.mask h.value) (p:=fun x=>mS x h) d fun i r e b c=>JB _ _ _ _ _ _ _ _ (eA (l:=l) (by simp) (fun x a=>⟨x.arg,x.op,x.high,x.mask,x.value,by omega,aY a,_,by apply ahi;exact⟨_,ahn x h,fi⟩,b x a⟩) c),ai (by rw[nz]) rfl⟩
def tj(v x:Hf):Bool:=(((((true&&(v.arg==x.arg))&&(v.op==x.op))&&(v.high==x.high))&&(v.mask==x.mask))&&(v.value==x.value))
def aap(l:List Hf)(v:Hf)(d:l.length<=2^40):ak 293 [vL 5 (l.map Hf.row),T6 v] [] [vB (l.any (tj v))] []:=by
 apply acD;refine⟨_,by
  apply acN;exact ew (Hd:=fun i=>Ed _ _ i v.arg v.op v.high v.mask v.value) (p:=tj v) d fun i r e b c=>W5 _ _ _ _ _ _ _ _ (eA (l:=l) (by simp) (fun x a=>⟨x.arg,x.op,x.high,x.mask,x.value,by omega,aY a,b x a⟩) c),ai (by rw[nz]) rfl⟩
def aaq(l b:List Hf)(f:l.length<=2^40)(e:b.length<=2^40):ak 289 [vL 5 (l.map Hf.row),.fn (.func 294) [] [.aA 0 0]] [.cells [vL 5 (b.map Hf.row)]] [vB (l.any fun h => !b.any (tj h))] [.cells [vL 5 (b.map Hf.row)]]:=by
 apply Pt;refine⟨_,by
  apply PN;exact ew (Hd:=fun i=>pz _ _ i _) (p:=fun h => !b.any (tj h)) f fun i r g c d=>JC _ _ _ _ (eA (l:=l) (by simp) (fun x a=>⟨x.arg,x.op,x.high,x.mask,x.value,by omega,aY a,_,by apply ahm;exact⟨_,aap b x e,fi⟩,c x a⟩) d),ai (by rw[nz]) rfl⟩
def cv:List Hf->List Hf->List Hf×Bool
 |[],a=>(a,true)
 |h::t,a=>bif lI h then([],false)else bif a.any (fun x=>mS x h)then([],false)else bif !jh h then(bif !a.any (tj h)then cv t (a++[h])else cv t a)else cv t a
def rk:∀(l a:List Hf),(cv l a).1.length<=a.length+l.length
 |[],a=>ar _
 |h::t,a=>by
  have b:=rk t (a++[h]);have c:=rk t a;simp only[de,aC,cO]at b⊢;unfold cv;cases lI h
  .cases a.any fun x=>mS x h
   .cases jh h
    .cases a.any (tj h)<;>simp only[aj,af,fh,jM]<;>omega
    .simp only[aj,af,fh];omega
   .simp
  .simp
def prR:List Hf×Bool->List AV
 |(l,true)=>[.own 0 0 5 (l.map Hf.row),vB true]
 |(_,false)=>[vL 5 [],vB false]
def nI:∀(l a:List Hf),(cv l a).2=false->(cv l a).1=[]
 |[],a,h=>by simp[cv]at h
 |x::t,a,h=>by
  unfold cv at h⊢;cases h1:lI x<;>rw[h1]at h
  .cases h2:a.any (fun y=>mS y x)<;>rw[h2]at h
   .cases h3:jh x<;>rw[h3]at h
    .cases h4:a.any (tj x)<;>rw[h4]at h
     .exact nI t _ h
     .exact nI t _ h
    .exact nI t _ h
   .rfl
  .rfl
def aho(l:List Hf)(o:l.length<=2^40):ak 227 [vL 5 (l.map Hf.row)] [] [vL 5 ((cv l []).1.map Hf.row),vB (cv l []).2] []:=by
 have key:∀(t:List Hf)(i:Nat)(a:List Hf),l.drop i=t->a.length<=i->Lp f227 0 (wg (a.map Hf.row) (l.map Hf.row) l.length i) 0 (prR (cv t a)) []:=by
  intro t;induction t with
  |nil=>intro i a e _;apply Rv;exact aT (l:=l) rfl e fi
  |cons x t k=>
   intro i a e p;obtain⟨m,f,n⟩:=drop_cons e;apply Rv;refine aO (l:=l) rfl e ⟨x.arg,x.op,x.high,x.mask,x.value,by omega,aY m,_,ahb x,ae (fun b=>ai (by rw[cv,b];rfl) rfl) fun b=>⟨_,aao a x (by omega),ae (fun c=>ai (by rw[cv,b,c];rfl) rfl) fun c=>
    ⟨_,ahc x,ae (fun d=>⟨_,aap a x (by omega),ae (fun g=>⟨by simp;omega,aB,?_⟩) fun g=>⟨aB,?_⟩⟩) fun d=>⟨aB,?_⟩⟩⟩⟩
   .have:=k (i+1) (a++[x]) f (by simp;omega)
    rw[cv,b,c,d,g];rw[cg (l₁:=a) (l₂:=[x])]at this;exact this
   .rw[cv,b,c,d,g]
    exact k (i+1) a f (by omega)
   .rw[cv,b,c,d]
    exact k (i+1) a f (by omega)
 have w:ak 227 [vL 5 (l.map Hf.row)] [] (prR (cv l [])) []:=by
  apply ahe;rw[ao];exact key l 0 [] rfl (by simp)
 cases hb:(cv l []).2
 .have j:cv l []=([],false):=Prod.ext (nI l [] hb) hb
  rw[j]at w⊢;exact w
 .have j:cv l []=((cv l []).1,true):=Prod.ext rfl hb
  rw[j]at w;exact Go.Ac.ak.soft w rfl
def xZ(a b:List Hf):Bool:=bif decide ((a.length:Int)<=(b.length:Int))then !(a.any fun h => !b.any (tj h))else false
def ahp(a b:List Hf)(c:a.length<=2^40)(d:b.length<=2^40):ak 228 [vL 5 (a.map Hf.row),vL 5 (b.map Hf.row)] [] [vB (xZ a b)] []:=by
 have e:(a.map Hf.row).length=a.length:=ao ..;have lb:(b.map Hf.row).length=b.length:=ao ..;apply ahg;rw[e,lb];exact ae (fun h=>⟨_,aaq a b c d,ai (by rw[xZ,h];rfl) rfl⟩) fun h=>ai (by rw[xZ,h];rfl) rfl
def fZ:List (List Hf)->List (List Hf)
 |[]=>[]
 |x::t=>bif(cv x []).2 then(cv x []).1::fZ t else fZ t
def tl(x:List Hf)(i:Int):List (List Hf)->Int->Bool->Bool
 |[],_,g=>g
 |y::t,k,g=>tl x i t (k+1) (bif g then true else bif k !=i then(bif xZ y x then(bif decide ((y.length:Int)<(x.length:Int))then true else decide (k<i))else false)else false)
def qa(left:List (List Hf)):List (List Hf)->Int->List (List Hf)
 |[],_=>[]
 |x::t,i=>bif !tl x i left 0 false then x::qa left t (i+1)else qa left t (i+1)
def tm(l:List (List Hf)):List (List Hf):=qa (fZ l) (fZ l) 0
def zF{n:Nat}:∀(l:List (List Hf)),(∀x∈l,x.length<=n)->(fZ l).length<=l.length/\∀x∈fZ l,x.length<=n
 |[],_=>⟨ar _,by simp[fZ]⟩
 |x::t,h=>by
  obtain⟨d,b⟩:=zF t fun y a=>h y (aP _ a)
  have e:=h x aS;have c:=rk x [];unfold fZ;cases(cv x []).2
  .exact⟨by simp only[af,aC];omega,b⟩
  .refine⟨by simp only[aj,aC];omega,fun y a=>?_⟩
   rcases aU.1 (show y∈(cv x []).1::fZ t from a)with rfl|a
   .simp at c;omega
   .exact b y a
def uX{left:List (List Hf)}:∀(l:List (List Hf))(i:Int),(qa left l i).length<=l.length/\∀x∈qa left l i,x∈l
 |[],i=>⟨ar _,by simp[qa]⟩
 |x::t,i=>by
  obtain⟨c,b⟩:=uX (left:=left) t (i+1);unfold qa;cases tl x i left 0 false
  .refine⟨by simp only[jM,aj,aC];omega,fun y a=>?_⟩
   rcases aU.1 (show y∈x::qa left t (i+1)from a)with rfl|a
   .exact aS
   .exact aP _ (b y a)
  .exact⟨by simp only[fh,af,aC];omega,fun y a=>aP _ (b y a)⟩
def ahq(l:List (List Hf))(T:l.length<=2^40)(u:∀x∈l,x.length<=2^40):ak 161 [vL 1 (cB l)] [] [vL 1 (cB (tm l))] []:=by
 obtain⟨Q,h⟩:=zF l u;have p:∀z:List (List Hf),(cB z).length=z.length:=fun z=>ao ..
 have one:∀(z:List (List Hf))(x:List Hf),cB (z++[x])=cB z++[[L 5 (x.map Hf.row)]]:=fun z x=>by simp[cB,hfR]
 have H:∀(left:List (List Hf)),left.length<=2^40->(∀x∈left,x.length<=2^40)->∀(t:List (List Hf))(i:Nat)(a:List (List Hf)),left.drop i=t->a.length<=i ->
   Lp f161 1 (zE (cB left) (cB a) (cB left) left.length i) 0 [.own 0 0 1 (cB (a++qa left t i))] []:=by
  intro left Y w t;induction t with
  |nil=>intro i a c _;apply Rt;exact aT (l:=left) rfl c (ai (by simp[qa]) rfl)
  |cons x t f=>
   intro i a c E;obtain⟨d,e,D⟩:=drop_cons c;have K:=w x (aK d);have inner:∀(s:List (List Hf))(j:Nat)(g:Bool),left.drop j=s ->
     Lp f161 2 (we (cB left) (cB a) i (x.map Hf.row) g (cB left) left.length i (cB left) left.length j) 0 [.own 0 0 1 (cB (a++(bif !tl x i s j g then x::qa left t (i+1)else qa left t (i+1))))] []:=by
    intro s;induction s with
    |nil=>
     intro j g m;apply Ru;refine aT (l:=left) rfl m (ae (fun b=>⟨by simp[cB];omega,aB,?_⟩) fun b=>⟨aB,?_⟩)
     .have:=f (i+1) (a++[x]) e (by simp;omega)
      rw[tl,b,aj];rw[one,bn]at this;exact this
     .rw[tl,b,af]
      exact f (i+1) a e (by omega)
    |cons y s q=>
     intro j g m;obtain⟨v,o,X⟩:=drop_cons m;have M:=w y (aK v);have J:(y.map Hf.row).length=y.length:=ao ..;have I:(x.map Hf.row).length=x.length:=ao ..;apply Ru;rw[tl];refine aO (l:=left) rfl m ⟨y.map Hf.row,by omega,aY v,?_⟩
     simp only[J,I];refine ae (fun b=>⟨aB,?_⟩) fun b=>ae (fun n=>⟨_,ahp y x M K,aB,?_⟩) fun n=>⟨aB,?_⟩
     .rw[b];exact q (j+1) _ o
     .rw[b,n];exact q (j+1) _ o
     .rw[b,n];exact q (j+1) _ o
   apply Rt;refine aO (l:=left) rfl c ⟨x.map Hf.row,by omega,aY d,?_⟩
   rw[p];exact inner left 0 false rfl
 have G:∀(t:List (List Hf))(i:Nat)(a:List (List Hf)),l.drop i=t->a.length<=i->fZ l=a++fZ t->Lp f161 0 (zD (cB a) (cB l) l.length i) 0 [.own 0 0 1 (cB (tm l))] []:=by
  intro t;induction t with
  |nil=>
   intro i a c _ k;simp only[fZ,eG]at k;subst k;apply Rs;refine aT (l:=l) rfl c ?_;rw[p];exact H (fZ l) (by omega) h (fZ l) 0 [] rfl (by simp)
  |cons x t f=>
   intro i a c E k;obtain⟨d,e,D⟩:=drop_cons c;apply Rs;refine aO (l:=l) rfl c ⟨x.map Hf.row,by omega,aY d,_,_,aho x (u x (aK d)),ae (fun b=>⟨by simp[cB];omega,aB,?_⟩) fun b=>⟨aB,?_⟩⟩
   .have:=f (i+1) (a++[(cv x []).1]) e (by simp;omega) (by rw[k,fZ,b,aj,bn];rfl)
    rw[one]at this;exact this
   .exact f (i+1) a e (by omega) (by rw[k,fZ,b,af])
 refine Go.Ac.ak.soft (r:=[.own 0 0 1 _]) ?_ rfl;apply ahd;rw[p];exact G l 0 [] rfl (by simp) rfl
def Hh(a:Rw)(b c:Int)(d:List (PV×AV)):St:=⟨aM 69 [(4,.mp 0),(15,vL 9 a),(16,vN b),(17,vN c)],[],[.map 209 d]⟩
def Hi(a b:Rw)(c d:Int)(e:List (PV×AV)):St:=⟨aM 69 [(4,.mp 0),(11,.own 0 0 2 a),(53,vL 1 b),(54,vN c),(55,vN d)],[some 0],[.map 209 e]⟩
def A80:bq:={an:=[(4,1,ah),(5,2,ah),(8,2,ah),(11,2,fg),(11,5,fg),(11,6,iH),(11,9,fg),(11,11,{fz:=true,bA:=true,cons:=[0]}),(11,12,iH),(14,1,{fn:=165}),(16,1,ah)],cut:=[(15,{bl:=[4,11,53,54,55],dw:=[(11,2)],owns:=[11]}),(3,{bl:=[4,15,16,17]})]}
def W80(a:Rw){r h}(H:Lp f80 0 (Hh a (a.length:Int) 0 []) 0 r h):
  ak 80 [vL 9 a] [] r h:=.of func80 A80 H
def Vs(d:Rw)(e b:Int)(a:List (PV×AV)){r h}(H:ay (decide (b<e)) (DW d b fun c k l q s t u w x=>∃p m,ak 106 [.agg [N k,N l]] [] [vW p,vB m] []/\ay (!m) (Fi r h [vL 2 [],vN 1] [])
 (∃f g,ak 107 [.agg [N q,N s,N t,U u,U w,L 6 x]] [] [vL 1 f,vN g] []/\ay (g !=0) (Fi r h [vL 2 [],vN g] [])
 (((cA a (W c)=none/\∃n,ak 108 [.own 0 0 3 [],.agg [L 1 f,N k,N l]] [] [.own 0 0 3 n] []/\bh .i64 (b+1)/\Lp f80 0 (Hh d e (b+1) (cn a (W c) (O 3 n))) 0 r h)\/(∃i,cA a (W c)=some (O 3 i)/\∃o,ak 108 [.own 0 0 3 i,.agg [L 1 f,N k,N l]] [] [.own 0 0 3 o] []/\bh .i64 (b+1)/\Lp f80 0 (Hh d e (b+1) (cn (cn a (W c) (.v (.sl 3 i))) (W c) (O 3 o))) 0 r h)))))
 (ak 110 [.mp 0] [.map 209 a] [.fn (.func 165) [] [.aA 1 0]] [.map 209 a,.cells [.mp 0]]/\∃j,ak 109 [.fn (.func 165) [] [.aA 0 0]] [.cells [.mp 1],.map 209 a] [vL 1 j] [.cells [.mp 1],.map 209 a]/\Lp f80 1 (Hi [] j (j.length:Int) 0 a) 0 r h)):
  Lp f80 0 (Hh d e b a) 0 r h:=.of A80 H
def Vt(b e:Rw)(f a:Int)(d:List (PV×AV)){r h}(H:ay (decide (a<f)) (Rdw e a fun c=>((cA d (W c)=none/\(b++([[W c,L 3 []]]:Rw)).length*32<=2^47/\bh .i64 (a+1)/\Lp f80 1 (Hi (b++([[W c,L 3 []]]:Rw)) e f (a+1) d) 0 r h)\/(∃g,cA d (W c)=some (O 3 g)/\(b++([[W c,L 3 g]]:Rw)).length*32<=2^47/\bh .i64 (a+1)/\Lp f80 1 (Hi (b++([[W c,L 3 g]]:Rw)) e f (a+1) d) 0 r h)))
 (Fi r h [.own 0 0 2 b,vN 0] [])):
  Lp f80 1 (Hi b e f a d) 0 r h:=.of A80 H
def EM(a b:Rw)(c d:Int):St:=⟨aM 43 [(6,.own 0 0 1 a),(19,vL 1 b),(20,vN c),(21,vN d)],[some 0],[]⟩
def aar:bq:={an:=[(1,1,ah),(7,1,ah),(8,1,ah),(10,3,aa),(10,4,aa),(10,5,aa),(13,1,ah)],cut:=[(6,{bl:=[6,19,20,21],dw:=[(6,1)],owns:=[6]})]}
def ahs(c d e f g:Int)(i:Rw){r h}(H:∃a b,ak 159 [.agg [N c,N d,N e,U f,U g,L 6 i]] [] [vL 1 a,vN b] []/\ay (b !=0) (Fi r h [vL 1 [],vN b] [])
 (Lp f107 0 (EM [] a (a.length:Int) 0) 0 r h)):
  ak 107 [.agg [N c,N d,N e,U f,U g,L 6 i]] [] r h:=.of func107 aar H
def Rx(a d:Rw)(e b:Int){r h}(H:ay (decide (b<e)) (OL d b fun i=>∃c f,ak 160 [vL 4 i] [] [vL 1 c,vB f] []/\(a++c).length*24<=2^47/\ay (bif(!f)then true else(decide (((a++c).length:Int)>256))) (Fi r h [vL 1 [],vN 9] [])
 (bh .i64 (b+1)/\Lp f107 0 (EM (a++c) d e (b+1)) 0 r h))
 (∃g,ak 161 [vL 1 a] [] [vL 1 g] []/\Fi r h [vL 1 g,vN 0] [])):
  Lp f107 0 (EM a d e b) 0 r h:=.of aar H
def aht:bq:={an:=[(1,14,ah),(1,15,ah)]}
def ahu(a b:Rw)(c d:Int){r h}(H:ay ((b.length:Int)==0) (Fi r h [.own 0 0 3 a] []) (ay (decide ((a.length:Int)>0)) (bh .i64 ((a.length:Int)-1)/\qQ a ((a.length:Int)-1) fun f g i=>∃e,ak 162 [.agg [L 1 f,N g,N i]] [] [vB e] []/\ay e (Fi r h [.own 0 0 3 a] [])
 ((a++([[L 1 b,N c,N d]]:Rw)).length*40<=2^47/\Fi r h [.own 0 0 3 (a++([[L 1 b,N c,N d]]:Rw))] [])) ((a++([[L 1 b,N c,N d]]:Rw)).length*40<=2^47/\Fi r h [.own 0 0 3 (a++([[L 1 b,N c,N d]]:Rw))] []))):
  ak 108 [.own 0 0 3 a,.agg [L 1 b,N c,N d]] [] r h:=.of func108 aht H
def EN(a b:Rw)(c d:Int):St:=⟨aM 26 [(4,vL 1 a),(9,vL 4 b),(10,vN c),(11,vN d)],[],[]⟩
def aas:bq:={an:=[(4,1,ah),(6,2,ah),(6,3,ah)],cut:=[(3,{bl:=[4,9,10,11]})]}
def ahv(a:Rw){r h}(H:Lp f160 0 (EN [[L 5 []]] a (a.length:Int) 0) 0 r h):
  ak 160 [vL 4 a] [] r h:=.of func160 aas H
def Ry(b c:Rw)(d a:Int){r h}(H:ay (decide (a<d)) (Wx c a fun i j k l=>∃e,ak 226 [.agg [N i,N j,U k,U l]] [] [vL 1 e] []/\∃f g,ak 225 [vL 1 b,vL 1 e] [] [vL 1 f,vB g] []/\ay (!g) (Fi r h [vL 1 [],vB false] [])
 (bh .i64 (a+1)/\Lp f160 0 (EN f c d (a+1)) 0 r h))
 (Fi r h [vL 1 b,vB true] [])):
  Lp f160 0 (EN b c d a) 0 r h:=.of aas H
def ahw:bq:={}
def ahx(a:Rw)(c d:Int){r h}(H:∃b,ak 229 [vL 1 a,.fn (.func 230) [] []] [] [vB b] []/\Fi r h [vB b] []):
  ak 162 [.agg [L 1 a,N c,N d]] [] r h:=.of func162 ahw H
def ahy:bq:={}
def ahz(a:Rw){r h}(H:Fi r h [vB ((a.length:Int)==0)] []):
  ak 230 [vL 5 a] [] r h:=.of func230 ahy H
def cM:List At->List (List Hf)->List (List Hf)×Bool
 |[],b=>(b,true)
 |a::t,b=>bif !(lr b (dM a)).2 then([],false)else cM t (lr b (dM a)).1
def zG(a:At):CL 2 (dM a):=by
 unfold dM l4;cases !sD a.arg a.op
 .cases a.op==1
  .cases a.op==2
   .cases a.op==6
    .cases a.op==4<;>exact⟨by simp,by simp⟩
    .exact⟨by simp,by simp⟩
   .exact⟨by simp,by simp⟩
  .exact⟨by simp,by simp⟩
 .exact⟨by simp,by simp⟩
def tn:∀(l:List At)(b:List (List Hf))(n:Nat),CL n b->CL (n+2*l.length) (cM l b).1
 |[],b,n,h=>h
 |a::t,b,n,h=>by
  unfold cM;have c:=zC h.each (zG a).each;cases(lr b (dM a)).2
  .exact⟨by simp,by simp⟩
  .have:=tn t _ _ c
   rw[show n+2+2*t.length=n+2*(a::t).length by simp;omega]at this
   exact this
def ahA(l:List At)(p:l.length<=2^38):ak 160 [vL 4 (l.map At.row)] [] [vL 1 (cB (cM l [[]]).1),vB (cM l [[]]).2] []:=by
 have key:∀(t:List At)(i:Nat)(b:List (List Hf))(n:Nat),l.drop i=t->CL n b->n<=2*i+1->Lp f160 0 (EN (cB b) (l.map At.row) l.length i) 0 [vL 1 (cB (cM t b).1),vB (cM t b).2] []:=by
  intro t;induction t with
  |nil=>intro i b n c _ _;apply Ry;exact aT (l:=l) rfl c fi
  |cons a t m=>
   intro i b n c f q;obtain⟨j,k,o⟩:=drop_cons c;have e:=zG a;apply Ry;refine aO (l:=l) rfl c ⟨a.arg,a.op,a.mask,a.value,by omega,aY j,_,aha a,_,_,Go.Ac.ak.soft (ag7 b (dM a) (by have:=f.len;omega) (by have:=e.len;omega) (fun x g=>by have:=f.each x g;omega) (fun x g=>by have:=e.each x g;omega)) rfl,
    ae (fun d=>ai (by rw[cM,d];rfl) rfl) fun d=>⟨aB,?_⟩⟩
   rw[cM,d];exact m (i+1) _ _ k (zC f.each e.each) (by omega)
 apply ahv;rw[ao];exact key l 0 [[]] 0 rfl ⟨by simp,by simp⟩ (by omega)
def lJ:List (List At)->List (List Hf)->List (List Hf)×Int
 |[],a=>(tm a,0)
 |x::t,a=>bif(bif !(cM x [[]]).2 then true else decide (((a++(cM x [[]]).1).length:Int)>256))then([],9)else lJ t (a++(cM x [[]]).1)
def cj(c:Cn):List (List Hf)×Int:=bif(fu c).2 !=0 then([],(fu c).2)else lJ (fu c).1 []
def wV(c:Cn):CL (dU c) (fu c).1:=by
 have h:=J2 (sO c);have a:=zB c;unfold fu;cases(uW (sO c)).2
 .exact⟨by simp,by simp⟩
 .exact⟨h.len,fun x b=>dF (h.each x b) a⟩
def ahB(c:Cn)(u:dU c<=2^38):ak 107 [Bf c] [] [vL 1 (cB (cj c).1),vN (cj c).2] []:=by
 have j:=wV c;generalize o:(fu c).1=l at j;have key:∀(t:List (List At))(i:Nat)(a:List (List Hf)),l.drop i=t->CL (2^40) a->Lp f107 0 (EM (cB a) (iz l) l.length i) 0 [vL 1 (cB (lJ t a).1),vN (lJ t a).2] []:=by
  intro t;induction t with
  |nil=>intro i a g d;apply Rx;exact aT (l:=l) rfl g ⟨_,ahq a (by have:=d.len;omega) d.each,fi⟩
  |cons x t p=>
   intro i a g d;obtain⟨k,n,q⟩:=drop_cons g;have v:=j.each x (aK k);have m:=tn x [[]] 0 ⟨by simp,by simp⟩
   have e:cB a++cB (cM x [[]]).1=cB (a++(cM x [[]]).1):=by simp[cB]
   have le:(cB (a++(cM x [[]]).1)).length=(a++(cM x [[]]).1).length:=ao ..;have w:=d.len;have z:=m.len;have r:=j.len;apply Rx;refine aO (l:=l) rfl g ⟨x.map At.row,by omega,aY k,_,_,ahA x (by omega),?_⟩
   rw[e,le];refine⟨by simp;omega,ae (fun b=>ai (by rw[lJ,b];rfl) rfl) fun b=>⟨aB,?_⟩⟩
   rw[lJ,b];have s:¬(((a++(cM x [[]]).1).length:Int)>256):=by
    cases hb : !(cM x [[]]).2<;>rw[hb]at b
    .exact bH b
    .simp at b
   refine p (i+1) _ n ⟨by omega,fun y f=>?_⟩
   rcases bC.1 f with f|f
   .exact d.each y f
   .have:=m.each y f;omega
 apply ahs;refine⟨_,_,ag9 c (by omega),ae (fun h=>ai (by rw[cj,h];rfl) rfl) fun h=>?_⟩
 rw[cj,h,o,show(iz l).length=l.length from ao ..]
 exact key l 0 [] rfl ⟨by simp,by simp⟩
structure Sp where
 cl:List (List Hf)
 act:Act
def Sp.row(s:Sp):List PV:=[L 1 (cB s.cl),N s.act.kind,N s.act.data]
abbrev Yw(s:Sp):AV:=.agg [L 1 (cB s.cl),N s.act.kind,N s.act.data]
def nJ(a:List (List Hf)):Bool:=a.any fun l=>(l.length:Int)==0
def aat(s:Sp)(d:s.cl.length<=2^40):ak 162 [Yw s] [] [vB (nJ s.cl)] []:=by
 apply ahx;refine⟨_,by
  apply Pd;refine⟨_,by
   apply Pu;exact ew (Hd:=fun i=>pq _ _ i) (p:=fun l:List Hf=>(l.length:Int)==0) d fun i r e b c=>Jx _ _ _ (eA (l:=s.cl) (by simp[cB]) (fun x a=>⟨x.map Hf.row,by omega,aY a,_,by apply ahz;rw[ao];exact fi,b x a⟩) c),ai (by rw[nz];rfl) rfl⟩,fi⟩
def mT(l:List Sp)(s:Sp):List Sp:=bif(s.cl.length:Int)==0 then l else bif decide ((l.length:Int)>0)then(bif nJ (l.getLastD ⟨[],⟨0,0⟩⟩).cl then l else l++[s])else l++[s]
def aau(l:List Sp)(s:Sp)(k:l.length<=2^40)(g:∀x∈l,x.cl.length<=2^40):ak 108 [.own 0 0 3 (l.map Sp.row),Yw s] [] [.own 0 0 3 ((mT l s).map Sp.row)] []:=by
 have i:(cB s.cl).length=s.cl.length:=ao ..;have j:(l.map Sp.row).length=l.length:=ao ..;have e:l.map Sp.row++([[L 1 (cB s.cl),N s.act.kind,N s.act.data]]:Rw)=(l++[s]).map Sp.row:=by simp[Sp.row]
 apply ahu;rw[i,e,j];refine ae (fun h=>ai (by rw[mT,h];rfl) rfl) fun h=>ae (fun a=>?_) fun a=>⟨by simp;omega,ai (by rw[mT,h,a];rfl) rfl⟩
 have c:=aN a;have d:l≠[]:=by intro h;rw[h]at c;simp at c
 have f:l.getLast?=some (l.getLastD ⟨[],⟨0,0⟩⟩):=by rw[jk d,jP,jk d];rfl
 refine⟨aB,cB (l.getLastD ⟨[],⟨0,0⟩⟩).cl,(l.getLastD ⟨[],⟨0,0⟩⟩).act.kind,(l.getLastD ⟨[],⟨0,0⟩⟩).act.data,by omega,?_,_,aat (l.getLastD ⟨[],⟨0,0⟩⟩) (g _ (tU f)),ae (fun b=>ai (by rw[mT,h,a];simp only[aj,af,b]) rfl) fun b=>⟨by simp;omega,ai (by rw[mT,h,a];simp only[aj,af,b]) rfl⟩⟩
 rw[show Int.toNat ((l.length:Int)-1)=l.length-1 by omega,bp,<-xK,f]
 rfl
abbrev Mk:=Int×List Sp
def T9(l:List Mk):List (PV×AV):=l.map fun x=>(W x.1,O 3 (x.2.map Sp.row))
def gm(l:List Mk)(k:Int):Option Mk:=l.find? fun x=>k==x.1
def oL(x:Mk):List Mk->List Mk
 |[]=>[x]
 |y::l=>bif x.1==y.1 then x::l else y::oL x l
def EO(a b:Int):lz (W a) (W b)=(a==b):=rfl
def x0(k:Int):∀(l:List Mk),cA (T9 l) (W k)=(gm l k).map fun x=>O 3 (x.2.map Sp.row)
 |[]=>rfl
 |x::l=>by
  have a:=x0 k l;unfold T9 gm at a⊢;rw[bB,cA,EO,cx];cases k==x.1
  .exact a
  .rfl
def Lt(x:Mk):∀(l:List Mk),cn (T9 l) (W x.1) (O 3 (x.2.map Sp.row))=T9 (oL x l)
 |[]=>rfl
 |y::l=>by
  have a:=Lt x l;unfold T9 at a⊢;rw[bB,cn,EO,oL];cases x.1==y.1
  .rw[aI (by decide),a];rfl
  .rfl
def Lu(k:Int)(a b:AV):∀(c:List (PV×AV)),cn (cn c (W k) a) (W k) b=cn c (W k) b
 |[]=>by simp only[cn,EO,beq_self_eq_true];rfl
 |y::c=>by
  rw[cn];split
  .rename_i h
   rw[cn,EO,beq_self_eq_true,aF rfl];rw[cn,aF h]
  .rename_i h
   rw[cn,aI h,Lu k a b c];rw[cn,aI h]
structure Ch where
 nr:Int
 steps:List Sp
def Ch.row(c:Ch):List PV:=[W c.nr,L 3 (c.steps.map Sp.row)]
def cJ:List Bd->List Mk->Except Int (List Mk)
 |[],m=>.ok m
 |b::t,m=>bif !(bV b.act).2 then .error 1 else bif(cj b.cond).2 !=0 then .error (cj b.cond).2 else cJ t (oL (b.nr,mT (((gm m b.nr).map (·.2)).getD []) ⟨(cj b.cond).1,b.act⟩) m)
def bT(m:List Mk):List Ch:=(gD (m.map (·.1))).map fun k=>⟨k,((gm m k).map (·.2)).getD []⟩
def pM(l:List Bd):Except Int (List Ch):=match cJ l []with
 |.error e=>.error e
 |.ok m=>.ok (bT m)
def chR:Except Int (List Ch)->List AV
 |.error e=>[vL 2 [],vN e]
 |.ok l=>[.own 0 0 2 (l.map Ch.row),vN 0]
def chV:Except Int (List Ch)->List AV
 |.error e=>[vL 2 [],vN e]
 |.ok l=>[vL 2 (l.map Ch.row),vN 0]
structure XL (n:Nat) (m:List Mk):Prop where
 nodup:(m.map (·.1)).Nodup
 len:m.length<=n
 steps:∀x∈m,x.2.length<=n/\∀s∈x.2,s.cl.length<=256
def lu{x:Mk}:∀{l:List Mk}{y:Mk},y∈oL x l->y=x\/y∈l
 |[],y,h=>by simp[oL]at h;exact .inl h
 |z::l,y,h=>by
  unfold oL at h;cases hk:x.1==z.1<;>rw[hk]at h
  .rw[af]at h
   rcases aU.1 h with rfl|h
   .exact .inr aS
   .rcases lu h with h|h
    .exact .inl h
    .exact .inr (aP _ h)
  .rw[aj]at h
   rcases aU.1 h with rfl|h
   .exact .inl rfl
   .exact .inr (aP _ h)
def zH(x:Mk):∀(l:List Mk),(oL x l).length<=l.length+1
 |[]=>ar _
 |z::l=>by
  have:=zH x l;unfold oL;cases x.1==z.1<;>simp only[aj,af,aC]<;>omega
def tp{x:Mk}:∀{l:List Mk},(l.map (·.1)).Nodup->((oL x l).map (·.1)).Nodup
 |[],_=>by simp[oL]
 |z::l,h=>by
  rw[bB,hH]at h;unfold oL;cases hk:x.1==z.1
  .rw[af,bB,hH]
   refine⟨fun c=>?_,tp h.2⟩
   obtain⟨y,a,b⟩:=bg.1 c;rcases lu a with rfl|a
   .exact gr hk b
   .exact h.1 (bg.2 ⟨y,a,b⟩)
  .rw[aj,bB,hH,eq_of_beq hk]
   exact h
def B3:∀(l:List (List Hf)),(fZ l).length<=l.length
 |[]=>ar _
 |x::t=>by
  have:=B3 t;unfold fZ;cases(cv x []).2<;>simp only[aj,af,aC]<;>omega
def XL.mono{n m:Nat}{l:List Mk}(h:XL n l)(b:n<=m):XL m l:=⟨h.nodup,by have:=h.len;omega,fun x a=>⟨by have:=(h.steps x a).1;omega,(h.steps x a).2⟩⟩
def zI:∀(l:List (List At))(a:List (List Hf)),a.length<=256->(lJ l a).1.length<=256
 |[],a,h=>by
  have b:=(uX (left:=fZ a) (fZ a) 0).1;have c:=B3 a;show(tm a).length<=256
  unfold tm;omega
 |x::t,a,h=>by
  unfold lJ;cases hb:(bif !(cM x [[]]).2 then true else decide (((a++(cM x [[]]).1).length:Int)>256))
  .refine zI t _ ?_
   cases hc : !(cM x [[]]).2<;>rw[hc]at hb
   .have:=bH (show decide (((a++(cM x [[]]).1).length:Int)>256)=false from hb)
    omega
   .simp at hb
  .simp
def rn(c:Cn):(cj c).1.length<=256:=by
 unfold cj;cases(fu c).2 !=0
 .exact zI _ _ (by simp)
 .simp
def Ua{n:Nat}{l:List Sp}{s:Sp}(h:l.length<=n/\∀x∈l,x.cl.length<=256)(d:s.cl.length<=256):(mT l s).length<=n+1/\∀x∈mT l s,x.cl.length<=256:=by
 have a:(l++[s]).length<=n+1/\∀x∈l++[s],x.cl.length<=256:=by
  refine⟨by simp;omega,fun x c=>?_⟩
  rcases bC.1 c with c|c
  .exact h.2 x c
  .rw[cE.1 c];exact d
 have b:l.length<=n+1/\∀x∈l,x.cl.length<=256:=⟨by omega,h.2⟩
 unfold mT;cases(s.cl.length:Int)==0
 .cases decide ((l.length:Int)>0)
  .exact a
  .cases nJ (l.getLastD ⟨[],⟨0,0⟩⟩).cl
   .exact a
   .exact b
 .exact b
def lv{l:List Mk}{k:Int}{x:Mk}(h:gm l k=some x):x∈l/\k=x.1:=by
 unfold gm at h;exact⟨kS h,by have:=ql h;exact eq_of_beq this⟩
def step_ok{n:Nat}{m:List Mk}{b:Bd}(h:XL n m):XL (n+1) (oL (b.nr,mT (((gm m b.nr).map (·.2)).getD []) ⟨(cj b.cond).1,b.act⟩) m):=by
 have a:(((gm m b.nr).map (·.2)).getD []).length<=n/\∀x∈((gm m b.nr).map (·.2)).getD [],x.cl.length<=256:=by
  cases a:gm m b.nr with
  |none=>exact⟨by simp,by simp⟩
  |some x=>exact h.steps x (lv a).1
 refine⟨tp h.nodup,?_,fun x c=>?_⟩
 .have:=zH (b.nr,mT (((gm m b.nr).map (·.2)).getD []) ⟨(cj b.cond).1,b.act⟩) m
  have:=h.len;omega
 .rcases lu c with rfl|c
  .exact Ua a (rn _)
  .have:=h.steps x c
   exact⟨by omega,this.2⟩
def se:∀(l:List Int)(k:Int),k∈gD l<->k∈l:=by
 have b:∀(n:Int)(l:List Int)(k:Int),k∈ni n l<->k=n\/k∈l:=by
  intro n l;induction l with
  |nil=>intro k;simp[ni]
  |cons m l a=>
   intro k;unfold ni;cases decide (n<=m)
   .simp only[af,aU,a]
    constructor
    .rintro(h|h|h)<;>simp[h]
    .rintro(h|h|h)<;>simp[h]
   .simp
 intro l;induction l with
 |nil=>intro k;simp[gD]
 |cons n l a=>intro k;rw[gD,b,a];simp
def wh:∀(l:List Int),(gD l).length=l.length:=by
 have b:∀(n:Int)(l:List Int),(ni n l).length=l.length+1:=by
  intro n l;induction l with
  |nil=>rfl
  |cons m l a=>unfold ni;cases decide (n<=m)<;>simp[a]
 intro l;induction l with
 |nil=>rfl
 |cons n l a=>rw[gD,b,a];simp
def C80(l:List Bd)(Z:l.length<=2^20)(K:∀b∈l,dU b.cond<=2^38)(J:∀b∈l,0<=b.nr/\b.nr<4294967296):ak 80 [vL 9 (l.map Bd.row)] [] (chV (pM l)) []:=by
 have Q:∀(m:List Mk),XL (2^20) m->∀(t:List Int)(i:Nat)(n:List Ch),(gD (m.map (·.1))).drop i=t->n.length<=i ->
   Lp f80 1 (Hi (n.map Ch.row) ((gD (m.map (·.1))).map fun k=>[W k]) (gD (m.map (·.1))).length i (T9 m)) 0 [.own 0 0 2 ((n++t.map fun k=>(⟨k,((gm m k).map (·.2)).getD []⟩:Ch)).map Ch.row),vN 0] []:=by
  intro m c t;have D:=c.len;have X:=wh (m.map (·.1))
  rw[ao]at X;induction t with
  |nil=>intro i n g _;apply Vt;exact aT (l:=gD (m.map (·.1))) rfl g (ai (by simp) rfl)
  |cons k t j=>
   intro i n g F;obtain⟨o,s,E⟩:=drop_cons g;have v:k∈m.map (·.1):=(se _ _).1 (aK o)
   have d:∃x,gm m k=some x:=by
    cases d:gm m k with
    |some x=>exact⟨x,rfl⟩
    |none=>
     obtain⟨y,h,H⟩:=bg.1 v;have:=List.find?_eq_none.1 d y h;simp[H]at this
   obtain⟨x,a⟩:=d;apply Vt;refine aO (l:=gD (m.map (·.1))) rfl g ⟨k,by omega,aY (f:=fun k=>[W k]) o,.inr ⟨x.2.map Sp.row,by rw[x0,a];rfl,by simp;omega,aB,?_⟩⟩
   have:=j (i+1) (n++[⟨k,x.2⟩]) s (by simp;omega)
   rw[cg (l₁:=n) (l₂:=[_]),bn]at this;rw[bB,a];exact this
 have M:∀(t:List Bd)(i:Nat)(m:List Mk),l.drop i=t->i+t.length=l.length->XL i m->(∀x∈m,0<=x.1/\x.1<4294967296)->Lp f80 0 (Hh (l.map Bd.row) l.length i (T9 m)) 0 (chR (match cJ t m with|.error e=>.error e|.ok m=>.ok (bT m))) []:=by
  intro t;induction t with
  |nil=>
   intro i m g r c z;simp only[cO]at r;have c:=c.mono (m:=2^20) (by omega)
   have D:=c.len;apply Vs;have Y:=adl (T9 m) (m.map (·.1)) (by simp[T9,Function.comp_def]) c.nodup (fun k v=>by obtain⟨x,a,rfl⟩:=bg.1 v;exact z x a) (by simpa using D)
   refine aT (l:=l) rfl g ⟨adk _,_,Y,?_⟩;have:=Q m c (gD (m.map (·.1))) 0 [] rfl (by simp)
   rw[ao];exact this
  |cons b t j=>
   intro i m g r c z;simp only[aC]at r;obtain⟨o,s,E⟩:=drop_cons g;have G:=K b (aK o);have T:=step_ok (b:=b) c;apply Vs;rw[cJ];refine aO (l:=l) rfl g ⟨b.nr,b.act.kind,b.act.data,b.cond.kind,b.cond.arg,b.cond.op,b.cond.mask,b.cond.value,dx b.cond.kids,by omega,(aY o).trans (by rw[Bd.row,Cn.cD]),_,_,TT b.act,ae (fun q=>ai (by rw[q];rfl) rfl) fun q=>
    ⟨_,_,ahB b.cond G,ae (fun u=>ai (by rw[q,u];rfl) rfl) fun u=>?_⟩⟩
   rw[q,u];have j:=j (i+1) _ s (by omega) T fun x a=>(lu a).elim (fun e=>e▸J b (aK o)) fun a=>z x a
   have I:=Lt (b.nr,mT (((gm m b.nr).map (·.2)).getD []) ⟨(cj b.cond).1,b.act⟩) m
   rw[<-I]at j;cases d:gm m b.nr with
   |none=>
    rw[d]at j;exact .inl ⟨by rw[x0,d];rfl,_,aau [] ⟨(cj b.cond).1,b.act⟩ (by simp) (by simp),aB,j⟩
   |some x=>
    have a:=c.steps x (lv d).1;rw[d]at j;exact .inr ⟨x.2.map Sp.row,by rw[x0,d];rfl,_,aau x.2 ⟨(cj b.cond).1,b.act⟩ (by omega) (fun y h=>by have:=a.2 y h;omega),aB,by rw[Lu];exact j⟩
 have w:ak 80 [vL 9 (l.map Bd.row)] [] (chR (pM l)) []:=by
  apply W80;rw[ao];exact M l 0 [] rfl (by simp) ⟨by simp,by simp,by simp⟩ (fun x a=>by simp at a)
 cases ht:pM l with
 |error p=>rw[ht]at w;exact w
 |ok p=>rw[ht]at w;exact Go.Ac.ak.soft w rfl
def Hj(a:Int)(b:Rw)(c d e f:Int)(g:Rw):St:=⟨aM 51 [(3,.aA 0 0),(5,.bo 1),(6,vN a),(10,vL 2 b),(11,vN c),(12,vN d)],[],[.cells [vN e,vN f],.bc 5 g]⟩
def A83:bq:={an:=[(5,1,ah),(10,8,aQ),(11,3,ah),(11,4,aQ),(15,5,aQ)],mod:=[(10,8,[(0,[999])]),(11,4,[(0,[999])]),(15,5,[(0,[999])])],cut:=[(4,{bl:=[3,5,6,10,11,12],iu:=[(5,5)]})],rf:=true}
def W83(a:Rw)(b c:Int){r h}(H:Lp f83 0 (Hj 0 a (a.length:Int) 0 b c []) 0 r h):
  ak 83 [vL 2 a,.agg [N b,N c]] [] r h:=.of func83 A83 H
def Vu(e:Int)(g:Rw)(i b c d:Int)(f:Rw){r h}(H:ay (decide (b<i)) (YJ g b fun a y=>ay (decide ((IntKind.wrap .i64 a)<e)) (Fi r h [.own 0 0 5 []] [])
 (ay (decide ((IntKind.wrap .i64 a)>e)) (∃j,ak 117 [.bo 0,.agg [W (IntKind.wrap .u32 e),W (IntKind.wrap .u32 (a-1)),L 3 [],N c,N d]] [.bc 5 f] [.bo 1] [.dead,.bc 5 j]/\∃k l m n o,ak 118 [.agg [W a,L 3 y],.agg [N c,N d]] [] [.agg [W k,W l,L 3 m,N n,N o]] []/\∃p,ak 117 [.bo 0,.agg [W k,W l,L 3 m,N n,N o]] [.bc 5 j] [.bo 1] [.dead,.bc 5 p]/\bh .i64 ((IntKind.wrap .i64 a)+1)/\bh .i64 (b+1)/\Lp f83 0 (Hj ((IntKind.wrap .i64 a)+1) g i (b+1) c d p) 0 r h)
 (∃q s t u v,ak 118 [.agg [W a,L 3 y],.agg [N c,N d]] [] [.agg [W q,W s,L 3 t,N u,N v]] []/\∃w,ak 117 [.bo 0,.agg [W q,W s,L 3 t,N u,N v]] [.bc 5 f] [.bo 1] [.dead,.bc 5 w]/\bh .i64 ((IntKind.wrap .i64 a)+1)/\bh .i64 (b+1)/\Lp f83 0 (Hj ((IntKind.wrap .i64 a)+1) g i (b+1) c d w) 0 r h)))
 (ay (decide (e<=4294967295)) (∃x,ak 117 [.bo 0,.agg [W (IntKind.wrap .u32 e),W 4294967295,L 3 [],N c,N d]] [.bc 5 f] [.bo 1] [.dead,.bc 5 x]/\Fi r h [vL 5 x] [])
 (Fi r h [vL 5 f] []))):
  Lp f83 0 (Hj e g i b c d f) 0 r h:=.of A83 H
def ahC:bq:={an:=[(1,1,aQ),(2,5,aQ),(2,8,ah),(3,4,aQ),(5,3,aQ)]}
def ahD(a:Rw)(c b:Int)(d:Rw)(e f:Int){r h}(H:bh .i64 ((a.length:Int)-1)/\ay (decide (((a.length:Int)-1)>=0)) ((0<=((a.length:Int)-1)/\((a.length:Int)-1)<(a.length:Int))/\OM a ((a.length:Int)-1) fun i j k l m=>∃g,ak 168 [.agg [W i,W j,L 3 k,N l,N m],.agg [W c,W b,L 3 d,N e,N f]] [] [vB g] []/\ay g ((0<=((a.length:Int)-1)/\((a.length:Int)-1)<(a.length:Int))/\1+1<=5/\Fi r h [.bo 1] [.dead,.bc 5 (setRow a (Int.toNat ((a.length:Int)-1)) 1 [W b])])
 ((a++([[W c,W b,L 3 d,N e,N f]]:Rw)).length*48<=2^47/\Fi r h [.bo 1] [.dead,.bc 5 (a++([[W c,W b,L 3 d,N e,N f]]:Rw))])) ((a++([[W c,W b,L 3 d,N e,N f]]:Rw)).length*48<=2^47/\Fi r h [.bo 1] [.dead,.bc 5 (a++([[W c,W b,L 3 d,N e,N f]]:Rw))])):
  ak 117 [.bo 0,.agg [W c,W b,L 3 d,N e,N f]] [.bc 5 a] r h:=.of func117 ahC H
def ahE:bq:={an:=[(1,1,fy),(1,3,fy),(1,5,fy),(1,6,ah),(1,7,fg),(1,10,{fb:=some [3]}),(3,7,ah),(3,8,ah),(4,5,ah)]}
def ahF(b:Int)(e:Rw)(c d:Int){r h}(H:∃a,ak 169 [vL 3 e] [] [vL 3 a] []/\bh .i64 ((a.length:Int)-1)/\ay (decide (((a.length:Int)-1)>=0)) (qQ a ((a.length:Int)-1) fun g i j=>∃f,ak 162 [.agg [L 1 g,N i,N j]] [] [vB f] []/\ay f (qQ a ((a.length:Int)-1) fun m k l=>(0<=(0:Int)/\(0:Int)<=((a.length:Int)-1)/\((a.length:Int)-1)<=(a.length:Int))/\Fi r h [.agg [W b,W b,L 3 (List.drop 0 (List.take (Int.toNat ((a.length:Int)-1)) a)),N k,N l]] [])
 (Fi r h [.agg [W b,W b,L 3 a,N c,N d]] [])) (Fi r h [.agg [W b,W b,L 3 a,N c,N d]] [])):
  ak 118 [.agg [W b,L 3 e],.agg [N c,N d]] [] r h:=.of func118 ahE H
def ahG:bq:={}
def ahH(i j:Int)(a:Rw)(b c k l:Int)(d:Rw)(e f:Int){r h}(H:ay ((true&&(b==e))&&(c==f)) (∃g,ak 237 [vL 3 a,vL 3 d,.fn (.func 238) [] []] [] [vB g] []/\Fi r h [vB g] []) (Fi r h [vB false] [])):
  ak 168 [.agg [W i,W j,L 3 a,N b,N c],.agg [W k,W l,L 3 d,N e,N f]] [] r h:=.of func168 ahG H
def EP(a b:Rw)(c d:Int):St:=⟨aM 39 [(3,.own 0 0 3 a),(9,vL 3 b),(10,vN c),(11,vN d)],[some 0],[]⟩
def ER(a b:Rw)(c d:Int)(e:Rw)(f g:Int)(i:Rw)(j k:Int):St:=⟨aM 39 [(3,.own 0 0 3 a),(6,.aA 0 0),(9,vL 3 b),(10,vN c),(11,vN d),(19,vL 1 e),(20,vN f),(21,vN g)],[some 0],[.cells [O 1 i,vN j,vN k]]⟩
def XM:bq:={an:=[(4,1,ah),(8,1,ah),(9,1,{take:=true}),(9,3,ah),(9,7,{take:=true})],cut:=[(3,{bl:=[3,9,10,11],dw:=[(3,3)],owns:=[3]}),(7,{bl:=[3,6,9,10,11,19,20,21],dw:=[(3,3)],owns:=[3]})]}
def ahI(a:Rw){r h}(H:Lp f169 0 (EP [] a (a.length:Int) 0) 0 r h):
  ak 169 [vL 3 a] [] r h:=.of func169 XM H
def Rz(b c:Rw)(d a:Int){r h}(H:ay (decide (a<d)) (qQ c a fun e f g=>Lp f169 1 (ER b c d a e (e.length:Int) 0 [] f g) 0 r h)
 (Fi r h [.own 0 0 3 b] [])):
  Lp f169 0 (EP b c d a) 0 r h:=.of XM H
def RA(c g:Rw)(i d:Int)(j:Rw)(k a:Int)(b:Rw)(e f:Int){r h}(H:ay (decide (a<k)) (vG j a fun m=>∃l,ak 239 [vL 5 m] [] [vL 5 l] []/\(b++([[L 5 l]]:Rw)).length*24<=2^47/\bh .i64 (a+1)/\Lp f169 1 (ER c g i d j k (a+1) (b++([[L 5 l]]:Rw)) e f) 0 r h)
 ((c++([[L 1 b,N e,N f]]:Rw)).length*40<=2^47/\bh .i64 (d+1)/\Lp f169 0 (EP (c++([[L 1 b,N e,N f]]:Rw)) g i (d+1)) 0 r h)):
  Lp f169 1 (ER c g i d j k a b e f) 0 r h:=.of XM H
def ahJ:bq:={}
def ahK(a:Rw)(b c:Int)(d:Rw)(e f:Int){r h}(H:ay ((true&&(b==e))&&(c==f)) (∃g,ak 309 [vL 1 a,vL 1 d,.fn (.func 310) [] []] [] [vB g] []/\Fi r h [vB g] []) (Fi r h [vB false] [])):
  ak 238 [.agg [L 1 a,N b,N c],.agg [L 1 d,N e,N f]] [] r h:=.of func238 ahJ H
def ahL:bq:={an:=[(1,2,ah)]}
def ahM(a b:Rw){r h}(H:∃c,ak 311 [vL 5 a,vL 5 b] [] [vB c] []/\Fi r h [vB c] []):
  ak 310 [vL 5 a,vL 5 b] [] r h:=.of func310 ahL H
def Hk{α:Type}(f:α->α->Bool):List α->List α->Bool
 |x::s,y::t=>bif !f x y then false else Hk f s t
 |_,_=>true
def Iu{α:Type}(f:α->α->Bool)(a b:List α):Bool:=bif(a.length:Int) !=(b.length:Int)then false else Hk f a b
def ES{fn:Func}{g:List Item}{base:Nat}{Hd:Int->St}{e:List Bx}{α:Type}{f:α->α->Bool}{a b:List α}(E:a.length=b.length)(v:a.length<=2^40)
  (step:∀(i:Nat)(r:List AV)(h:List Bx),(∀x y,a[i]?=some x->b[i]?=some y->ay (!f x y) (Fi r h [vB false] e) (bh .i64 ((i:Int)+1)/\ma fn g (Hd ((i:Int)+1)) base r h))->(a[i]?=none->Fi r h [vB true] e)->ma fn g (Hd i) base r h):
  ma fn g (Hd 0) base [vB (Hk f a b)] e:=by
 have key:∀(s:List α)(i:Nat)(t:List α),a.drop i=s->b.drop i=t->ma fn g (Hd i) base [vB (Hk f s t)] e:=by
  intro s;induction s with
  |nil=>
   intro i t j c;have:=drop_nil j;exact step i _ _ (fun x y d _=>by rw[ee this]at d;simp at d) fun _=>ai (by cases t<;>rfl) rfl
  |cons x s o=>
   intro i t j c;obtain⟨k,n,u⟩:=drop_cons j;match t,c with
   |[],c=>have:=drop_nil c;omega
   |y::t,c=>
    obtain⟨p,q,w⟩:=drop_cons c;refine step i _ _ (fun z D d m=>?_) fun l=>by rw[k]at l;simp at l
    rw[k]at d;rw[p]at m;obtain rfl:=au d;obtain rfl:=au m;refine ae (fun h=>ai (by rw[Hk,h];rfl) rfl) fun h=>⟨aB,?_⟩
    rw[Hk,h];exact o (i+1) t n q
 exact key a 0 b rfl rfl
def ahN(a b:List Hf)(g:a.length<=2^40):ak 311 [vL 5 (a.map Hf.row),vL 5 (b.map Hf.row)] [] [vB (Iu tj a b)] []:=by
 apply acM;rw[ao,ao];refine ae (fun h=>ai (by rw[Iu,h];rfl) rfl) fun h=>?_
 have k:a.length=b.length:=by simp at h;omega
 rw[Iu,h];exact ES (Hd:=fun i=>Ec _ _ _ i) k g fun i r m e f=>W4 _ _ _ _ (eA (l:=a) rfl (fun x c=>by
  have j:i<b.length:=by have:=(aE.1 c).1;omega
  have d:=bk j;exact⟨_,_,_,_,_,by omega,aY c,_,_,_,_,_,by omega,aY d,e x _ c d⟩) f)
def ahO(a b:List Hf)(c:a.length<=2^40):ak 310 [vL 5 (a.map Hf.row),vL 5 (b.map Hf.row)] [] [vB (Iu tj a b)] []:=by apply ahM;exact⟨_,ahN a b c,fi⟩
def Hl(s:Sp):Prop:=s.cl.length<=2^40/\∀l∈s.cl,l.length<=2^40
def ahP(a b:List (List Hf))(g:a.length<=2^40)(m:∀l∈a,l.length<=2^40):ak 309 [vL 1 (cB a),vL 1 (cB b),.fn (.func 310) [] []] [] [vB (Iu (Iu tj) a b)] []:=by
 have n:(cB a).length=a.length:=ao ..;have lb:(cB b).length=b.length:=ao ..;apply PF;rw[n,lb];refine ae (fun h=>ai (by rw[Iu,h];rfl) rfl) fun h=>?_
 have k:a.length=b.length:=by simp at h;omega
 rw[Iu,h];exact ES (Hd:=fun i=>pw _ _ _ i) k g fun i r o e f=>Jz _ _ _ _ (eA (l:=a) rfl (fun x c=>by
  have j:i<b.length:=by have:=(aE.1 c).1;omega
  have d:=bk j;exact⟨_,by omega,aY c,_,by omega,aY d,_,ahO x _ (m x (aK c)),e x _ c d⟩) f)
def zJ(a b:Sp):Bool:=bif((true&&(a.act.kind==b.act.kind))&&(a.act.data==b.act.data))then Iu (Iu tj) a.cl b.cl else false
def ahQ(a b:Sp)(c:Hl a):ak 238 [Yw a,Yw b] [] [vB (zJ a b)] []:=by
 apply ahK;exact ae (fun h=>⟨_,ahP a.cl b.cl c.1 c.2,ai (by rw[zJ,h];rfl) rfl⟩) fun h=>ai (by rw[zJ,h];rfl) rfl
def ahR(a b:List Sp)(g:a.length<=2^40)(m:∀s∈a,Hl s):ak 237 [vL 3 (a.map Sp.row),vL 3 (b.map Sp.row),.fn (.func 238) [] []] [] [vB (Iu zJ a b)] []:=by
 apply Pg;rw[ao,ao];refine ae (fun h=>ai (by rw[Iu,h];rfl) rfl) fun h=>?_
 have k:a.length=b.length:=by simp at h;omega
 rw[Iu,h];exact ES (Hd:=fun i=>pg _ _ _ i) k g fun i r n e f=>Jo _ _ _ _ (eA (l:=a) rfl (fun x c=>by
  have j:i<b.length:=by have:=(aE.1 c).1;omega
  have d:=bk j;exact⟨_,_,_,by omega,aY c,_,_,_,by omega,aY d,_,ahQ x _ (m x (aK c)),e x _ c d⟩) f)
structure Sn where
 lo:Int
 hi:Int
 steps:List Sp
 act:Act
def Sn.row(s:Sn):List PV:=[W s.lo,W s.hi,L 3 (s.steps.map Sp.row),N s.act.kind,N s.act.data]
abbrev Yx(s:Sn):AV:=.agg [W s.lo,W s.hi,L 3 (s.steps.map Sp.row),N s.act.kind,N s.act.data]
def wi(s:Sn):Prop:=s.steps.length<=2^40/\∀x∈s.steps,Hl x
def nX(a b:Sn):Bool:=bif((true&&(a.act.kind==b.act.kind))&&(a.act.data==b.act.data))then Iu zJ a.steps b.steps else false
def ahS(a b:Sn)(c:wi a):ak 168 [Yx a,Yx b] [] [vB (nX a b)] []:=by
 apply ahH;exact ae (fun h=>⟨_,ahR a.steps b.steps c.1 c.2,ai (by rw[nX,h];rfl) rfl⟩) fun h=>ai (by rw[nX,h];rfl) rfl
def gy:Sn:=⟨0,0,[],⟨0,0⟩⟩
def addN(l:List Sn)(x:Sn):List Sn:=bif decide ((l.length:Int)-1>=0)then(bif nX (l.getLastD gy) x then l.dropLast++[{l.getLastD gy with hi:=x.hi}]else l++[x])else l++[x]
def wW{α:Type}(f:α->α)(v:α):∀(u:List α),(u++[v]).modify u.length f=u++[f v]
 |[]=>rfl
 |a::u=>by
  have:=wW f v u;show(a::(u++[v])).modify (u.length+1) f=a::(u++[f v])
  rw[List.modify_succ_cons,this]
def modify_last{l:List Sn}(a:l≠[])(n:Int):setRow (l.map Sn.row) (l.length-1) 1 [W n]=(l.dropLast++[{l.getLastD gy with hi:=n}]).map Sn.row:=by
 obtain⟨i,y,rfl⟩:∃i y,l=i++[y]:=⟨l.dropLast,l.getLast a,(x9 a).symm⟩;have b:(i++[y]).getLastD gy=y:=by simp[jP]
 rw[b,List.dropLast_concat,cg,cg];unfold setRow;rw[show(i++[y]).length-1=(i.map Sn.row).length by simp,bB,ob,wW]
 rfl
def Ub(l:List Sn)(x:Sn)(k:l.length<=2^40)(i:∀s∈l,wi s):ak 117 [.bo 0,Yx x] [.bc 5 (l.map Sn.row)] [.bo 1] [.dead,.bc 5 ((addN l x).map Sn.row)]:=by
 have j:(l.map Sn.row).length=l.length:=ao ..;have e:l.map Sn.row++([[W x.lo,W x.hi,L 3 (x.steps.map Sp.row),N x.act.kind,N x.act.data]]:Rw)=(l++[x]).map Sn.row:=by simp[Sn.row]
 apply ahD;rw[e,j];refine⟨aB,ae (fun h=>?_) fun h=>⟨by simp;omega,ai rfl (by rw[addN,h];rfl)⟩⟩
 have c:=aN h;have b:l≠[]:=by intro f;rw[f]at c;simp at c
 have d:l.getLast?=some (l.getLastD gy):=by rw[jk b,jP,jk b];rfl
 have g:(l.map Sn.row)[Int.toNat ((l.length:Int)-1)]?=some [W (l.getLastD gy).lo,W (l.getLastD gy).hi,L 3 ((l.getLastD gy).steps.map Sp.row),N (l.getLastD gy).act.kind,N (l.getLastD gy).act.data]:=by
  rw[show Int.toNat ((l.length:Int)-1)=l.length-1 by omega,bp,<-xK,d]
  rfl
 refine⟨⟨by omega,by omega⟩,_,_,_,_,_,g,_,ahS (l.getLastD gy) x (i _ (tU d)),ae (fun a=>⟨⟨by omega,by omega⟩,by omega,ai rfl ?_⟩) fun a=>⟨by simp;omega,ai rfl (by rw[addN,h,a];rfl)⟩⟩
 rw[addN,h,a,show Int.toNat ((l.length:Int)-1)=l.length-1 by omega,modify_last b]
 rfl
def rp{n:Int}(a : -9223372036854775808<=n)(b:n<=9223372036854775807):IntKind.wrap .i64 n=n:=qu (aB a b)
def zK{n:Int}(a:0<=n)(b:n<4294967296):IntKind.wrap .u32 n=n:=by simp[IntKind.wrap,IntKind.signed,IntKind.bits];omega
def ahT(l:List Sp)(h:l.length<=2^40)(m:∀s∈l,Hl s):ak 169 [vL 3 (l.map Sp.row)] [] [vL 3 (l.map Sp.row)] []:=by
 have key:∀(t:List Sp)(i:Nat)(a:List Sp),l.drop i=t->a=l.take i->Lp f169 0 (EP (a.map Sp.row) (l.map Sp.row) l.length i) 0 [.own 0 0 3 (l.map Sp.row)] []:=by
  intro t;induction t with
  |nil=>
   intro i a b d;rw[eU (drop_nil b)]at d;rw[d];apply Rz;exact aT (l:=l) rfl b fi
  |cons x t n=>
   intro i a b d;obtain⟨f,k,w⟩:=drop_cons b;obtain⟨E,q⟩:=m x (aK f);have G:a.length<=i:=by rw[d];simp;omega
   have inner:∀(s:List (List Hf))(j:Nat)(z:List (List Hf)),x.cl.drop j=s->z=x.cl.take j->Lp f169 1 (ER (a.map Sp.row) (l.map Sp.row) l.length i (cB x.cl) x.cl.length j (cB z) x.act.kind x.act.data) 0 [.own 0 0 3 (l.map Sp.row)] []:=by
    intro s;induction s with
    |nil=>
     intro j z c e;rw[eU (drop_nil c)]at e;subst e;apply RA;refine aT (l:=x.cl) rfl c ⟨by simp;omega,aB,?_⟩
     have:=n (i+1) (a++[x]) k (by rw[d,hL,f];rfl)
     rw[cg (l₁:=a) (l₂:=[x])]at this;exact this
    |cons y s v=>
     intro j z c e;obtain⟨g,o,D⟩:=drop_cons c;have u:=q y (aK g);have H:z.length<=j:=by rw[e];simp;omega
     apply RA;refine aO (l:=x.cl) rfl c ⟨y.map Hf.row,by omega,aY g,_,Go.Ac.ak.soft (acr (y.map Hf.row) (by simpa using u)) rfl,by simp[cB];omega,aB,?_⟩
     have:=v (j+1) (z++[y]) o (by rw[e,hL,g];rfl)
     rw[show cB (z++[y])=cB z++[[L 5 (y.map Hf.row)]] by simp[cB,hfR]]at this
     exact this
   apply Rz;refine aO (l:=l) rfl b ⟨cB x.cl,x.act.kind,x.act.data,by omega,aY f,?_⟩
   have p:(cB x.cl).length=x.cl.length:=ao ..;simp only[p];exact inner x.cl 0 [] rfl rfl
 refine Go.Ac.ak.soft (r:=[.own 0 0 3 _]) ?_ rfl;apply ahI;rw[ao];exact key l 0 [] rfl rfl
def tq:Sp:=⟨[],⟨0,0⟩⟩
def gZ(c:Ch)(d:Act):Sn:=bif decide ((c.steps.length:Int)-1>=0)then(bif nJ (c.steps.getLastD tq).cl then⟨c.nr,c.nr,c.steps.dropLast,(c.steps.getLastD tq).act⟩else⟨c.nr,c.nr,c.steps,d⟩)else⟨c.nr,c.nr,c.steps,d⟩
def Uc(c:Ch):Prop:=c.steps.length<=2^40/\∀s∈c.steps,Hl s
def ahU(c:Ch)(d:Act)(j:Uc c):ak 118 [.agg [W c.nr,L 3 (c.steps.map Sp.row)],Bc d] [] [Yx (gZ c d)] []:=by
 obtain⟨l,f⟩:=j;apply ahF;refine⟨_,ahT c.steps l f,?_⟩;rw[ao];refine⟨aB,ae (fun h=>?_) fun h=>ai (by rw[gZ,h];rfl) rfl⟩
 have b:=aN h;have g:c.steps≠[]:=by intro k;rw[k]at b;simp at b
 have i:c.steps.getLast?=some (c.steps.getLastD tq):=by rw[jk g,jP,jk g];rfl
 have e:(c.steps.map Sp.row)[Int.toNat ((c.steps.length:Int)-1)]?=some [L 1 (cB (c.steps.getLastD tq).cl),N (c.steps.getLastD tq).act.kind,N (c.steps.getLastD tq).act.data]:=by
  rw[show Int.toNat ((c.steps.length:Int)-1)=c.steps.length-1 by omega,bp,<-xK,i]
  rfl
 refine⟨_,_,_,by omega,e,_,aat _ (f _ (tU i)).1,ae (fun a=>⟨_,_,_,by omega,e,⟨by omega,by omega,by omega⟩,ai ?_ rfl⟩) fun a=>ai (by rw[gZ,h];simp only[aj,a,af]) rfl⟩
 rw[gZ,h];simp only[aj,a];rw[gq,show Int.toNat ((c.steps.length:Int)-1)=c.steps.length-1 by omega,<-iQ,<-Dg]
def J5:Int->List Ch->Prop
 |n,[]=>0<=n/\n<=4294967296
 |n,c::t=>0<=n/\n<=c.nr/\c.nr<4294967296/\J5 (c.nr+1) t
def xl(d:Act):List Ch->Int->List Sn->List Sn
 |[],n,a=>bif decide (n<=4294967295)then addN a ⟨n,4294967295,[],d⟩else a
 |c::t,n,a=>bif decide (c.nr>n)then xl d t (c.nr+1) (addN (addN a ⟨n,c.nr-1,[],d⟩) (gZ c d))else xl d t (c.nr+1) (addN a (gZ c d))
def cu(l:List Ch)(d:Act):List Sn:=xl d l 0 []
def ET{l:List Sn}{x:Sn}(h:∀s∈l,wi s)(f:wi x):(addN l x).length<=l.length+1/\∀s∈addN l x,wi s:=by
 have a:(l++[x]).length<=l.length+1/\∀s∈l++[x],wi s:=by
  refine⟨by simp,fun s b=>?_⟩
  rcases bC.1 b with b|b
  .exact h s b
  .rw[cE.1 b];exact f
 unfold addN;cases hd:decide ((l.length:Int)-1>=0)
 .exact a
 .have c:=aN hd
  have d:l≠[]:=by intro e;rw[e]at c;simp at c
  have g:l.getLast?=some (l.getLastD gy):=by rw[jk d,jP,jk d];rfl
  cases nX (l.getLastD gy) x
  .exact a
  .refine⟨by simp,fun s b=>?_⟩
   rcases bC.1 (show s∈l.dropLast++[{l.getLastD gy with hi:=x.hi}]from b)with b|b
   .exact h s (tT l b)
   .rw[cE.1 b]
    have:=h _ (tU g);exact this
def Lv{c:Ch}{d:Act}(h:Uc c):wi (gZ c d):=by
 unfold gZ;cases decide ((c.steps.length:Int)-1>=0)
 .exact h
 .cases nJ (c.steps.getLastD tq).cl
  .exact h
  .exact⟨by have:=h.1;show c.steps.dropLast.length<=_;simp;omega,fun s a=>h.2 s (tT _ a)⟩
def C83(l:List Ch)(d:Act)(X:l.length<=2^30)(H:∀c∈l,Uc c)(G:J5 0 l):ak 83 [vL 2 (l.map Ch.row),Bc d] [] [vL 5 ((cu l d).map Sn.row)] []:=by
 have M:∀a b,wi ⟨a,b,[],d⟩:=fun a b=>⟨by simp,by simp⟩
 have key:∀(t:List Ch)(i:Nat)(n:Int)(e:List Sn),l.drop i=t->i+t.length=l.length->J5 n t->e.length<=2*i->(∀s∈e,wi s)->
   Lp f83 0 (Hj n (l.map Ch.row) l.length i d.kind d.data (e.map Sn.row)) 0 [vL 5 ((xl d t n e).map Sn.row)] []:=by
  intro t;induction t with
  |nil=>
   intro i n e g o k I f;simp only[cO]at o;apply Vu;refine aT (l:=l) rfl g (ae (fun h=>?_) fun h=>ai (by rw[xl,h];rfl) rfl)
   have j:=aN h;have K:=k.1;have c:=Ub e ⟨n,4294967295,[],d⟩ (by omega) f
   rw[zK K (by omega)]
   exact⟨_,c,ai (by rw[xl,h];rfl) rfl⟩
  |cons c t u=>
   intro i n e g o k I f;simp only[aC]at o;obtain⟨j,q,Q⟩:=drop_cons g;obtain⟨J,Y,Z,v⟩:=k;have m:=H c (aK j);have w:=ahU c d m;have p:=ET (x:=⟨n,c.nr-1,[],d⟩) f (M _ _);have y:=ET (x:=gZ c d) f (Lv m);have z:=ET (x:=gZ c d) p.2 (Lv m);have r:=Ub e ⟨n,c.nr-1,[],d⟩ (by omega) f
   have D:=Ub e (gZ c d) (by omega) f
   have E:=Ub (addN e ⟨n,c.nr-1,[],d⟩) (gZ c d) (by omega) p.2
   apply Vu;refine aO (l:=l) rfl g ⟨c.nr,c.steps.map Sp.row,by omega,aY j,?_⟩
   simp only;rw[rp (n:=c.nr) (by omega) (by omega),zK (n:=n) J (by omega)]
   refine aW (cf (by omega)) (ae (fun h=>?_) fun h=>⟨_,_,_,_,_,w,_,D,aB,aB,?_⟩)
   .have T:=aN h
    rw[zK (n:=c.nr-1) (by omega) (by omega)]
    refine⟨_,r,_,_,_,_,_,w,_,E,aB,aB,?_⟩;rw[xl,h];exact u (i+1) _ _ q (by omega) v (by omega) z.2
   .rw[xl,h]
    exact u (i+1) _ _ q (by omega) v (by omega) y.2
 apply W83;rw[ao];exact key l 0 0 [] rfl (by simp) G (by simp) (by simp)
def A82:bq:={an:=[(1,1,ah)],mod:=[(4,1,[(0,[1])]),(5,2,[(0,[0,2])]),(6,4,[(0,[0,2])]),(7,2,[(0,[0,2])]),(8,2,[(0,[0,2])]),(9,2,[(0,[0,2])]),(10,2,[(0,[0,1,2])])]}
def W82(d:Int)(b:Rw){r h}(H:∃e,ak 111 [vL 5 b] [] [vB e] []/\ay (!e) (Fi r h [vL 5 [],vN 1] [])
 (∃c a,ak 112 [.aA 0 0] [.cells [O 5 [],vN 0,vN 0]] [vN c] [.cells [O 5 [],vN a,vN 0]]/\∃f g,ak 113 [.aA 0 0,.agg [N 0,N 0,N 0,N 32,W 4]] [.cells [O 5 [],vN a,vN 0]] [] [.cells [O 5 f,vN a,vN g]]/\∃i j,ak 113 [.aA 0 0,.agg [N 0,N c,N 0,N 21,W d]] [.cells [O 5 f,vN a,vN g]] [] [.cells [O 5 i,vN a,vN j]]/\∃k l,ak 114 [.aA 0 0,.agg [N 1,N 0]] [.cells [O 5 i,vN a,vN j]] [] [.cells [O 5 k,vN a,vN l]]/\∃m n,ak 115 [.aA 0 0,vN c] [.cells [O 5 k,vN a,vN l]] [] [.cells [O 5 m,vN a,vN n]]/\∃o p,ak 113 [.aA 0 0,.agg [N 0,N 0,N 0,N 32,W 0]] [.cells [O 5 m,vN a,vN n]] [] [.cells [O 5 o,vN a,vN p]]/\∃q s t,ak 116 [.aA 0 0,vL 5 b] [.cells [O 5 o,vN a,vN p]] [] [.cells [O 5 q,vN s,vN t]]/\Fi r h [vL 5 q,vN 0] [])):
  ak 82 [vW d,vL 5 b] [] r h:=.of func82 A82 H
def EU(a:Int)(b:Rw)(c d:Int):St:=⟨aM 36 [(3,vN a),(6,vL 5 b),(7,vN c),(8,vN d)],[],[]⟩
def aav:bq:={an:=[(4,1,ah),(5,6,aa),(5,7,aa),(5,8,aa),(5,9,aa),(5,10,aa),(5,14,ah)],cut:=[(3,{bl:=[3,6,7,8]})]}
def ahV(a:Rw){r h}(H:Lp f111 0 (EU 0 a (a.length:Int) 0) 0 r h):
  ak 111 [vL 5 a] [] r h:=.of func111 aav H
def RB(c:Int)(d:Rw)(e a:Int){r h}(H:ay (decide (a<e)) (yP d a fun f b i j k=>ay (bif((IntKind.wrap .i64 f) !=c)then true else(decide (b<f))) (Fi r h [vB false] []) (∃g,ak 166 [.agg [W f,W b,L 3 i,N j,N k]] [] [vB g] []/\ay (!g) (Fi r h [vB false] [])
 (bh .i64 ((IntKind.wrap .i64 b)+1)/\bh .i64 (a+1)/\Lp f111 0 (EU ((IntKind.wrap .i64 b)+1) d e (a+1)) 0 r h)))
 (Fi r h [vB (c==4294967296)] [])):
  Lp f111 0 (EU c d e a) 0 r h:=.of aav H
def ahW:bq:={}
def ahX(b:Rw)(a c:Int){r h}(H:bh .i64 (a+1)/\Fi r h [vN (a+1)] [.cells [O 5 b,vN (a+1),vN c]]):
  ak 112 [.aA 0 0] [.cells [O 5 b,vN a,vN c]] r h:=.of func112 ahW H
def ahY:bq:={an:=[(2,4,iH),(2,5,fg),(2,10,iH)]}
def ahZ(a:Rw)(g b i c d e f:Int){r h}(H:(a++([[N b,N c,N d,N e,W f]]:Rw)).length*40<=2^47/\Fi r h [] [.cells [O 5 (a++([[N b,N c,N d,N e,W f]]:Rw)),vN g,vN 0]]):
  ak 113 [.aA 0 0,.agg [N i,N c,N d,N e,W f]] [.cells [O 5 a,vN g,vN b]] r h:=.of func113 ahY H
def ah0:bq:={an:=[(1,1,ah)],mod:=[(2,3,[(0,[0,2])])]}
def ah1(b:Rw)(a c d e:Int){r h}(H:∃f j,ak 106 [.agg [N d,N e]] [] [vW f,vB j] []/\∃g i,ak 113 [.aA 0 0,.agg [N 0,N 0,N 0,N 6,W f]] [.cells [O 5 b,vN a,vN c]] [] [.cells [O 5 g,vN a,vN i]]/\Fi r h [] [.cells [O 5 g,vN a,vN i]]):
  ak 114 [.aA 0 0,.agg [N d,N e]] [.cells [O 5 b,vN a,vN c]] r h:=.of func114 ah0 H
def ah2:bq:={mod:=[(1,2,[(0,[0,2])])]}
def ah3(b:Rw)(a c d:Int){r h}(H:ay (c !=0) (∃e f,ak 113 [.aA 0 0,.agg [N 0,N 0,N 0,N 135,W 0]] [.cells [O 5 b,vN a,vN c]] [] [.cells [O 5 e,vN a,vN f]]/\Fi r h [] [.cells [O 5 e,vN a,vN d]])
 (Fi r h [] [.cells [O 5 b,vN a,vN d]])):
  ak 115 [.aA 0 0,vN d] [.cells [O 5 b,vN a,vN c]] r h:=.of func115 ah2 H
def ah4:bq:={an:=[(1,3,ah),(4,5,ah)],mod:=[(1,4,[(0,[0,1,2])]),(3,1,[(0,[1])]),(4,8,[(0,[0,2])]),(5,4,[(0,[0,1,2])]),(6,2,[(0,[0,2])]),(7,4,[(0,[0,1,2])])]}
def ah5(b:Rw)(f c:Int)(a:Rw){r h}(H:ay ((a.length:Int)==1) (yP a 0 fun v w x y z=>∃i j k,ak 167 [.aA 0 0,.agg [W v,W w,L 3 x,N y,N z]] [.cells [O 5 b,vN f,vN c]] [] [.cells [O 5 i,vN j,vN k]]/\Fi r h [] [.cells [O 5 i,vN j,vN k]])
 ((2:Int)≠0/\∃g d,ak 112 [.aA 0 0] [.cells [O 5 b,vN f,vN c]] [vN g] [.cells [O 5 b,vN d,vN c]]/\yP a (IntKind.wrap .i64 (Int.tdiv (a.length:Int) 2)) fun D E G I J=>∃l m,ak 113 [.aA 0 0,.agg [N 0,N g,N 0,N 53,W D]] [.cells [O 5 b,vN d,vN c]] [] [.cells [O 5 l,vN d,vN m]]/\(0<=(0:Int)/\(0:Int)<=(IntKind.wrap .i64 (Int.tdiv (a.length:Int) 2))/\(IntKind.wrap .i64 (Int.tdiv (a.length:Int) 2))<=(a.length:Int))/\∃n e o,ak 116 [.aA 0 0,vL 5 (List.drop 0 (List.take (Int.toNat (IntKind.wrap .i64 (Int.tdiv (a.length:Int) 2))) a))] [.cells [O 5 l,vN d,vN m]] [] [.cells [O 5 n,vN e,vN o]]/\∃p q,ak 115 [.aA 0 0,vN g] [.cells [O 5 n,vN e,vN o]] [] [.cells [O 5 p,vN e,vN q]]/\(0<=(IntKind.wrap .i64 (Int.tdiv (a.length:Int) 2))/\(IntKind.wrap .i64 (Int.tdiv (a.length:Int) 2))<=(a.length:Int)/\(a.length:Int)<=(a.length:Int))/\∃s t u,ak 116 [.aA 0 0,vL 5 (List.drop (Int.toNat (IntKind.wrap .i64 (Int.tdiv (a.length:Int) 2))) (List.take a.length a))] [.cells [O 5 p,vN e,vN q]] [] [.cells [O 5 s,vN t,vN u]]/\Fi r h [] [.cells [O 5 s,vN t,vN u]])):
  ak 116 [.aA 0 0,vL 5 a] [.cells [O 5 b,vN f,vN c]] r h:=.of func116 ah4 H
def EV(a:Rw)(b c d e:Int)(f:Rw)(g i:Int):St:=⟨aM 19 [(1,.aA 0 0),(6,vL 3 a),(7,vN b),(8,vN c)],[],[.cells [vW d,vW e,vL 3 f,vN g,vN i]]⟩
def aaw:bq:={an:=[(3,1,ah),(4,1,ah),(7,2,ah)],cut:=[(2,{bl:=[1,6,7,8]})]}
def ah6(b c:Int)(a:Rw)(d e:Int){r h}(H:Lp f166 0 (EV a (a.length:Int) 0 b c a d e) 0 r h):
  ak 166 [.agg [W b,W c,L 3 a,N d,N e]] [] r h:=.of func166 aaw H
def RC(b:Rw)(c a f g:Int)(i:Rw)(d e:Int){r h}(H:ay (decide (a<c)) (qQ b a fun l m n=>∃j,ak 234 [.agg [L 1 l,N m,N n]] [] [vB j] []/\ay (!j) (Fi r h [vB false] [])
 (bh .i64 (a+1)/\Lp f166 0 (EV b c (a+1) f g i d e) 0 r h))
 (∃k,ak 235 [.agg [N d,N e]] [] [vB k] []/\Fi r h [vB k] [])):
  Lp f166 0 (EV b c a f g i d e) 0 r h:=.of aaw H
def EW(a:Rw)(b c:Int)(d:Rw)(e f g i:Int)(j:Rw)(k l:Int):St:=⟨aM 21 [(0,.aA 0 0),(3,.aA 1 0),(7,vL 3 a),(8,vN b),(9,vN c)],[],[.cells [O 5 d,vN e,vN f],.cells [vW g,vW i,vL 3 j,vN k,vN l]]⟩
def aax:bq:={an:=[(3,1,ah)],mod:=[(4,2,[(0,[0,1,2])]),(6,3,[(0,[0,2])])],cut:=[(2,{bl:=[0,3,7,8,9]})]}
def ah7(b:Rw)(c d e f:Int)(a:Rw)(g i:Int){r h}(H:Lp f167 0 (EW a (a.length:Int) 0 b c d e f a g i) 1 r h):
  ak 167 [.aA 0 0,.agg [W e,W f,L 3 a,N g,N i]] [.cells [O 5 b,vN c,vN d]] r h:=.of func167 aax H
def RD(c:Rw)(d a:Int)(e:Rw)(b f j k:Int)(l:Rw)(g i:Int){r h}(H:ay (decide (a<d)) (qQ c a fun s t u=>∃m n o,ak 236 [.aA 0 0,.agg [L 1 s,N t,N u]] [.cells [O 5 e,vN b,vN f]] [] [.cells [O 5 m,vN n,vN o]]/\bh .i64 (a+1)/\Lp f167 0 (EW c d (a+1) m n o j k l g i) 1 r h)
 (∃p q,ak 114 [.aA 0 0,.agg [N g,N i]] [.cells [O 5 e,vN b,vN f]] [] [.cells [O 5 p,vN b,vN q]]/\Fi r h [] [.cells [O 5 p,vN b,vN q]])):
  Lp f167 0 (EW c d a e b f j k l g i) 1 r h:=.of aax H
def EX(a:Rw)(b c:Int)(d:Rw)(e f:Int):St:=⟨aM 28 [(1,.aA 0 0),(8,vL 1 a),(9,vN b),(10,vN c)],[],[.cells [vL 1 d,vN e,vN f]]⟩
def EY(a:Rw)(b c:Int)(d:Rw)(e f:Int)(g:Rw)(i j:Int):St:=⟨aM 28 [(1,.aA 0 0),(8,vL 1 a),(9,vN b),(10,vN c),(14,vL 5 d),(15,vN e),(16,vN f)],[],[.cells [vL 1 g,vN i,vN j]]⟩
def XN:bq:={an:=[(3,1,ah),(6,1,ah),(7,1,ah),(11,2,ah)],cut:=[(2,{bl:=[1,8,9,10]}),(5,{bl:=[1,8,9,10,14,15,16]})]}
def ah8(a:Rw)(b c:Int){r h}(H:Lp f234 0 (EX a (a.length:Int) 0 a b c) 0 r h):
  ak 234 [.agg [L 1 a,N b,N c]] [] r h:=.of func234 XN H
def RE(b:Rw)(c a:Int)(f:Rw)(d e:Int){r h}(H:ay (decide (a<c)) (vG b a fun i=>Lp f234 1 (EY b c a i (i.length:Int) 0 f d e) 0 r h)
 (∃g,ak 235 [.agg [N d,N e]] [] [vB g] []/\Fi r h [vB g] [])):
  Lp f234 0 (EX b c a f d e) 0 r h:=.of XN H
def RF(c:Rw)(d b:Int)(e:Rw)(f a:Int)(g:Rw)(i j:Int){r h}(H:ay (decide (a<f)) (ny e a fun l m n o p=>∃k,ak 307 [.agg [N l,N m,B n,W o,W p]] [] [vB k] []/\ay (!k) (Fi r h [vB false] [])
 (bh .i64 (a+1)/\Lp f234 1 (EY c d b e f (a+1) g i j) 0 r h))
 (bh .i64 (b+1)/\Lp f234 0 (EX c d (b+1) g i j) 0 r h)):
  Lp f234 1 (EY c d b e f a g i j) 0 r h:=.of XN H
def ah9:bq:={an:=[(1,1,ah)]}
def aia(a b:Int){r h}(H:∃d c,ak 106 [.agg [N a,N b]] [] [vW d,vB c] []/\Fi r h [vB c] []):
  ak 235 [.agg [N a,N b]] [] r h:=.of func235 ah9 H
def EZ(a b:Int)(c:Rw)(d e:Int)(f:Rw)(g i:Int)(j:Rw)(k l:Int):St:=⟨aM 57 [(0,.aA 0 0),(3,.aA 1 0),(4,vN a),(5,vN b),(14,vL 1 c),(15,vN d),(16,vN e)],[],[.cells [O 5 f,vN g,vN i],.cells [vL 1 j,vN k,vN l]]⟩
def aay:bq:={an:=[(4,2,ah)],mod:=[(1,1,[(0,[1])]),(1,3,[(0,[1])]),(5,1,[(0,[1])]),(7,3,[(0,[0,2])]),(8,5,[(0,[0,2])]),(9,2,[(0,[0,2])]),(12,2,[(0,[0,2])]),(13,3,[(0,[0,2])]),(14,2,[(0,[0,2])])],cut:=[(3,{bl:=[0,3,4,5,14,15,16]})]}
def aib(a:Rw)(d b:Int)(c:Rw)(e f:Int){r h}(H:∃g i,ak 112 [.aA 0 0] [.cells [O 5 a,vN d,vN b]] [vN g] [.cells [O 5 a,vN i,vN b]]/\∃j k,ak 112 [.aA 0 0] [.cells [O 5 a,vN i,vN b]] [vN j] [.cells [O 5 a,vN k,vN b]]/\Lp f236 0 (EZ g j c (c.length:Int) 0 a k b c e f) 1 r h):
  ak 236 [.aA 0 0,.agg [L 1 c,N e,N f]] [.cells [O 5 a,vN d,vN b]] r h:=.of func236 aay H
def RG(i c:Int)(m:Rw)(n f:Int)(d:Rw)(b e:Int)(g:Rw)(j k:Int){r h}(H:ay (decide (f<n)) (vG m f fun Z=>∃l a,ak 112 [.aA 0 0] [.cells [O 5 d,vN b,vN e]] [vN l] [.cells [O 5 d,vN a,vN e]]/\bh .i64 ((g.length:Int)-1)/\ay (f==((g.length:Int)-1)) (∃o p,ak 308 [.aA 0 0,vL 5 Z,vN 0,vN c,vN 0] [.cells [O 5 d,vN a,vN e]] [] [.cells [O 5 o,vN a,vN p]]/\ay (decide ((g.length:Int)>0)) (∃q s,ak 115 [.aA 0 0,vN i] [.cells [O 5 o,vN a,vN p]] [] [.cells [O 5 q,vN a,vN s]]/\∃t u,ak 114 [.aA 0 0,.agg [N j,N k]] [.cells [O 5 q,vN a,vN s]] [] [.cells [O 5 t,vN a,vN u]]/\∃v w,ak 115 [.aA 0 0,vN c] [.cells [O 5 t,vN a,vN u]] [] [.cells [O 5 v,vN a,vN w]]/\Fi r h [] [.cells [O 5 v,vN a,vN w]])
 (∃x y,ak 115 [.aA 0 0,vN c] [.cells [O 5 o,vN a,vN p]] [] [.cells [O 5 x,vN a,vN y]]/\Fi r h [] [.cells [O 5 x,vN a,vN y]]))
 (∃z D,ak 308 [.aA 0 0,vL 5 Z,vN i,vN l,vN l] [.cells [O 5 d,vN a,vN e]] [] [.cells [O 5 z,vN a,vN D]]/\∃E G,ak 115 [.aA 0 0,vN l] [.cells [O 5 z,vN a,vN D]] [] [.cells [O 5 E,vN a,vN G]]/\bh .i64 (f+1)/\Lp f236 0 (EZ i c m n (f+1) E a G g j k) 1 r h))
 (ay (decide ((g.length:Int)>0)) (∃I J,ak 115 [.aA 0 0,vN i] [.cells [O 5 d,vN b,vN e]] [] [.cells [O 5 I,vN b,vN J]]/\∃K M,ak 114 [.aA 0 0,.agg [N j,N k]] [.cells [O 5 I,vN b,vN J]] [] [.cells [O 5 K,vN b,vN M]]/\∃Q T,ak 115 [.aA 0 0,vN c] [.cells [O 5 K,vN b,vN M]] [] [.cells [O 5 Q,vN b,vN T]]/\Fi r h [] [.cells [O 5 Q,vN b,vN T]])
 (∃X Y,ak 115 [.aA 0 0,vN c] [.cells [O 5 d,vN b,vN e]] [] [.cells [O 5 X,vN b,vN Y]]/\Fi r h [] [.cells [O 5 X,vN b,vN Y]]))):
  Lp f236 0 (EZ i c m n f d b e g j k) 1 r h:=.of aay H
def tr(a:Rw)(b c d:Int)(e:Rw)(f g:Int)(i:Rw)(j k:Int):St:=⟨aM 54 [(0,.aA 0 0),(1,vL 5 a),(2,vN b),(3,vN c),(4,vN d),(23,vL 5 e),(24,vN f),(25,vN g)],[],[.cells [O 5 i,vN j,vN k]]⟩
def aaz:bq:={an:=[(0,4,aa),(0,5,aa),(4,2,ah)],mod:=[(1,3,[(0,[0,2])]),(5,4,[(0,[0,2])]),(7,3,[(0,[0,2])]),(9,3,[(0,[0,2])])],cut:=[(3,{bl:=[0,1,2,3,4,23,24,25]})]}
def aic(d:Rw)(b e:Int)(a:Rw)(c f g:Int){r h}(H:ay (bif((a.length:Int)==0)then(c !=0)else false) (∃i j,ak 113 [.aA 0 0,.agg [N 0,N c,N 0,N 5,W 0]] [.cells [O 5 d,vN b,vN e]] [] [.cells [O 5 i,vN b,vN j]]/\Lp f308 0 (tr a c f g a (a.length:Int) 0 i b j) 1 r h)
 (Lp f308 0 (tr a c f g a (a.length:Int) 0 d b e) 1 r h)):
  ak 308 [.aA 0 0,vL 5 a,vN c,vN f,vN g] [.cells [O 5 d,vN b,vN e]] r h:=.of func308 aaz H
def RH(d:Rw)(e c f:Int)(g:Rw)(i b:Int)(j:Rw)(a k:Int){r h}(H:ay (decide (b<i)) (ny g b fun l m n o p=>bh .i64 ((d.length:Int)-1)/\ay (decide (b<((d.length:Int)-1))) (∃q s,ak 350 [.aA 0 0,.agg [N l,N m,B n,W o,W p],vN 0,vN c] [.cells [O 5 j,vN a,vN k]] [] [.cells [O 5 q,vN a,vN s]]/\bh .i64 (b+1)/\Lp f308 0 (tr d e c f g i (b+1) q a s) 1 r h)
 (ay (c==f) (∃t u,ak 350 [.aA 0 0,.agg [N l,N m,B n,W o,W p],vN e,vN 0] [.cells [O 5 j,vN a,vN k]] [] [.cells [O 5 t,vN a,vN u]]/\bh .i64 (b+1)/\Lp f308 0 (tr d e c f g i (b+1) t a u) 1 r h)
 (∃v w,ak 350 [.aA 0 0,.agg [N l,N m,B n,W o,W p],vN e,vN c] [.cells [O 5 j,vN a,vN k]] [] [.cells [O 5 v,vN a,vN w]]/\bh .i64 (b+1)/\Lp f308 0 (tr d e c f g i (b+1) v a w) 1 r h)))
 (Fi r h [] [.cells [O 5 j,vN a,vN k]])):
  Lp f308 0 (tr d e c f g i b j a k) 1 r h:=.of aaz H
def E0(a b c:Int)(d:Rw)(e f g i:Int)(j:Bool)(k l:Int):St:=⟨aM 69 [(0,.aA 0 0),(2,vN a),(3,vN b),(5,.aA 1 0),(8,vN c)],[],[.cells [O 5 d,vN e,vN f],.cells [vN g,vN i,vB j,vW k,vW l]]⟩
def E1(a b:Int)(c:Rw)(d e f g:Int)(i:Bool)(j k:Int):St:=⟨aM 69 [(0,.aA 0 0),(2,vN a),(3,vN b),(5,.aA 1 0)],[],[.cells [O 5 c,vN d,vN e],.cells [vN f,vN g,vB i,vW j,vW k]]⟩
def pN(a:Rw)(b c d e:Int)(f:Bool)(g i j k l m n:Int):St:=⟨aM 69 [(0,.aA 0 0),(5,.aA 1 0),(9,.aA 2 0)],[],[.cells [O 5 a,vN b,vN c],.cells [vN d,vN e,vB f,vW g,vW i],.cells [vN j,vN k,vN l,vN m,vW n]]⟩
def Ud:bq:={an:=[(16,4,aa),(16,5,aa),(16,6,aa),(16,9,aa),(16,10,aa),(16,11,aa)],mod:=[(4,4,[(0,[0,2])]),(6,4,[(0,[0,2])]),(18,2,[(0,[0,2])])],join:=[(16,{bl:=[0,5,9]}),(4,{bl:=[0,2,3,5,8]}),(7,{bl:=[0,2,3,5]})]}
def aid(c:Rw)(d e a f:Int)(b:Bool)(g i j k:Int){r h}(H:bh .i64 ((8:Int)*a)/\bh .i64 ((16:Int)+((8:Int)*a))/\ay b (bh .i64 (((16:Int)+((8:Int)*a))+4)/\Rp f350 4 (E0 j k (((16:Int)+((8:Int)*a))+4) c d e a f b g i) 1 r h)
 (Rp f350 4 (E0 j k ((16:Int)+((8:Int)*a)) c d e a f b g i) 1 r h)):
  ak 350 [.aA 0 0,.agg [N a,N f,B b,W g,W i],vN j,vN k] [.cells [O 5 c,vN d,vN e]] r h:=.of func350 Ud H
def XO(c d l:Int)(m:Rw)(a n e f:Int)(g:Bool)(b i:Int){r h}(H:∃j k,ak 113 [.aA 0 0,.agg [N 0,N 0,N 0,N 32,W (IntKind.wrap .u32 l)]] [.cells [O 5 m,vN a,vN n]] [] [.cells [O 5 j,vN a,vN k]]/\ay (b !=4294967295) (∃o p,ak 113 [.aA 0 0,.agg [N 0,N 0,N 0,N 84,W b]] [.cells [O 5 j,vN a,vN k]] [] [.cells [O 5 o,vN a,vN p]]/\Rp f350 7 (E1 c d o a p e f g b i) 1 r h)
 (Rp f350 7 (E1 c d j a k e f g b i) 1 r h)):
  Rp f350 4 (E0 c d l m a n e f g b i) 1 r h:=xm.of Ud H
def XP(c d:Int)(e:Rw)(f g i b:Int)(j:Bool)(k a:Int){r h}(H:ay (b==1) (Rp f350 16 (pN e f g i b j k a 0 c d 21 a) 1 r h)
 (ay (b==2) (Rp f350 16 (pN e f g i b j k a 0 c d 21 a) 1 r h)
 (ay (b==5) (Rp f350 16 (pN e f g i b j k a 0 c d 37 a) 1 r h)
 (ay (b==4) (Rp f350 16 (pN e f g i b j k a 0 c d 37 a) 1 r h)
 (Rp f350 16 (pN e f g i b j k a 0 c d 53 a) 1 r h))))):
  Rp f350 7 (E1 c d e f g i b j k a) 1 r h:=xm.of Ud H
def Ue(c:Rw)(a d o b:Int)(p:Bool)(q s e f g i j:Int){r h}(H:ay (bif(bif(b==2)then true else(b==4))then true else(b==3)) (∃k l,ak 113 [.aA 0 0,.agg [N e,N g,N f,N i,W j]] [.cells [O 5 c,vN a,vN d]] [] [.cells [O 5 k,vN a,vN l]]/\Fi r h [] [.cells [O 5 k,vN a,vN l]])
 (∃m n,ak 113 [.aA 0 0,.agg [N e,N f,N g,N i,W j]] [.cells [O 5 c,vN a,vN d]] [] [.cells [O 5 m,vN a,vN n]]/\Fi r h [] [.cells [O 5 m,vN a,vN n]])):
  Rp f350 16 (pN c a d o b p q s e f g i j) 1 r h:=xm.of Ud H
section
def uY(l:List Hf):Bool:=l.all fun h=>sD h.arg h.op
def B4(s:Sp):Bool:=bif s.cl.all uY then(bV s.act).2 else false
def B5(x:Sn):Bool:=bif x.steps.all B4 then(bV x.act).2 else false
def fP:List Sn->Int->Bool
 |[],n=>n==4294967296
 |x::t,n=>bif(bif x.lo !=n then true else decide (x.hi<x.lo))then false else bif !B5 x then false else fP t (x.hi+1)
def aaA(a:Act):ak 235 [Bc a] [] [vB (bV a).2] []:=by apply aia;exact⟨_,_,TT a,fi⟩
def aie(s:Sp)(h:Hl s):ak 234 [Yw s] [] [vB (B4 s)] []:=by
 obtain⟨q,f⟩:=h;have key:∀(t:List (List Hf))(i:Nat),s.cl.drop i=t->Lp f234 0 (EX (cB s.cl) s.cl.length i (cB s.cl) s.act.kind s.act.data) 0 [vB (bif t.all uY then(bV s.act).2 else false)] []:=by
  intro t;induction t with
  |nil=>intro i a;apply RE;exact aT (l:=s.cl) rfl a ⟨_,aaA s.act,fi⟩
  |cons x t g=>
   intro i a;obtain⟨d,e,p⟩:=drop_cons a;have z:=f x (aK d);have inner:∀(u:List Hf)(j:Nat),x.drop j=u->Lp f234 1 (EY (cB s.cl) s.cl.length i (x.map Hf.row) x.length j (cB s.cl) s.act.kind s.act.data) 0 [vB (bif uY u&&t.all uY then(bV s.act).2 else false)] []:=by
    intro u;induction u with
    |nil=>intro j b;apply RF;exact aT (l:=x) rfl b ⟨aB,g (i+1) e⟩
    |cons y u o=>
     intro j b;obtain⟨k,m,v⟩:=drop_cons b;apply RF;refine aO (l:=x) rfl b ⟨_,_,_,_,_,by omega,aY k,_,XK y,ae (fun c=>ai ?_ rfl) fun c=>⟨aB,?_⟩⟩
     .rw[show uY (y::u)=(sD y.arg y.op&&uY u)from rfl,show sD y.arg y.op=false by simpa using c];rfl
     .rw[show uY (y::u)=(sD y.arg y.op&&uY u)from rfl,show sD y.arg y.op=true by simpa using c]
      exact o (j+1) m
   apply RE;refine aO (l:=s.cl) rfl a ⟨x.map Hf.row,by omega,aY d,?_⟩
   simp only[ao];exact inner x 0 rfl
 apply ah8;rw[show(cB s.cl).length=s.cl.length from ao ..]
 exact key s.cl 0 rfl
def aif(x:Sn)(h:wi x):ak 166 [Yx x] [] [vB (B5 x)] []:=by
 obtain⟨j,e⟩:=h;have key:∀(t:List Sp)(i:Nat),x.steps.drop i=t->Lp f166 0 (EV (x.steps.map Sp.row) x.steps.length i x.lo x.hi (x.steps.map Sp.row) x.act.kind x.act.data) 0 [vB (bif t.all B4 then(bV x.act).2 else false)] []:=by
  intro t;induction t with
  |nil=>intro i a;apply RC;exact aT (l:=x.steps) rfl a ⟨_,aaA x.act,fi⟩
  |cons s t f=>
   intro i a;obtain⟨c,d,g⟩:=drop_cons a;apply RC;refine aO (l:=x.steps) rfl a ⟨cB s.cl,s.act.kind,s.act.data,by omega,aY c,_,aie s (e s (aK c)),ae (fun b=>ai ?_ rfl) fun b=>⟨aB,?_⟩⟩
   .rw[bE,show B4 s=false by simpa using b];rfl
   .rw[bE,show B4 s=true by simpa using b]
    exact f (i+1) d
 apply ah6;rw[ao];exact key x.steps 0 rfl
def aih(l:List Sn)(o:l.length<=2^40)(j:∀x∈l,wi x)(g:∀x∈l,0<=x.lo/\x.lo<4294967296/\0<=x.hi/\x.hi<4294967296):ak 111 [vL 5 (l.map Sn.row)] [] [vB (fP l 0)] []:=by
 have key:∀(t:List Sn)(i:Nat)(n:Int),l.drop i=t->Lp f111 0 (EU n (l.map Sn.row) l.length i) 0 [vB (fP t n)] []:=by
  intro t;induction t with
  |nil=>intro i n b;apply RB;exact aT (l:=l) rfl b fi
  |cons x t k=>
   intro i n b;obtain⟨d,f,m⟩:=drop_cons b;have e:=aK d;obtain⟨p,q,s,u⟩:=g x e;apply RB;refine aO (l:=l) rfl b ⟨x.lo,x.hi,x.steps.map Sp.row,x.act.kind,x.act.data,by omega,aY d,?_⟩
   simp only;rw[rp (n:=x.lo) (by omega) (by omega),rp (n:=x.hi) (by omega) (by omega)]
   exact ae (fun a=>ai (by rw[fP,a];rfl) rfl) fun a=>⟨_,aif x (j x e),ae (fun c=>ai (by rw[fP,a,c];rfl) rfl) fun c=>⟨aB,aB,by rw[fP,a,c];exact k (i+1) _ f⟩⟩
 apply ahV;rw[ao];exact key l 0 0 rfl
structure Sy where
 label:Int
 t:Int
 f:Int
 code:Int
 k:Int
def Sy.row(s:Sy):List PV:=[N s.label,N s.t,N s.f,N s.code,W s.k]
structure Wr where
 l:List Sy
 az:Int
 label:Int
abbrev wb(w:Wr):Bx:=.cells [O 5 (w.l.map Sy.row),vN w.az,vN w.label]
def eL(w:Wr)(t f code k:Int):Wr:={w with l:=w.l++[⟨w.label,t,f,code,k⟩],label:=0}
def dn(w:Wr):Wr:={w with az:=w.az+1}
def cy(w:Wr)(ch:Int):Wr:={(bif w.label !=0 then eL w 0 0 135 0 else w)with label:=ch}
def nk(w:Wr)(a:Act):Wr:=eL w 0 0 6 (bV a).1
def xq(h:Hf):Int:=bif h.high then 16+8*h.arg+4 else 16+8*h.arg
def iW(w:Wr)(h:Hf):Wr:=bif h.mask !=4294967295 then eL (eL w 0 0 32 (IntKind.wrap .u32 (xq h))) 0 0 84 h.mask else eL w 0 0 32 (IntKind.wrap .u32 (xq h))
def ic(op:Int):Int:=bif op==1 then 21 else bif op==2 then 21 else bif op==5 then 37 else bif op==4 then 37 else 53
def qb(op:Int):Bool:=bif(bif(op==2)then true else(op==4))then true else(op==3)
def testW(w:Wr)(h:Hf)(yes no:Int):Wr:=bif qb h.op then eL (iW w h) no yes (ic h.op) h.value else eL (iW w h) yes no (ic h.op) h.value
def ts(n yes no next:Int):List Hf->Int->Wr->Wr
 |[],_,w=>w
 |h::t,i,w=>ts n yes no next t (i+1) (bif decide (i<n-1)then testW w h 0 no else bif no==next then testW w h yes 0 else testW w h yes no)
def dh(w:Wr)(l:List Hf)(yes no next:Int):Wr:=
 ts l.length yes no next l 0 (bif(bif(l.length:Int)==0 then yes !=0 else false)then eL w yes 0 5 0 else w)
def zL(s:Sp)(b a:Int)(w:Wr):Wr:=bif decide ((s.cl.length:Int)>0)then cy (nk (cy w b) s.act) a else cy w a
def wj(s:Sp)(b a:Int):List (List Hf)->Int->Wr->Wr
 |[],_,w=>zL s b a w
 |x::t,i,w=>bif i==(s.cl.length:Int)-1 then zL s b a (dh (dn w) x 0 a 0)else
  wj s b a t (i+1) (cy (dh (dn w) x b (w.az+1) (w.az+1)) (w.az+1))
def B6(w:Wr)(s:Sp):Wr:=wj s (w.az+1) (w.az+1+1) s.cl 0 (dn (dn w))
def rq(a:Act):List Sp->Wr->Wr
 |[],w=>nk w a
 |s::t,w=>rq a t (B6 w s)
def Vv(w:Wr)(x:Sn):Wr:=rq x.act x.steps w
def eV:Nat->List Sn->Wr->Wr
 |0,_,w=>w
 |n+1,l,w=>bif(l.length:Int)==1 then Vv w (l.getD 0 gy)else
  eV n (l.drop (l.length/2)) (cy (eV n (l.take (l.length/2)) (eL (dn w) (w.az+1) 0 53 (l.getD (l.length/2) gy).lo)) (w.az+1))
def fc(aq:Int)(l:List Sn):List Sy×Int:=bif !fP l 0 then([],1)else
 ((eV l.length l (eL (cy (nk (eL (eL (dn ⟨[],0,0⟩) 0 0 32 4) 1 0 21 aq) ⟨1,0⟩) 1) 0 0 32 0)).l,0)
structure WB (w:Wr) (n:Nat):Prop where
 l:w.l.length<=n
 lo:0<=w.az
 hi:w.az<=n
variable {w:Wr} {n:Nat}
def WB.mono{m:Nat}(h:WB w n)(a:n<=m):WB w m:=⟨by have:=h.l;omega,h.lo,by have:=h.hi;omega⟩
def jv(h:WB w n)(t f c k:Int):WB (eL w t f c k) (n+1):=⟨by have:=h.l;simp[eL];omega,h.lo,by have:=h.hi;simp only[eL];omega⟩
def jw(h:WB w n):WB (dn w) (n+1):=⟨by have:=h.l;simp only[dn];omega,by have:=h.lo;simp only[dn];omega,by have:=h.hi;simp only[dn];omega⟩
def kW(h:WB w n)(ch:Int):WB (cy w ch) (n+1):=by
 unfold cy;cases w.label !=0
 .exact⟨(h.mono (iN n)).l,h.lo,(h.mono (iN n)).hi⟩
 .exact⟨(jv h 0 0 135 0).l,h.lo,(h.mono (iN n)).hi⟩
def E2(h:WB w n)(a:Act):WB (nk w a) (n+1):=jv h _ _ _ _
def x3(h:WB w n)(x:Hf):WB (iW w x) (n+2):=by
 unfold iW;cases x.mask !=4294967295
 .exact(jv h _ _ _ _).mono (by omega)
 .exact jv (jv h _ _ _ _) _ _ _ _
def sf(h:WB w n)(x:Hf)(y z:Int):WB (testW w x y z) (n+3):=by
 unfold testW;cases qb x.op
 .exact jv (x3 h x) _ _ _ _
 .exact jv (x3 h x) _ _ _ _
def RI(m yes no next:Int):∀(t:List Hf)(i:Int)(w:Wr)(n:Nat),WB w n->WB (ts m yes no next t i w) (n+3*t.length)
 |[],i,w,n,h=>h
 |x::t,i,w,n,h=>by
  unfold ts;have e:n+3*(x::t).length=n+3+3*t.length:=by simp;omega
  rw[e];refine RI m yes no next t _ _ _ ?_;cases decide (i<m-1)
  .cases no==next
   .exact sf h _ _ _
   .exact sf h _ _ _
  .exact sf h _ _ _
def sh(h:WB w n)(l:List Hf)(yes no next:Int):WB (dh w l yes no next) (n+(3*l.length+1)):=by
 unfold dh;rw[show n+(3*l.length+1)=n+1+3*l.length by omega]
 refine RI _ _ _ _ _ _ _ _ ?_;cases(bif(l.length:Int)==0 then yes !=0 else false)
 .exact h.mono (iN n)
 .exact jv h _ _ _ _
def RJ(h:WB w n)(s:Sp)(a e:Int):WB (zL s a e w) (n+3):=by
 unfold zL;cases decide ((s.cl.length:Int)>0)
 .exact(kW h _).mono (by omega)
 .exact kW (E2 (kW h _) _) _
def mU:List (List Hf)->Nat
 |[]=>0
 |x::t=>3*x.length+3+mU t
def RL(s:Sp)(a e:Int):∀(t:List (List Hf))(i:Int)(w:Wr)(n:Nat),WB w n->WB (wj s a e t i w) (n+mU t+3)
 |[],i,w,n,h=>RJ h s a e
 |x::t,i,w,n,h=>by
  unfold wj;have b:=sh (jw h) x 0 e 0;have c:=sh (jw h) x a (w.az+1) (w.az+1);cases i==(s.cl.length:Int)-1
  .exact(RL s a e t _ _ _ (kW c _)).mono (by simp only[mU];omega)
  .exact(RJ b s a e).mono (by simp only[mU];omega)
def Lw(h:WB w n)(s:Sp):WB (B6 w s) (n+(mU s.cl+5)):=(RL s _ _ s.cl 0 _ _ (jw (jw h))).mono (by omega)
def ga:List Sp->Nat
 |[]=>1
 |s::t=>mU s.cl+5+ga t
def Hm(a:Act):∀(t:List Sp)(w:Wr)(n:Nat),WB w n->WB (rq a t w) (n+ga t)
 |[],w,n,h=>E2 h a
 |s::t,w,n,h=>by
  unfold rq;exact(Hm a t _ _ (Lw h s)).mono (by simp only[ga];omega)
def gW:List Sn->Nat
 |[]=>0
 |x::t=>ga x.steps+3+gW t
def me:∀(a b:List Sn),gW (a++b)=gW a+gW b
 |[],b=>by simp[gW]
 |x::a,b=>by simp only[di,gW];rw[me a b];omega
def si:∀(m:Nat)(l:List Sn)(w:Wr)(n:Nat),l.length<=m->1<=l.length->WB w n->WB (eV m l w) (n+gW l+3*(l.length-1))
 |0,l,w,n,h,c,_=>by omega
 |m+1,l,w,n,g,c,h=>by
  unfold eV;cases hd:(l.length:Int)==1
  .have i:=gr hd
   have d:(l.drop (l.length/2)).length=l.length-l.length/2:=hK ..;have f:(l.take (l.length/2)).length=l.length/2:=by simp;omega
   have e:=me (l.take (l.length/2)) (l.drop (l.length/2));rw[xF]at e;have a:=si m (l.take (l.length/2)) _ _ (by omega) (by omega) (jv (jw h) (w.az+1) 0 53 (l.getD (l.length/2) gy).lo)
   have b:=si m (l.drop (l.length/2)) _ _ (by omega) (by omega) (kW a (w.az+1))
   exact b.mono (by omega)
  .match l,eq_of_beq hd with
   |[x],_=>exact(Hm x.act x.steps w n h).mono (by simp only[gW,aC,cO];omega)
end
def RM(w:Wr)(n:Nat)(h:WB w n)(a:n<=2^40):ak 112 [.aA 0 0] [wb w] [vN (w.az+1)] [wb (dn w)]:=by
 have:=h.lo;have:=h.hi;apply ahX;exact⟨aB,fi⟩
def zM(w:Wr)(n:Nat)(h:WB w n)(a:n<=2^40)(z t f c k:Int):ak 113 [.aA 0 0,.agg [N z,N t,N f,N c,W k]] [wb w] [] [wb (eL w t f c k)]:=by
 have:=h.l;apply ahZ;exact⟨by simp;omega,ai rfl (by simp[eL,Sy.row])⟩
def Np(w:Wr)(n:Nat)(h:WB w n)(a:n<=2^40)(ch:Int):ak 115 [.aA 0 0,vN ch] [wb w] [] [wb (cy w ch)]:=by
 apply ah3;exact ae (fun e=>⟨_,_,zM w n h a 0 0 0 135 0,ai rfl (by rw[cy,e];rfl)⟩) fun e=>ai rfl (by rw[cy,e];rfl)
def XQ(w:Wr)(n:Nat)(h:WB w n)(b:n<=2^40)(a:Act):ak 114 [.aA 0 0,Bc a] [wb w] [] [wb (nk w a)]:=by
 apply ah1;exact⟨_,_,TT a,_,_,zM w n h b 0 0 0 6 _,fi⟩
def aii(w:Wr)(n:Nat)(c:WB w n)(l:n+3<=2^40)(h:Hf)(yes no:Int)(k:0<=h.arg/\h.arg<=5):ak 350 [.aA 0 0,T6 h,vN yes,vN no] [wb w] [] [wb (testW w h yes no)]:=by
 have a:Rp f350 16 (pN ((iW w h).l.map Sy.row) (iW w h).az (iW w h).label h.arg h.op h.high h.mask h.value 0 yes no (ic h.op) h.value) 1 [] [wb (testW w h yes no)]:=by
  apply Ue;exact ae (fun e=>⟨_,_,zM (iW w h) _ (x3 c h) (by omega) 0 no yes (ic h.op) h.value,ai rfl (by rw[testW,show qb h.op=true from e];rfl)⟩)
   fun e=>⟨_,_,zM (iW w h) _ (x3 c h) (by omega) 0 yes no (ic h.op) h.value,ai rfl (by rw[testW,show qb h.op=false from e];rfl)⟩
 have f:Rp f350 7 (E1 yes no ((iW w h).l.map Sy.row) (iW w h).az (iW w h).label h.arg h.op h.high h.mask h.value) 1 [] [wb (testW w h yes no)]:=by
  apply XP;refine ae (fun e=>?_) fun b=>ae (fun e=>?_) fun g=>ae (fun e=>?_) fun i=>ae (fun e=>?_) fun e=>?_
  .rw[show ic h.op=21 by rw[ic,e];rfl]at a;exact a
  .rw[show ic h.op=21 by rw[ic,b,e];rfl]at a;exact a
  .rw[show ic h.op=37 by rw[ic,b,g,e];rfl]at a;exact a
  .rw[show ic h.op=37 by rw[ic,b,g,i,e];rfl]at a;exact a
  .rw[show ic h.op=53 by rw[ic,b,g,i,e];rfl]at a;exact a
 have d:Rp f350 4 (E0 yes no (xq h) (w.l.map Sy.row) w.az w.label h.arg h.op h.high h.mask h.value) 1 [] [wb (testW w h yes no)]:=by
  apply XO;have j:=jv c 0 0 32 (IntKind.wrap .u32 (xq h));refine⟨_,_,zM w n c (by omega) 0 0 0 32 _,ae (fun e=>⟨_,_,zM _ _ j (by omega) 0 0 0 84 h.mask,?_⟩) fun e=>?_⟩
  .rw[show iW w h=eL (eL w 0 0 32 (IntKind.wrap .u32 (xq h))) 0 0 84 h.mask by rw[iW,e];rfl]at f;exact f
  .rw[show iW w h=eL w 0 0 32 (IntKind.wrap .u32 (xq h)) by rw[iW,e];rfl]at f;exact f
 apply aid;refine⟨aB,aB,ae (fun e=>⟨aB,?_⟩) fun e=>?_⟩
 .rw[show xq h=16+8*h.arg+4 by rw[xq,e];rfl]at d;exact d
 .rw[show xq h=16+8*h.arg by rw[xq,e];rfl]at d;exact d
def sj(w:Wr)(h:Hf)(a b:Int):(testW w h a b).az=w.az:=by
 unfold testW iW;cases qb h.op<;>cases h.mask !=4294967295<;>rfl
abbrev wbL(w:Wr)(n:Int):Bx:=.cells [O 5 (w.l.map Sy.row),vN n,vN w.label]
def Vw{w:Wr}{n:Int}(h:w.az=n):wb w=wbL w n:=by rw[<-h]
def RN(w:Wr)(n:Nat)(b:WB w n)(c:n+3<=2^40)(h:Hf)(yes no:Int)(a:0<=h.arg/\h.arg<=5):ak 350 [.aA 0 0,T6 h,vN yes,vN no] [wb w] [] [wbL (testW w h yes no) w.az]:=by
 rw[<-Vw (sj w h yes no)];exact aii w n b c h yes no a
def Uf{h:Hf}(d:sD h.arg h.op=true):0<=h.arg/\h.arg<=5:=by
 obtain⟨a,-⟩:=cd (b:=(bif(bif(decide (h.arg>=0))then(decide (h.arg<=5))else false)then(decide (h.op>=1))else false)) d;obtain⟨a,-⟩:=cd a;obtain⟨a,c⟩:=cd a;exact⟨aN a,aN c⟩
def aaB(w:Wr)(n:Nat)(j:WB w n)(l:List Hf)(yes no next:Int)(o:n+(3*l.length+1)<=2^40)(p:uY l=true):
  ak 308 [.aA 0 0,vL 5 (l.map Hf.row),vN yes,vN no,vN next] [wb w] [] [wb (dh w l yes no next)]:=by
 have hlen:(l.map Hf.row).length=l.length:=ao ..;have key:∀(t:List Hf)(i:Nat)(w:Wr)(n:Nat),l.drop i=t->WB w n->n+3*t.length<=2^40->Lp f308 0 (tr (l.map Hf.row) yes no next (l.map Hf.row) l.length i (w.l.map Sy.row) w.az w.label) 1 [] [wb (ts l.length yes no next t i w)]:=by
  intro t;induction t with
  |nil=>intro i w n d _ _;apply RH;exact aT (l:=l) rfl d fi
  |cons x t k=>
   intro i w n d b o;obtain⟨m,e,q⟩:=drop_cons d;have g:=Uf (bf.1 p x (aK m));simp only[aC]at o;apply RH;refine aO (l:=l) rfl d ⟨x.arg,x.op,x.high,x.mask,x.value,by omega,aY m,?_⟩
   rw[hlen];refine⟨aB,ae (fun c=>⟨_,_,RN w n b (by omega) x 0 no g,aB,?_⟩) fun c=>ae (fun f=>⟨_,_,RN w n b (by omega) x yes 0 g,aB,?_⟩) fun f=>⟨_,_,RN w n b (by omega) x yes no g,aB,?_⟩⟩
   .have a:=k (i+1) _ _ e (sf b x 0 no) (by omega);rw[sj]at a;rw[ts,c];exact a
   .have a:=k (i+1) _ _ e (sf b x yes 0) (by omega);rw[sj]at a;rw[ts,c,f];exact a
   .have a:=k (i+1) _ _ e (sf b x yes no) (by omega);rw[sj]at a;rw[ts,c,f];exact a
 apply aic;rw[hlen];refine ae (fun h=>⟨_,_,zM w n j (by omega) 0 yes 0 5 0,?_⟩) fun h=>?_
 .rw[dh,h];exact key l 0 _ _ rfl (jv j yes 0 5 0) (by omega)
 .rw[dh,h];exact key l 0 _ _ rfl j (by omega)
def aij(w:Wr)(n:Nat)(y:WB w n)(s:Sp)(k:n+(mU s.cl+5)<=2^40)(R:s.cl.all uY=true):ak 236 [.aA 0 0,Yw s] [wb w] [] [wb (B6 w s)]:=by
 have hlen:(cB s.cl).length=s.cl.length:=ao ..;have a0:∀l:List (List Hf),l.length<=mU l:=by
  intro l;induction l with
  |nil=>simp
  |cons x l q=>simp only[mU,aC];omega
 have a1:=a0 s.cl;have fin:∀(a e:Int)(w:Wr)(n:Nat),WB w n->n+3<=2^40->ay (decide (((cB s.cl).length:Int)>0)) (∃M T,ak 115 [.aA 0 0,vN a] [.cells [O 5 (w.l.map Sy.row),vN w.az,vN w.label]] [] [.cells [O 5 M,vN w.az,vN T]]/\∃K Q,ak 114 [.aA 0 0,.agg [N s.act.kind,N s.act.data]] [.cells [O 5 M,vN w.az,vN T]] [] [.cells [O 5 K,vN w.az,vN Q]]/\∃X Y,ak 115 [.aA 0 0,vN e] [.cells [O 5 K,vN w.az,vN Q]] [] [.cells [O 5 X,vN w.az,vN Y]]/\Fi [] [wb (zL s a e w)] [] [.cells [O 5 X,vN w.az,vN Y]])
   (∃Z F,ak 115 [.aA 0 0,vN e] [.cells [O 5 (w.l.map Sy.row),vN w.az,vN w.label]] [] [.cells [O 5 Z,vN w.az,vN F]]/\Fi [] [wb (zL s a e w)] [] [.cells [O 5 Z,vN w.az,vN F]]):=by
  intro a e w n d k;rw[hlen];have ch:∀(w:Wr)(x:Int),(cy w x).az=w.az:=by intro w x;unfold cy;cases w.label !=0<;>rfl
  refine ae (fun h=>?_) fun h=>?_
  .have g:=Np w n d (by omega) a
   have j:=XQ (cy w a) _ (kW d a) (by omega) s.act
   have u:=Np (nk (cy w a) s.act) _ (E2 (kW d a) s.act) (by omega) e
   have o:(nk (cy w a) s.act).az=w.az:=ch w a;have I:(cy (nk (cy w a) s.act) e).az=w.az:=(ch _ _).trans o;rw[show wb (cy w a)=.cells [O 5 ((cy w a).l.map Sy.row),vN w.az,vN (cy w a).label] by rw[<-ch w a]]at g j
   rw[show wb (nk (cy w a) s.act)=.cells [O 5 ((nk (cy w a) s.act).l.map Sy.row),vN w.az,vN (nk (cy w a) s.act).label] by rw[<-o]]at j u
   rw[show wb (cy (nk (cy w a) s.act) e)=.cells [O 5 ((cy (nk (cy w a) s.act) e).l.map Sy.row),vN w.az,vN (cy (nk (cy w a) s.act) e).label] by rw[<-I]]at u
   exact⟨_,_,g,_,_,j,_,_,u,ai rfl (by rw[zL,h];simp only[aj,wb];rw[I])⟩
  .have g:=Np w n d (by omega) e
   rw[show wb (cy w e)=.cells [O 5 ((cy w e).l.map Sy.row),vN w.az,vN (cy w e).label] by rw[<-ch w e]]at g
   exact⟨_,_,g,ai rfl (by rw[zL,h];simp only[af,wb];rw[ch])⟩
 have z:∀(w:Wr)(l:List Hf)(a b c:Int),(dh w l a b c).az=w.az:=by
  intro w l a b c;have J:∀(w:Wr)(h:Hf)(a b:Int),(testW w h a b).az=w.az:=by
   intro w h a b;unfold testW iW;cases qb h.op<;>cases h.mask !=4294967295<;>rfl
  have t2:∀(t:List Hf)(m i:Int)(w:Wr),(ts m a b c t i w).az=w.az:=by
   intro t;induction t with
   |nil=>intro m i w;rfl
   |cons x t q=>
    intro m i w;rw[ts,q];cases decide (i<m-1)
    .cases b==c<;>exact J _ _ _ _
    .exact J _ _ _ _
  rw[dh,t2];cases(bif(l.length:Int)==0 then a !=0 else false)<;>rfl
 have ch:∀(w:Wr)(x:Int),(cy w x).az=w.az:=by intro w x;unfold cy;cases w.label !=0<;>rfl
 have key:∀(a e:Int)(t:List (List Hf))(i:Nat)(w:Wr)(n:Nat),s.cl.drop i=t->WB w n->n+mU t+3<=2^40->Lp f236 0 (EZ a e (cB s.cl) s.cl.length i (w.l.map Sy.row) w.az w.label (cB s.cl) s.act.kind s.act.data) 1 [] [wb (wj s a e t i w)]:=by
  intro a e t;induction t with
  |nil=>intro i w n p d k;apply RG;exact aT (l:=s.cl) rfl p (fin a e w n d (by simp only[mU]at k;omega))
  |cons x t q=>
   intro i w n p d k;obtain⟨D,A,h3⟩:=drop_cons p;have E:=bf.1 R x (aK D);simp only[mU]at k;apply RG;refine aO (l:=s.cl) rfl p ⟨x.map Hf.row,by omega,aY D,_,_,RM w n d (by omega),?_⟩
   rw[hlen];refine⟨aB,ae (fun v=>?_) fun v=>?_⟩
   .have g:=aaB (dn w) _ (jw d) x 0 e 0 (by omega) E
    have f:=fin a e (dh (dn w) x 0 e 0) _ (sh (jw d) x 0 e 0) (by omega)
    rw[z,hlen]at f;rw[show wb (dh (dn w) x 0 e 0)=.cells [O 5 ((dh (dn w) x 0 e 0).l.map Sy.row),vN (dn w).az,vN (dh (dn w) x 0 e 0).label] by rw[<-z (dn w) x 0 e 0]]at g
    rw[wj,v];exact⟨_,_,g,f⟩
   .have g:=aaB (dn w) _ (jw d) x a (w.az+1) (w.az+1) (by omega) E
    have r:=sh (jw d) x a (w.az+1) (w.az+1);have j:=Np (dh (dn w) x a (w.az+1) (w.az+1)) _ r (by omega) (w.az+1)
    have G:=q (i+1) _ _ A (kW r (w.az+1)) (by omega)
    have H:=z (dn w) x a (w.az+1) (w.az+1);have o:=(ch (dh (dn w) x a (w.az+1) (w.az+1)) (w.az+1)).trans H;rw[show wb (dh (dn w) x a (w.az+1) (w.az+1))=.cells [O 5 ((dh (dn w) x a (w.az+1) (w.az+1)).l.map Sy.row),vN (dn w).az,vN (dh (dn w) x a (w.az+1) (w.az+1)).label] by rw[<-H]]at g j
    rw[show wb (cy (dh (dn w) x a (w.az+1) (w.az+1)) (w.az+1))=.cells [O 5 ((cy (dh (dn w) x a (w.az+1) (w.az+1)) (w.az+1)).l.map Sy.row),vN (dn w).az,vN (cy (dh (dn w) x a (w.az+1) (w.az+1)) (w.az+1)).label] by rw[<-o]]at j
    rw[o]at G;rw[wj,v];exact⟨_,_,g,_,_,j,aB,G⟩
 apply aib;rw[hlen];exact⟨_,_,RM w n y (by omega),_,_,RM (dn w) _ (jw y) (by omega),key _ _ s.cl 0 _ _ rfl (jw (jw y)) (by omega)⟩
def aik(w:Wr)(n:Nat)(g:WB w n)(x:Sn)(b:n+ga x.steps<=2^40)(j:∀s∈x.steps,s.cl.all uY=true):ak 167 [.aA 0 0,Yx x] [wb w] [] [wb (Vv w x)]:=by
 have k:∀l:List Sp,l.length<=ga l:=by
  intro l;induction l with
  |nil=>simp
  |cons x l e=>simp only[ga,aC];omega
 have o:=k x.steps;have key:∀(t:List Sp)(i:Nat)(w:Wr)(n:Nat),x.steps.drop i=t->WB w n->n+ga t<=2^40->Lp f167 0 (EW (x.steps.map Sp.row) x.steps.length i (w.l.map Sy.row) w.az w.label x.lo x.hi (x.steps.map Sp.row) x.act.kind x.act.data) 1 [] [wb (rq x.act t w)]:=by
  intro t;induction t with
  |nil=>intro i w n a c b;apply RD;exact aT (l:=x.steps) rfl a ⟨_,_,XQ w n c (by omega) x.act,fi⟩
  |cons s t e=>
   intro i w n a c b;obtain⟨d,f,m⟩:=drop_cons a;simp only[ga]at b;apply RD;refine aO (l:=x.steps) rfl a ⟨cB s.cl,s.act.kind,s.act.data,by omega,aY d,_,_,_,aij w n c s (by omega) (j s (aK d)),aB,?_⟩
   exact e (i+1) _ _ f (Lw c s) (by omega)
 apply ah7;rw[ao];exact key x.steps 0 w n rfl g b
def XR:∀(m:Nat)(l:List Sn)(w:Wr)(n:Nat),l.length<=m->1<=l.length->WB w n->n+gW l+3*l.length<=2^40->(∀x∈l,∀s∈x.steps,s.cl.all uY=true)->ak 116 [.aA 0 0,vL 5 (l.map Sn.row)] [wb w] [] [wb (eV m l w)]
 |0,l,w,n,h,q,_,_,_=>by omega
 |m+1,l,w,n,E,q,a,t,d=>by
  have hlen:(l.map Sn.row).length=l.length:=ao ..;have z:IntKind.wrap .i64 (Int.tdiv (l.length:Int) 2)=((l.length/2:Nat):Int):=by
   rw[show Int.tdiv (l.length:Int) 2=((l.length/2:Nat):Int) by rw[xN (by omega)];omega]
   exact rp (by omega) (by omega)
  apply ah5;rw[hlen];refine ae (fun h=>?_) fun h=>?_
  .match l,eq_of_beq h with
   |[x],_=>
    simp only[gW,aC,cO]at t;refine⟨x.lo,x.hi,x.steps.map Sp.row,x.act.kind,x.act.data,by omega,rfl,_,_,_,aik w n a x (by omega) (d x aS),ai rfl (by rw[eV,h];rfl)⟩
  .have G:=gr h
   have r:(l.drop (l.length/2)).length=l.length-l.length/2:=hK ..;have D:(l.take (l.length/2)).length=l.length/2:=by simp;omega
   have e:=me (l.take (l.length/2)) (l.drop (l.length/2));rw[xF]at e;have y:l.length/2<l.length:=by omega
   have k:=bk y;have o:l.getD (l.length/2) gy=l[l.length/2]:=by rw[bS,k];rfl
   have pb:=jv (jw a) (w.az+1) 0 53 (l.getD (l.length/2) gy).lo;have j:=XR m (l.take (l.length/2)) _ _ (by omega) (by omega) pb (by omega) fun x f=>d x (xE f)
   have g:=si m (l.take (l.length/2)) _ _ (by omega) (by omega) pb
   have b:=Np _ _ g (by omega) (w.az+1)
   have p:=kW g (w.az+1);have c:=XR m (l.drop (l.length/2)) _ _ (by omega) (by omega) p (by omega) fun x f=>d x (tV f)
   have ch:∀(w:Wr)(x:Int),(cy w x).az=w.az:=by intro w x;unfold cy;cases w.label !=0<;>rfl
   have u:=ch (eV m (l.take (l.length/2)) (eL (dn w) (w.az+1) 0 53 (l.getD (l.length/2) gy).lo)) (w.az+1);rw[show wb (cy (eV m (l.take (l.length/2)) (eL (dn w) (w.az+1) 0 53 (l.getD (l.length/2) gy).lo)) (w.az+1))=.cells [O 5 ((cy (eV m (l.take (l.length/2)) (eL (dn w) (w.az+1) 0 53 (l.getD (l.length/2) gy).lo)) (w.az+1)).l.map Sy.row),vN (eV m (l.take (l.length/2)) (eL (dn w) (w.az+1) 0 53 (l.getD (l.length/2) gy).lo)).az,vN (cy (eV m (l.take (l.length/2)) (eL (dn w) (w.az+1) 0 53 (l.getD (l.length/2) gy).lo)) (w.az+1)).label] by rw[<-u]]at b c
   rw[z];have v:List.drop 0 (List.take (Int.toNat ((l.length/2:Nat):Int)) (l.map Sn.row))=(l.take (l.length/2)).map Sn.row:=by rw[gq,toNat_cast,iQ]
   have t2:List.drop (Int.toNat ((l.length/2:Nat):Int)) (List.take l.length (l.map Sn.row))=(l.drop (l.length/2)).map Sn.row:=by rw[toNat_cast,eU (by omega),od]
   rw[v,t2];have i:=zM (dn w) _ (jw a) (by omega) 0 (w.az+1) 0 53 (l.getD (l.length/2) gy).lo
   rw[o]at i j b c;refine⟨by omega,_,_,RM w n a (by omega),l[l.length/2].lo,l[l.length/2].hi,l[l.length/2].steps.map Sp.row,l[l.length/2].act.kind,l[l.length/2].act.data,by omega,by rw[toNat_cast,bp,k];rfl,_,_,i,⟨by omega,by omega,by omega⟩,_,_,_,j,_,_,b,⟨by omega,by omega,by omega⟩,_,_,_,c,ai rfl ?_⟩
   rw[eV,h,o];rfl
def zN:∀(l:List Sn)(n:Int),fP l n=true->∀x∈l,B5 x=true
 |[],_,_,x,a=>by simp at a
 |y::t,n,h,x,a=>by
  unfold fP at h;cases h1:(bif y.lo !=n then true else decide (y.hi<y.lo))<;>rw[h1]at h
  .cases h2:B5 y<;>rw[h2]at h
   .simp at h
   .rcases aU.1 a with rfl|a
    .exact h2
    .exact zN t _ h x a
  .simp at h
def RO{x:Sn}(h:B5 x=true):∀s∈x.steps,s.cl.all uY=true:=fun s a=>(cd (b:=s.cl.all uY) (bf.1 (cd (b:=x.steps.all B4) h).1 s a)).1
def C82(aq:Int)(l:List Sn)(m:l.length<=2^40)(a:∀x∈l,wi x)(n:∀x∈l,0<=x.lo/\x.lo<4294967296/\0<=x.hi/\x.hi<4294967296)(p:gW l+3*l.length+20<=2^40):
  ak 82 [vW aq,vL 5 (l.map Sn.row)] [] [vL 5 ((fc aq l).1.map Sy.row),vN (fc aq l).2] []:=by
 apply W82;refine⟨_,aih l m a n,ae (fun h=>ai (by rw[fc,h];rfl) rfl) fun h=>?_⟩
 have j:fP l 0=true:=by simpa using h
 have o:1<=l.length:=by
  cases l with
  |nil=>simp[fP]at j
  |cons=>simp
 have b:WB (⟨[],0,0⟩:Wr) 0:=⟨by simp,by simp,by simp⟩
 have c:=jw b;have d:=jv c 0 0 32 4;have e:=jv d 1 0 21 aq;have f:=E2 e ⟨1,0⟩;have g:=kW f 1;have k:=jv g 0 0 32 0;have i:=Np (nk (eL (eL (dn ⟨[],0,0⟩) 0 0 32 4) 1 0 21 aq) ⟨1,0⟩) _ f (by omega) 1
 rw[Vw (show(cy (nk (eL (eL (dn ⟨[],0,0⟩) 0 0 32 4) 1 0 21 aq) ⟨1,0⟩) 1).az=(dn ⟨[],0,0⟩).az from rfl)]at i
 exact⟨_,_,RM ⟨[],0,0⟩ 0 b (by omega),_,_,zM _ _ c (by omega) 0 0 0 32 4,_,_,zM _ _ d (by omega) 0 1 0 21 aq,_,_,XQ _ _ e (by omega) ⟨1,0⟩,_,_,i,_,_,zM _ _ g (by omega) 0 0 0 32 0,
  _,_,_,XR l.length l _ _ (ar _) o k (by omega) (fun x a=>RO (zN l 0 j x a)),ai (by rw[fc,h];rfl) rfl⟩
def Ly(a b:Rw)(c:List (PV×AV))(d e:Rw):St:=⟨aM 40 [(0,vL 5 a),(4,.aA 0 0)],[],[.cells [vL 5 b,.mp 1,.bo 2,.bo 3],.map 239 c,.bc 1 d,.bc 2 e]⟩
def Lz(a:Rw)(b c:Int)(d:Rw)(e:List (PV×AV))(f g:Rw):St:=⟨aM 40 [(4,.aA 0 0),(5,.own 0 0 4 a),(26,vN b),(27,vN c)],[some 0],[.cells [vL 5 d,.mp 1,.bo 2,.bo 3],.map 239 e,.bc 1 f,.bc 2 g]⟩
def A84:bq:={mod:=[(2,1,[(1,[])]),(6,1,[(2,[]),(3,[])])],cut:=[(6,{bl:=[0,4]}),(9,{bl:=[4,5,26,27],dw:=[(5,4)],owns:=[5]})]}
def W84(a:Rw){r h}(H:(a.length:Int)=(a.length:Int)/\0<=(a.length:Int)/\(a.length:Int)*(8:Nat)<=2^47/\(a.length:Int)=(a.length:Int)/\0<=(a.length:Int)/\(a.length:Int)*(2:Nat)<=2^47/\∃b c,ak 119 [.aA 0 0] [.cells [vL 5 a,.mp 1,.bo 2,.bo 3],.map 239 [],.bc 1 (List.replicate (Int.toNat (a.length:Int)) [N 0]:Rw),.bc 2 (List.replicate (Int.toNat (a.length:Int)) [B false,B false]:Rw)] [vB b] [.cells [vL 5 a,.mp 1,.bo 2,.bo 3],.map 239 c,.bc 1 (List.replicate (Int.toNat (a.length:Int)) [N 0]:Rw),.bc 2 (List.replicate (Int.toNat (a.length:Int)) [B false,B false]:Rw)]/\ay (!b) (Fi r h [vL 4 [],vN 1] [])
 (ay (decide ((a.length:Int)>4096)) (Fi r h [vL 4 [],vN 9] [])
 (Lp f84 0 (Ly a a c (List.replicate (Int.toNat (a.length:Int)) [N 0]:Rw) (List.replicate (Int.toNat (a.length:Int)) [B false,B false]:Rw)) 0 r h))):
  ak 84 [vL 5 a] [] r h:=.of func84 A84 H
def aaC(c a:Rw)(b:List (PV×AV))(f g:Rw){r h}(H:∃i d e,ak 120 [.aA 0 0] [.cells [vL 5 a,.mp 1,.bo 2,.bo 3],.map 239 b,.bc 1 f,.bc 2 g] [vB i] [.cells [vL 5 a,.mp 1,.bo 2,.bo 3],.map 239 b,.bc 1 d,.bc 2 e]/\ay i (Lp f84 0 (Ly c a b d e) 0 r h)
 (Lp f84 1 (Lz [] (c.length:Int) 0 a b d e) 0 r h)):
  Lp f84 0 (Ly c a b f g) 0 r h:=.of A84 H
def Vx(a:Rw)(g b:Int)(c:Rw)(d:List (PV×AV))(e f:Rw){r h}(H:ay (decide (b<g)) (∃i,ak 121 [.aA 0 0,vN b] [.cells [vL 5 c,.mp 1,.bo 2,.bo 3],.map 239 d,.bc 1 e,.bc 2 f] [vL 4 i] [.cells [vL 5 c,.mp 1,.bo 2,.bo 3],.map 239 d,.bc 1 e,.bc 2 f]/\(a++i).length*32<=2^47/\bh .i64 (b+1)/\Lp f84 1 (Lz (a++i) g (b+1) c d e f) 0 r h)
 (ay (decide ((a.length:Int)>4096)) (Fi r h [vL 4 [],vN 9] [])
 (Fi r h [.own 0 0 4 a,vN 0] []))):
  Lp f84 1 (Lz a g b c d e f) 0 r h:=.of A84 H
def tu(a:Rw)(b c:Int)(d:Rw)(e:List (PV×AV))(f g:Rw):St:=⟨aM 64 [(0,.aA 0 0),(11,vL 5 a),(12,vN b),(13,vN c)],[],[.cells [vL 5 d,.mp 1,.bo 2,.bo 3],.map 239 e,.bc 1 f,.bc 2 g]⟩
def E3(a b:Int)(c:Rw)(d:List (PV×AV))(e f:Rw):St:=⟨aM 64 [(0,.aA 0 0),(49,vN a),(50,vN b)],[],[.cells [vL 5 c,.mp 1,.bo 2,.bo 3],.map 239 d,.bc 1 e,.bc 2 f]⟩
def XS:bq:={an:=[(3,2,ah),(5,4,aa)],cut:=[(11,{bl:=[0,49,50]}),(2,{bl:=[0,11,12,13]})]}
def aim(a:Rw)(b:List (PV×AV))(c d:Rw){r h}(H:Lp f119 0 (tu a (a.length:Int) 0 a b c d) 4 r h):
  ak 119 [.aA 0 0] [.cells [vL 5 a,.mp 1,.bo 2,.bo 3],.map 239 b,.bc 1 c,.bc 2 d] r h:=.of func119 XS H
def RP(g:Rw)(i a:Int)(c:Rw)(b:List (PV×AV))(d e:Rw){r h}(H:ay (decide (a<i)) (pa g a fun f k l m n=>((cA b (N f)=none/\ay (bif(decide (f<0))then true else false) (Fi r h [vB false] [.cells [vL 5 c,.mp 1,.bo 2,.bo 3],.map 239 b,.bc 1 d,.bc 2 e])
 (ay (decide (f>0)) (bh .i64 (a+1)/\Lp f119 0 (tu g i (a+1) c (cn b (N f) (vN a)) d e) 4 r h)
 (bh .i64 (a+1)/\Lp f119 0 (tu g i (a+1) c b d e) 4 r h)))\/(∃j,cA b (N f)=some (vN j)/\ay (bif(decide (f<0))then true else true) (Fi r h [vB false] [.cells [vL 5 c,.mp 1,.bo 2,.bo 3],.map 239 b,.bc 1 d,.bc 2 e])
 (ay (decide (f>0)) (bh .i64 (a+1)/\Lp f119 0 (tu g i (a+1) c (cn b (N f) (vN a)) d e) 4 r h)
 (bh .i64 (a+1)/\Lp f119 0 (tu g i (a+1) c b d e) 4 r h)))))
 (Lp f119 1 (E3 (c.length:Int) 0 c b d e) 4 r h)):
  Lp f119 0 (tu g i a c b d e) 4 r h:=.of XS H
def RQ(f e:Int)(a:Rw)(b:List (PV×AV))(c d:Rw){r h}(H:ay (decide (e<f)) (∃g,ak 170 [.aA 0 0,vN e] [.cells [vL 5 a,.mp 1,.bo 2,.bo 3],.map 239 b,.bc 1 c,.bc 2 d] [vB g] [.cells [vL 5 a,.mp 1,.bo 2,.bo 3],.map 239 b,.bc 1 c,.bc 2 d]/\ay (!g) (Fi r h [vB false] [.cells [vL 5 a,.mp 1,.bo 2,.bo 3],.map 239 b,.bc 1 c,.bc 2 d])
 (bh .i64 (e+1)/\Lp f119 1 (E3 f (e+1) a b c d) 4 r h))
 (Fi r h [vB (decide ((a.length:Int)>0))] [.cells [vL 5 a,.mp 1,.bo 2,.bo 3],.map 239 b,.bc 1 c,.bc 2 d])):
  Lp f119 1 (E3 f e a b c d) 4 r h:=.of XS H
def zO(a:Bool)(b:Rw)(c d:Int)(e:Rw)(f:List (PV×AV))(g i:Rw):St:=⟨aM 65 [(0,.aA 0 0),(3,vB a),(13,vL 5 b),(14,vN c),(15,vN d)],[],[.cells [vL 5 e,.mp 1,.bo 2,.bo 3],.map 239 f,.bc 1 g,.bc 2 i]⟩
def tv(a:Bool)(b:Int)(c:Rw)(d e f g i:Int)(j:Rw)(k:List (PV×AV))(l m:Rw):St:=⟨aM 65 [(0,.aA 0 0),(3,vB a),(4,vN b),(13,vL 5 c),(14,vN d),(15,vN e),(26,.agg [N f,N g]),(27,vN i)],[],[.cells [vL 5 j,.mp 1,.bo 2,.bo 3],.map 239 k,.bc 1 l,.bc 2 m]⟩
def XT:bq:={an:=[(5,2,ah),(6,2,ah),(10,6,aQ),(10,17,aQ),(11,6,aQ)],mod:=[(2,1,[(2,[])])],cut:=[(4,{bl:=[0,3,13,14,15]}),(8,{bl:=[0,3,4,13,14,15,26,27]})]}
def ain(a:Rw)(b:List (PV×AV))(d c:Rw){r h}(H:∃e,ak 171 [.aA 0 0] [.cells [vL 5 a,.mp 1,.bo 2,.bo 3],.map 239 b,.bc 1 d,.bc 2 c] [] [.cells [vL 5 a,.mp 1,.bo 2,.bo 3],.map 239 b,.bc 1 e,.bc 2 c]/\Lp f120 0 (zO false a (a.length:Int) 0 a b e c) 4 r h):
  ak 120 [.aA 0 0] [.cells [vL 5 a,.mp 1,.bo 2,.bo 3],.map 239 b,.bc 1 d,.bc 2 c] r h:=.of func120 XT H
def RR(f:Bool)(g:Rw)(i a:Int)(b:Rw)(c:List (PV×AV))(d e:Rw){r h}(H:ay (decide (a<i)) (pa g a fun n o p m q=>∃j,ak 125 [vN m] [] [vB j] []/\ay (!j) (bh .i64 (a+1)/\Lp f120 0 (zO f g i (a+1) b c d e) 4 r h)
 (∃k l,ak 172 [.aA 0 0,vN a] [.cells [vL 5 b,.mp 1,.bo 2,.bo 3],.map 239 c,.bc 1 d,.bc 2 e] [.agg [N k,N l]] [.cells [vL 5 b,.mp 1,.bo 2,.bo 3],.map 239 c,.bc 1 d,.bc 2 e]/\Lp f120 1 (tv f a g i a k l 0 b c d e) 4 r h))
 (Fi r h [vB f] [.cells [vL 5 b,.mp 1,.bo 2,.bo 3],.map 239 c,.bc 1 d,.bc 2 e])):
  Lp f120 0 (zO f g i a b c d e) 4 r h:=.of XT H
def RS(m:Bool)(b:Int)(f:Rw)(g e i j a:Int)(k:Rw)(l:List (PV×AV))(d c:Rw){r h}(H:ay (decide (a<2)) (∃n,(0<=a/\a<2)/\([N i,N j]:List PV)[Int.toNat a]?=some (N n)/\(0<=b/\b<(c.length:Int))/\(0<=a/\a<2)/\∃p,(c[Int.toNat b]?).bind (·[(0+Int.toNat a*1)]?)=some (B p)/\ay (!p) ((0<=b/\b<(d.length:Int))/\∃o,(d[Int.toNat b]?).bind (·[0]?)=some (N o)/\bh .i64 (n-o)/\bh .i64 ((n-o)-1)/\ay (decide (((n-o)-1)>255)) ((0<=b/\b<(c.length:Int))/\(0<=a/\a<2)/\(0+Int.toNat a*1)+1<=2/\bh .i64 (a+1)/\Lp f120 1 (tv true b f g e i j (a+1) k l d (setRow c (Int.toNat b) (0+Int.toNat a*1) [B true])) 4 r h)
 (bh .i64 (a+1)/\Lp f120 1 (tv m b f g e i j (a+1) k l d c) 4 r h)) (bh .i64 (a+1)/\Lp f120 1 (tv m b f g e i j (a+1) k l d c) 4 r h))
 (bh .i64 (e+1)/\Lp f120 0 (zO m f g (e+1) k l d c) 4 r h)):
  Lp f120 1 (tv m b f g e i j a k l d c) 4 r h:=.of XT H
def aio:bq:={an:=[(1,6,ah),(2,2,ah),(5,2,{fb:=some [0,1,2,3]}),(5,7,fy),(5,9,{vec:=true,fb:=some [2]}),(5,10,iG)]}
def aip(b:Rw)(c:List (PV×AV))(a d:Rw)(e:Int){r h}(H:pa b e fun E G I o D=>∃p,ak 125 [vN o] [] [vB p] []/\ay p (∃q,ak 173 [.aA 0 0,vN e] [.cells [vL 5 b,.mp 1,.bo 2,.bo 3],.map 239 c,.bc 1 a,.bc 2 d] [vL 4 q] [.cells [vL 5 b,.mp 1,.bo 2,.bo 3],.map 239 c,.bc 1 a,.bc 2 d]/\Fi r h [vL 4 q] [.cells [vL 5 b,.mp 1,.bo 2,.bo 3],.map 239 c,.bc 1 a,.bc 2 d])
 (ay (o==5) ((∃s t,ak 172 [.aA 0 0,vN e] [.cells [vL 5 b,.mp 1,.bo 2,.bo 3],.map 239 c,.bc 1 a,.bc 2 d] [.agg [N s,N t]] [.cells [vL 5 b,.mp 1,.bo 2,.bo 3],.map 239 c,.bc 1 a,.bc 2 d]/\∃f,(0<=(0:Int)/\(0:Int)<2)/\([N s,N t]:List PV)[Int.toNat 0]?=some (N f)/\(0<=e/\e<(a.length:Int))/\∃g,(a[Int.toNat e]?).bind (·[0]?)=some (N g)/\bh .i64 (f-g)/\bh .i64 ((f-g)-1)/\Fi r h [vL 4 [[N 5,N 0,N 0,W (IntKind.wrap .u32 ((f-g)-1))]]] [.cells [vL 5 b,.mp 1,.bo 2,.bo 3],.map 239 c,.bc 1 a,.bc 2 d])/\((∃u v,ak 172 [.aA 0 0,vN e] [.cells [vL 5 b,.mp 1,.bo 2,.bo 3],.map 239 c,.bc 1 a,.bc 2 d] [.agg [N u,N v]] [.cells [vL 5 b,.mp 1,.bo 2,.bo 3],.map 239 c,.bc 1 a,.bc 2 d]/\∃i,(0<=(0:Int)/\(0:Int)<2)/\([N u,N v]:List PV)[Int.toNat 0]?=some (N i)/\(0<=e/\e<(a.length:Int))/\∃j,(a[Int.toNat e]?).bind (·[0]?)=some (N j)/\bh .i64 (i-j)/\bh .i64 ((i-j)-1)/\Fi r h [vL 4 [[N 5,N 0,N 0,W (IntKind.wrap .u32 ((i-j)-1))]]] [.cells [vL 5 b,.mp 1,.bo 2,.bo 3],.map 239 c,.bc 1 a,.bc 2 d])/\((0<=e/\e<(a.length:Int))/\(∃w x,ak 172 [.aA 0 0,vN e] [.cells [vL 5 b,.mp 1,.bo 2,.bo 3],.map 239 c,.bc 1 a,.bc 2 d] [.agg [N w,N x]] [.cells [vL 5 b,.mp 1,.bo 2,.bo 3],.map 239 c,.bc 1 a,.bc 2 d]/\∃k,(0<=(0:Int)/\(0:Int)<2)/\([N w,N x]:List PV)[Int.toNat 0]?=some (N k)/\∃l,(a[Int.toNat e]?).bind (·[0]?)=some (N l)/\bh .i64 (k-l)/\bh .i64 ((k-l)-1)/\Fi r h [vL 4 [[N 5,N 0,N 0,W (IntKind.wrap .u32 ((k-l)-1))]]] [.cells [vL 5 b,.mp 1,.bo 2,.bo 3],.map 239 c,.bc 1 a,.bc 2 d])/\(∃m,(a[Int.toNat e]?).bind (·[0]?)=some (N m)/\∃y z,ak 172 [.aA 0 0,vN e] [.cells [vL 5 b,.mp 1,.bo 2,.bo 3],.map 239 c,.bc 1 a,.bc 2 d] [.agg [N y,N z]] [.cells [vL 5 b,.mp 1,.bo 2,.bo 3],.map 239 c,.bc 1 a,.bc 2 d]/\∃n,(0<=(0:Int)/\(0:Int)<2)/\([N y,N z]:List PV)[Int.toNat 0]?=some (N n)/\bh .i64 (n-m)/\bh .i64 ((n-m)-1)/\Fi r h [vL 4 [[N 5,N 0,N 0,W (IntKind.wrap .u32 ((n-m)-1))]]] [.cells [vL 5 b,.mp 1,.bo 2,.bo 3],.map 239 c,.bc 1 a,.bc 2 d]))))
 (Fi r h [vL 4 [[N o,N 0,N 0,W D]]] [.cells [vL 5 b,.mp 1,.bo 2,.bo 3],.map 239 c,.bc 1 a,.bc 2 d]))):
  ak 121 [.aA 0 0,vN e] [.cells [vL 5 b,.mp 1,.bo 2,.bo 3],.map 239 c,.bc 1 a,.bc 2 d] r h:=.of func121 aio H
def aiq:bq:={an:=[(1,6,ah),(2,2,ah),(3,14,ah),(8,4,aa),(9,2,ah),(10,2,aa)]}
def air(a:Rw)(b:List (PV×AV))(c d:Rw)(e:Int){r h}(H:pa a e fun x g q f y=>∃s k,ak 122 [vN f] [] [vS s,vB k] []/\ay (!k) (Fi r h [vB false] [.cells [vL 5 a,.mp 1,.bo 2,.bo 3],.map 239 b,.bc 1 c,.bc 2 d]) (bh .i64 ((a.length:Int)-1)/\ay (e==((a.length:Int)-1)) (∃l,ak 124 [vN f] [] [vB l] []/\ay (!l) (Fi r h [vB false] [.cells [vL 5 a,.mp 1,.bo 2,.bo 3],.map 239 b,.bc 1 c,.bc 2 d])
 (∃t i,ak 240 [.aA 0 0,vN e,vN g] [.cells [vL 5 a,.mp 1,.bo 2,.bo 3],.map 239 b,.bc 1 c,.bc 2 d] [vN t,vB i] [.cells [vL 5 a,.mp 1,.bo 2,.bo 3],.map 239 b,.bc 1 c,.bc 2 d]/\∃u m,ak 240 [.aA 0 0,vN e,vN q] [.cells [vL 5 a,.mp 1,.bo 2,.bo 3],.map 239 b,.bc 1 c,.bc 2 d] [vN u,vB m] [.cells [vL 5 a,.mp 1,.bo 2,.bo 3],.map 239 b,.bc 1 c,.bc 2 d]/\ay (f==5) (Fi r h [vB (bif(g !=0)then i else false)] [.cells [vL 5 a,.mp 1,.bo 2,.bo 3],.map 239 b,.bc 1 c,.bc 2 d])
 (∃n,ak 125 [vN f] [] [vB n] []/\ay n (Fi r h [vB (bif i then m else false)] [.cells [vL 5 a,.mp 1,.bo 2,.bo 3],.map 239 b,.bc 1 c,.bc 2 d])
 (Fi r h [vB true] [.cells [vL 5 a,.mp 1,.bo 2,.bo 3],.map 239 b,.bc 1 c,.bc 2 d])))) (∃v j,ak 240 [.aA 0 0,vN e,vN g] [.cells [vL 5 a,.mp 1,.bo 2,.bo 3],.map 239 b,.bc 1 c,.bc 2 d] [vN v,vB j] [.cells [vL 5 a,.mp 1,.bo 2,.bo 3],.map 239 b,.bc 1 c,.bc 2 d]/\∃w o,ak 240 [.aA 0 0,vN e,vN q] [.cells [vL 5 a,.mp 1,.bo 2,.bo 3],.map 239 b,.bc 1 c,.bc 2 d] [vN w,vB o] [.cells [vL 5 a,.mp 1,.bo 2,.bo 3],.map 239 b,.bc 1 c,.bc 2 d]/\ay (f==5) (Fi r h [vB (bif(g !=0)then j else false)] [.cells [vL 5 a,.mp 1,.bo 2,.bo 3],.map 239 b,.bc 1 c,.bc 2 d])
 (∃p,ak 125 [vN f] [] [vB p] []/\ay p (Fi r h [vB (bif j then o else false)] [.cells [vL 5 a,.mp 1,.bo 2,.bo 3],.map 239 b,.bc 1 c,.bc 2 d])
 (Fi r h [vB true] [.cells [vL 5 a,.mp 1,.bo 2,.bo 3],.map 239 b,.bc 1 c,.bc 2 d]))))):
  ak 170 [.aA 0 0,vN e] [.cells [vL 5 a,.mp 1,.bo 2,.bo 3],.map 239 b,.bc 1 c,.bc 2 d] r h:=.of func170 aiq H
def E4(a b c:Int)(d:Rw)(e:List (PV×AV))(f g:Rw):St:=⟨aM 25 [(0,.aA 0 0),(2,vN a),(8,vN b),(9,vN c)],[],[.cells [vL 5 d,.mp 1,.bo 2,.bo 3],.map 239 e,.bc 1 f,.bc 2 g]⟩
def aaD:bq:={an:=[(4,6,aQ)],cut:=[(2,{bl:=[0,2,8,9]})]}
def ais(a:Rw)(b:List (PV×AV))(c d:Rw){r h}(H:Lp f171 0 (E4 0 (a.length:Int) 0 a b c d) 4 r h):
  ak 171 [.aA 0 0] [.cells [vL 5 a,.mp 1,.bo 2,.bo 3],.map 239 b,.bc 1 c,.bc 2 d] r h:=.of func171 aaD H
def RT(b g a:Int)(d:Rw)(e:List (PV×AV))(c f:Rw){r h}(H:ay (decide (a<g)) ((0<=a/\a<(c.length:Int))/\0+1<=1/\∃i,ak 241 [.aA 0 0,vN a] [.cells [vL 5 d,.mp 1,.bo 2,.bo 3],.map 239 e,.bc 1 (setRow c (Int.toNat a) 0 [N b]),.bc 2 f] [vN i] [.cells [vL 5 d,.mp 1,.bo 2,.bo 3],.map 239 e,.bc 1 (setRow c (Int.toNat a) 0 [N b]),.bc 2 f]/\bh .i64 (b+i)/\bh .i64 (a+1)/\Lp f171 0 (E4 (b+i) g (a+1) d e (setRow c (Int.toNat a) 0 [N b]) f) 4 r h)
 (Fi r h [] [.cells [vL 5 d,.mp 1,.bo 2,.bo 3],.map 239 e,.bc 1 c,.bc 2 f])):
  Lp f171 0 (E4 b g a d e c f) 4 r h:=.of aaD H
def ait:bq:={an:=[(1,9,ah),(2,9,ah),(3,5,aQ),(3,12,aQ)]}
def aiu(b:Rw)(c:List (PV×AV))(a d:Rw)(e:Int){r h}(H:pa b e fun o m p q s=>∃f k,ak 240 [.aA 0 0,vN e,vN m] [.cells [vL 5 b,.mp 1,.bo 2,.bo 3],.map 239 c,.bc 1 a,.bc 2 d] [vN f,vB k] [.cells [vL 5 b,.mp 1,.bo 2,.bo 3],.map 239 c,.bc 1 a,.bc 2 d]/\pa b e fun t u n v w=>∃g l,ak 240 [.aA 0 0,vN e,vN n] [.cells [vL 5 b,.mp 1,.bo 2,.bo 3],.map 239 c,.bc 1 a,.bc 2 d] [vN g,vB l] [.cells [vL 5 b,.mp 1,.bo 2,.bo 3],.map 239 c,.bc 1 a,.bc 2 d]/\(0<=f/\f<(a.length:Int))/\∃i,(a[Int.toNat f]?).bind (·[0]?)=some (N i)/\(0<=g/\g<(a.length:Int))/\∃j,(a[Int.toNat g]?).bind (·[0]?)=some (N j)/\Fi r h [.agg [N i,N j]] [.cells [vL 5 b,.mp 1,.bo 2,.bo 3],.map 239 c,.bc 1 a,.bc 2 d]):
  ak 172 [.aA 0 0,vN e] [.cells [vL 5 b,.mp 1,.bo 2,.bo 3],.map 239 c,.bc 1 a,.bc 2 d] r h:=.of func172 ait H
def zP(a b c d e:Int)(f:Rw)(g:List (PV×AV))(i j k:Rw)(l m:Int):St:=⟨aM 82 [(0,.aA 0 0),(1,vN a),(6,vN b),(7,.bo 4),(8,.aA 5 0),(33,.agg [N c,N d]),(34,vN e)],[],[.cells [vL 5 f,.mp 1,.bo 2,.bo 3],.map 239 g,.bc 1 i,.bc 2 j,.bc 4 k,.cells [vN l,vN m]]⟩
def aaE:bq:={an:=[(1,6,ah),(2,5,aQ),(3,5,aQ),(9,6,aQ),(10,2,aQ),(11,5,aQ),(11,11,aQ),(13,2,{fb:=some [5]}),(13,3,{fb:=some [5]}),(13,4,{fb:=some [5]}),(13,5,{fb:=some [5]}),(13,6,{vec:=true,fb:=some [4]}),(13,8,{fb:=some [4]}),(13,9,{vec:=true,fb:=some [4]}),(13,11,{fb:=some [4]})],cut:=[(6,{bl:=[0,1,6,7,8,33,34],iu:=[(7,4)]})],rf:=true}
def aiv(c:Rw)(d:List (PV×AV))(b e:Rw)(a:Int){r h}(H:pa c a fun l m n j k=>(0<=a/\a<(b.length:Int))/\∃f,(b[Int.toNat a]?).bind (·[0]?)=some (N f)/\∃g i,ak 172 [.aA 0 0,vN a] [.cells [vL 5 c,.mp 1,.bo 2,.bo 3],.map 239 d,.bc 1 b,.bc 2 e] [.agg [N g,N i]] [.cells [vL 5 c,.mp 1,.bo 2,.bo 3],.map 239 d,.bc 1 b,.bc 2 e]/\Lp f173 0 (zP a f g i 0 c d b e [[N j,N 0,N 0,W k]] 0 0) 4 r h):
  ak 173 [.aA 0 0,vN a] [.cells [vL 5 c,.mp 1,.bo 2,.bo 3],.map 239 d,.bc 1 b,.bc 2 e] r h:=.of func173 aaE H
def tw(e c g i a:Int)(j:Rw)(k:List (PV×AV))(l f b:Rw)(m n:Int){r h}(H:ay (decide (a<2)) (∃d,(0<=a/\a<2)/\([N g,N i]:List PV)[Int.toNat a]?=some (N d)/\bh .i64 (d-c)/\bh .i64 ((d-c)-1)/\(0<=a/\a<2)/\∃o p,0<1/\putAt ([vN m,vN n]:List AV) (0+Int.toNat a*1+0) [vN ((d-c)-1)]=[vN o,vN p]/\(0<=e/\e<(f.length:Int))/\(0<=a/\a<2)/\∃s,(f[Int.toNat e]?).bind (·[(0+Int.toNat a*1)]?)=some (B s)/\ay s (bh .i64 ((b.length:Int)-1)/\(0<=a/\a<2)/\∃t u,0<1/\putAt ([vN o,vN p]:List AV) (0+Int.toNat a*1+0) [vN ((b.length:Int)-1)]=[vN t,vN u]/\bh .i64 (d-c)/\bh .i64 ((d-c)-(b.length:Int))/\bh .i64 (((d-c)-(b.length:Int))-1)/\(b++([[N 5,N 0,N 0,W (IntKind.wrap .u32 (((d-c)-(b.length:Int))-1))]]:Rw)).length*32<=2^47/\bh .i64 (a+1)/\Lp f173 0 (zP e c g i (a+1) j k l f (b++([[N 5,N 0,N 0,W (IntKind.wrap .u32 (((d-c)-(b.length:Int))-1))]]:Rw)) t u) 4 r h)
 (bh .i64 (a+1)/\Lp f173 0 (zP e c g i (a+1) j k l f b o p) 4 r h))
 ((0<=(0:Int)/\(0:Int)<2)/\∃q,([vN m,vN n]:List AV)[0+Int.toNat 0*1+0]?=some (.v (N q))/\(0<=(1:Int)/\(1:Int)<2)/\∃w,([vN m,vN n]:List AV)[0+Int.toNat 1*1+0]?=some (.v (N w))/\(0<=(0:Int)/\0<(b.length:Int))/\1+1<=4/\(0<=(0:Int)/\0<((setRow b (Int.toNat 0) 1 [N q]).length:Int))/\2+1<=4/\Fi r h [vL 4 (setRow (setRow b (Int.toNat 0) 1 [N q]) (Int.toNat 0) 2 [N w])] [.cells [vL 5 j,.mp 1,.bo 2,.bo 3],.map 239 k,.bc 1 l,.bc 2 f])):
  Lp f173 0 (zP e c g i a j k l f b m n) 4 r h:=.of aaE H
def aiw:bq:={an:=[(4,3,aa),(4,4,aa),(4,5,aa)]}
def aix(c:Rw)(a:List (PV×AV))(d e:Rw)(b f:Int){r h}(H:ay (f==0) (bh .i64 (b+1)/\Fi r h [vN (b+1),vB true] [.cells [vL 5 c,.mp 1,.bo 2,.bo 3],.map 239 a,.bc 1 d,.bc 2 e])
 (((cA a (N f)=none/\Fi r h [vN 0,vB (bif false then(decide ((0:Int)>b))else false)] [.cells [vL 5 c,.mp 1,.bo 2,.bo 3],.map 239 a,.bc 1 d,.bc 2 e])\/(∃g,cA a (N f)=some (vN g)/\Fi r h [vN g,vB (bif true then(decide (g>b))else false)] [.cells [vL 5 c,.mp 1,.bo 2,.bo 3],.map 239 a,.bc 1 d,.bc 2 e])))):
  ak 240 [.aA 0 0,vN b,vN f] [.cells [vL 5 c,.mp 1,.bo 2,.bo 3],.map 239 a,.bc 1 d,.bc 2 e] r h:=.of func240 aiw H
def E5(a:Int)(b c:Bool)(d:Int)(e:Rw)(f:List (PV×AV))(g i:Rw):St:=⟨aM 23 [(5,vN a),(14,.agg [B b,B c]),(15,vN d)],[],[.cells [vL 5 e,.mp 1,.bo 2,.bo 3],.map 239 f,.bc 1 g,.bc 2 i]⟩
def aaF:bq:={an:=[(2,5,aQ)],cut:=[(3,{bl:=[5,14,15]})]}
def aiy(c:Rw)(d:List (PV×AV))(e a:Rw)(b:Int){r h}(H:(0<=b/\b<(a.length:Int))/\abH a b fun f g=>Lp f241 0 (E5 1 f g 0 c d e a) 4 r h):
  ak 241 [.aA 0 0,vN b] [.cells [vL 5 c,.mp 1,.bo 2,.bo 3],.map 239 d,.bc 1 e,.bc 2 a] r h:=.of func241 aaF H
def tz(b:Int)(c d:Bool)(a:Int)(e:Rw)(f:List (PV×AV))(g i:Rw){r h}(H:ay (decide (a<2)) (∃j,(0<=a/\a<2)/\([B c,B d]:List PV)[Int.toNat a]?=some (B j)/\ay j (bh .i64 (b+1)/\bh .i64 (a+1)/\Lp f241 0 (E5 (b+1) c d (a+1) e f g i) 4 r h)
 (bh .i64 (a+1)/\Lp f241 0 (E5 b c d (a+1) e f g i) 4 r h))
 (Fi r h [vN b] [.cells [vL 5 e,.mp 1,.bo 2,.bo 3],.map 239 f,.bc 1 g,.bc 2 i])):
  Lp f241 0 (E5 b c d a e f g i) 4 r h:=.of aaF H
def aiz:bq:={an:=[(1,0,ah),(5,4,ah)]}
def aiA(a:Int){r h}(H:∃b,ak 174 [] [] [vL 2 b] []/\∃c,ak 175 [vL 2 b,.fn (.func 176) [] [.aA 0 0]] [.cells [vN a]] [vN c] [.cells [vN a]]/\ay (decide (c<0)) (Fi r h [vS [],vB false] [])
 (YK b c fun e d=>Fi r h [vS d,vB true] [])):
  ak 122 [vN a] [] r h:=.of func122 aiz H
def aiB:bq:={}
def aiC{r h}(H:Fi r h [vL 2 [[N 0,S [108,100,105,109,109]],[N 1,S [108,100,120,105,109,109]],[N 2,S [115,116]],[N 3,S [115,116,120]],[N 4,S [97,100,100,107]],[N 5,S [106,97]],[N 6,S [114,101,116,107]],[N 7,S [116,97,120]],[N 12,S [97,100,100,120]],[N 20,S [115,117,98,107]],[N 21,S [106,101,113,107]],[N 22,S [114,101,116,97]],[N 28,S [115,117,98,120]],[N 29,S [106,101,113,120]],[N 32,S [108,100,97,98,115]],[N 36,S [109,117,108,107]],[N 37,S [106,103,116,107]],[N 44,S [109,117,108,120]],[N 45,S [106,103,116,120]],[N 52,S [100,105,118,107]],[N 53,S [106,103,101,107]],[N 60,S [100,105,118,120]],[N 61,S [106,103,101,120]],[N 68,S [111,114,107]],[N 69,S [106,115,101,116,107]],[N 76,S [111,114,120]],[N 77,S [106,115,101,116,120]],[N 84,S [97,110,100,107]],[N 92,S [97,110,100,120]],[N 96,S [108,100,109,101,109]],[N 97,S [108,100,120,109,101,109]],[N 100,S [108,115,104,107]],[N 108,S [108,115,104,120]],[N 116,S [114,115,104,107]],[N 124,S [114,115,104,120]],[N 128,S [108,100,108,101,110]],[N 129,S [108,100,120,108,101,110]],[N 132,S [110,101,103]],[N 135,S [116,120,97]],[N 164,S [120,111,114,107]],[N 172,S [120,111,114,120]]]] []):
  ak 174 [] [] r h:=.of func174 aiB H
def aiD:bq:={}
def aiE(b:Int)(c:By)(a:Int){r h}(H:Fi r h [vB (b==a)] [.cells [vN a]]):
  ak 176 [.agg [N b,S c],.aA 0 0] [.cells [vN a]] r h:=.of func176 aiD H
def A35:bq:={an:=[(1,1,ah),(3,1,ah)]}
def W35(a:Rw){r h}(H:∃c,ak 59 [vL 4 a] [] [vB c] []/\ay c (Fi r h [vN 0,vB false] [])
 (∃b d,ak 60 [vL 4 a,vB true] [] [vN b,vL 1 d] []/\Fi r h [vN b,vB (b==(-1))] [])):
  ak 35 [vL 4 a] [] r h:=.of func35 A35 H
def A59:bq:={an:=[(1,4,aa),(1,5,aa),(1,6,aa)]}
def W59(a:Rw){r h}(H:Fi r h [vB (bif((a.length:Int)==0)then true else(decide ((a.length:Int)>4096)))] []):
  ak 59 [vL 4 a] [] r h:=.of func59 A59 H
def LA(a:Rw)(b:Bool)(c d:Int)(e:Rw):St:=⟨aM 80 [(0,vL 4 a),(1,vB b),(6,.bo 0),(16,vN c),(17,vN d)],[],[.bc 1 e]⟩
def Hn(a:Rw)(b:Bool)(c:Rw)(d e:Int)(f:Rw):St:=⟨aM 80 [(0,vL 4 a),(1,vB b),(6,.bo 0),(26,vL 4 c),(27,vN d),(28,vN e)],[],[.bc 1 f]⟩
def zQ(b:Rw)(a:Bool)(c:Int)(d:Rw)(e f:Int)(g:Rw)(i j:Int)(k:Rw)(l m n o:Int):St:=⟨aM 80 [(0,vL 4 b),(1,vB a),(6,.bo 0),(8,vN c),(9,.aA 1 0),(26,vL 4 d),(27,vN e),(28,vN f),(59,vL 1 g),(60,vN i),(61,vN j)],[],[.bc 1 k,.cells [vN l,vN m,vN n,vW o]]⟩
def A60:bq:={an:=[(2,1,aQ),(5,2,aQ),(7,1,aQ),(10,2,ah),(11,2,ah),(11,9,ah),(11,14,aQ),(13,2,ah),(15,1,ah),(16,2,aQ),(16,7,aQ),(16,9,ah),(16,11,aQ)],cut:=[(14,{bl:=[0,1,6,8,9,26,27,28,59,60,61],iu:=[(6,1)]}),(3,{bl:=[0,1,6,16,17],iu:=[(6,1)]}),(9,{bl:=[0,1,6,26,27,28],iu:=[(6,1)]})],rf:=true}
def W60(a:Rw)(b:Bool){r h}(H:(a.length:Int)=(a.length:Int)/\0<=(a.length:Int)/\(a.length:Int)*(8:Nat)<=2^47/\Lp f60 0 (LA a b ((List.replicate (Int.toNat (a.length:Int)) [N 0]:Rw).length:Int) 0 (List.replicate (Int.toNat (a.length:Int)) [N 0]:Rw)) 0 r h):
  ak 60 [vL 4 a,vB b] [] r h:=.of func60 A60 H
def Vy(b:Rw)(d:Bool)(e a:Int)(c:Rw){r h}(H:ay (decide (a<e)) ((0<=a/\a<(c.length:Int))/\0+1<=1/\bh .i64 (a+1)/\Lp f60 0 (LA b d e (a+1) (setRow c (Int.toNat a) 0 [N 65535])) 0 r h)
 ((0<=(0:Int)/\0<(c.length:Int))/\0+1<=1/\Lp f60 1 (Hn b d b (b.length:Int) 0 (setRow c (Int.toNat 0) 0 [N 0])) 0 r h)):
  Lp f60 0 (LA b d e a c) 0 r h:=.of A60 H
def LB(g:Rw)(i:Bool)(j:Rw)(k a:Int)(c:Rw){r h}(H:ay (decide (a<k)) (DX j a fun d e f b=>∃o,ak 85 [vL 4 g,vN a] [] [vB o] []/\ay (!o) (Fi r h [vN a,.own 0 0 1 []] []) (ay i (∃p,ak 86 [vN d] [] [vB p] []/\ay p ((0<=a/\a<(c.length:Int))/\∃q,(c[Int.toNat a]?).bind (·[0]?)=some (N q)/\0<=b/\ay ((cF .and .i64 (Int.fdiv q (2^(min (Int.toNat b) (IntKind.bits .i64)))) 1)==0) (Fi r h [vN a,.own 0 0 1 []] [])
 (∃l,ak 87 [.agg [N d,N e,N f,W b],vN a] [] [vL 1 l] []/\Lp f60 2 (zQ g i a j k a l (l.length:Int) 0 c d e f b) 0 r h)) (∃m,ak 87 [.agg [N d,N e,N f,W b],vN a] [] [vL 1 m] []/\Lp f60 2 (zQ g i a j k a m (m.length:Int) 0 c d e f b) 0 r h)) (∃n,ak 87 [.agg [N d,N e,N f,W b],vN a] [] [vL 1 n] []/\Lp f60 2 (zQ g i a j k a n (n.length:Int) 0 c d e f b) 0 r h)))
 (Fi r h [vN (-1),vL 1 c] [])):
  Lp f60 1 (Hn g i j k a c) 0 r h:=.of A60 H
def Vz(f:Rw)(g:Bool)(c:Int)(i:Rw)(j e:Int)(k:Rw)(l d:Int)(a:Rw)(m n o p:Int){r h}(H:ay (decide (d<l)) (Rdn k d fun b=>(0<=b/\b<(a.length:Int))/\∃q,(a[Int.toNat b]?).bind (·[0]?)=some (N q)/\(0<=c/\c<(a.length:Int))/\∃s,(a[Int.toNat c]?).bind (·[0]?)=some (N s)/\∃t,ak 88 [.agg [N m,N n,N o,W p],vN s] [] [vN t] []/\(0<=b/\b<(a.length:Int))/\0+1<=1/\bh .i64 (d+1)/\Lp f60 2 (zQ f g c i j e k l (d+1) (setRow a (Int.toNat b) 0 [N (cF .and .i64 q t)]) m n o p) 0 r h)
 (bh .i64 (e+1)/\Lp f60 1 (Hn f g i j (e+1) a) 0 r h)):
  Lp f60 2 (zQ f g c i j e k l d a m n o p) 0 r h:=.of A60 H
def Ho(a b:Rw)(c d:Int):St:=⟨aM 58 [(0,vL 4 a),(47,vL 1 b),(48,vN c),(49,vN d)],[],[]⟩
def A85:bq:={an:=[(1,3,ah),(2,2,ah),(3,4,ah),(3,9,ah),(3,21,ah),(5,2,ah),(7,1,ah)],cut:=[(6,{bl:=[0,47,48,49]})]}
def W85(a:Rw)(c:Int){r h}(H:DX a c fun b d e f=>∃n j,ak 122 [vN b] [] [vS n,vB j] []/\ay (!j) (Fi r h [vB false] []) (∃k,ak 57 [.agg [N b,N d,N e,W f]] [] [vB k] []/\ay (!k) (Fi r h [vB false] []) (∃l,ak 123 [.agg [N b,N d,N e,W f]] [] [vB l] []/\ay (!l) (Fi r h [vB false] []) (bh .i64 ((a.length:Int)-1)/\ay (c==((a.length:Int)-1)) (∃m,ak 124 [vN b] [] [vB m] []/\ay (!m) (Fi r h [vB false] [])
 (∃g,ak 87 [.agg [N b,N d,N e,W f],vN c] [] [vL 1 g] []/\Lp f85 0 (Ho a g (g.length:Int) 0) 0 r h)) (∃i,ak 87 [.agg [N b,N d,N e,W f],vN c] [] [vL 1 i] []/\Lp f85 0 (Ho a i (i.length:Int) 0) 0 r h))))):
  ak 85 [vL 4 a,vN c] [] r h:=.of func85 A85 H
def VA(b c:Rw)(d a:Int){r h}(H:ay (decide (a<d)) (Rdn c a fun e=>ay (decide (e>=(b.length:Int))) (Fi r h [vB false] [])
 (bh .i64 (a+1)/\Lp f85 0 (Ho b c d (a+1)) 0 r h))
 (Fi r h [vB true] [])):
  Lp f85 0 (Ho b c d a) 0 r h:=.of A85 H
def A86:bq:={an:=[(1,3,aa),(1,4,aa)]}
def W86(a:Int){r h}(H:Fi r h [vB (bif(a==96)then true else(a==97))] []):
  ak 86 [vN a] [] r h:=.of func86 A86 H
def A87:bq:={an:=[(1,2,ah),(5,2,ah)]}
def W87(b c d e a:Int){r h}(H:∃f,ak 124 [vN b] [] [vB f] []/\ay f (Fi r h [vL 1 []] [])
 (ay (b==5) (bh .i64 (a+1)/\bh .i64 ((a+1)+(IntKind.wrap .i64 e))/\Fi r h [vL 1 [[N ((a+1)+(IntKind.wrap .i64 e))]]] [])
 (∃g,ak 125 [vN b] [] [vB g] []/\ay g (bh .i64 (a+1)/\bh .i64 ((a+1)+c)/\bh .i64 (a+1)/\bh .i64 ((a+1)+d)/\Fi r h [vL 1 [[N ((a+1)+c)],[N ((a+1)+d)]]] [])
 (bh .i64 (a+1)/\Fi r h [vL 1 [[N (a+1)]]] [])))):
  ak 87 [.agg [N b,N c,N d,W e],vN a] [] r h:=.of func87 A87 H
def A88:bq:={an:=[(1,2,ah)]}
def W88(c e f a b:Int){r h}(H:∃d,ak 126 [vN c] [] [vB d] []/\ay d (0<=a/\Fi r h [vN (cF .or .i64 b (IntKind.wrap .i64 ((1:Int)*2^(min (Int.toNat a) (IntKind.bits .i64)))))] [])
 (Fi r h [vN b] [])):
  ak 88 [.agg [N c,N e,N f,W a],vN b] [] r h:=.of func88 A88 H
def aiF:bq:={an:=[(2,5,aa),(2,6,aa),(2,7,aa),(3,2,ah),(3,6,ah),(7,4,aa),(7,5,aa),(7,6,aa)]}
def aiG(a e f b:Int){r h}(H:ay (a==32) ((4:Int)≠0/\Fi r h [vB (bif((Int.tmod b 4)==0)then(decide (b<=60))else false)] [])
 (∃c,ak 126 [vN a] [] [vB c] []/\ay c (Fi r h [vB (decide (b<16))] []) (∃d,ak 86 [vN a] [] [vB d] []/\ay d (Fi r h [vB (decide (b<16))] [])
 (ay (a==52) (Fi r h [vB (b !=0)] [])
 (ay (bif(a==100)then true else(a==116)) (Fi r h [vB (decide (b<32))] [])
 (Fi r h [vB true] [])))))):
  ak 123 [.agg [N a,N e,N f,W b]] [] r h:=.of func123 aiF H
def aiH:bq:={an:=[(1,3,aa),(1,4,aa)]}
def aiI(a:Int){r h}(H:Fi r h [vB (bif(a==6)then true else(a==22))] []):
  ak 124 [vN a] [] r h:=.of func124 aiH H
def aiJ:bq:={}
def aiK(a:Int){r h}(H:ay (a==21) (Fi r h [vB true] [])
 (ay (a==37) (Fi r h [vB true] [])
 (ay (a==53) (Fi r h [vB true] [])
 (ay (a==69) (Fi r h [vB true] [])
 (ay (a==29) (Fi r h [vB true] [])
 (ay (a==45) (Fi r h [vB true] [])
 (ay (a==61) (Fi r h [vB true] [])
 (ay (a==77) (Fi r h [vB true] [])
 (Fi r h [vB false] []))))))))):
  ak 125 [vN a] [] r h:=.of func125 aiJ H
def aiL:bq:={an:=[(1,3,aa),(1,4,aa)]}
def aiM(a:Int){r h}(H:Fi r h [vB (bif(a==2)then true else(a==3))] []):
  ak 126 [vN a] [] r h:=.of func126 aiL H
structure Nm where
 code:Int
 name:By
def Nm.row(n:Nm):List PV:=[N n.code,S n.name]
def Hp:List Nm:=[⟨0,[108,100,105,109,109]⟩,⟨1,[108,100,120,105,109,109]⟩,⟨2,[115,116]⟩,⟨3,[115,116,120]⟩,⟨4,[97,100,100,107]⟩,⟨5,[106,97]⟩,⟨6,[114,101,116,107]⟩,⟨7,[116,97,120]⟩,⟨12,[97,100,100,120]⟩,⟨20,[115,117,98,107]⟩,⟨21,[106,101,113,107]⟩,
 ⟨22,[114,101,116,97]⟩,⟨28,[115,117,98,120]⟩,⟨29,[106,101,113,120]⟩,⟨32,[108,100,97,98,115]⟩,⟨36,[109,117,108,107]⟩,⟨37,[106,103,116,107]⟩,⟨44,[109,117,108,120]⟩,⟨45,[106,103,116,120]⟩,⟨52,[100,105,118,107]⟩,⟨53,[106,103,101,107]⟩,⟨60,[100,105,118,120]⟩,
 ⟨61,[106,103,101,120]⟩,⟨68,[111,114,107]⟩,⟨69,[106,115,101,116,107]⟩,⟨76,[111,114,120]⟩,⟨77,[106,115,101,116,120]⟩,⟨84,[97,110,100,107]⟩,⟨92,[97,110,100,120]⟩,⟨96,[108,100,109,101,109]⟩,⟨97,[108,100,120,109,101,109]⟩,⟨100,[108,115,104,107]⟩,⟨108,[108,115,104,120]⟩,
 ⟨116,[114,115,104,107]⟩,⟨124,[114,115,104,120]⟩,⟨128,[108,100,108,101,110]⟩,⟨129,[108,100,120,108,101,110]⟩,⟨132,[110,101,103]⟩,⟨135,[116,120,97]⟩,⟨164,[120,111,114,107]⟩,⟨172,[120,111,114,120]⟩]
def aiN:ak 174 [] [] [vL 2 (Hp.map Nm.row)] []:=aiC fi
def rr(c:Int):Option Nm:=Hp.find? fun n=>n.code==c
def aaG(c:Int):ak 122 [vN c] [] [vS (((rr c).map (·.name)).getD []),vB (rr c).isSome] []:=by
 refine aiA c ⟨_,aiN,_,O0 _ _ (ew (p:=fun n=>n.code==c) (l:=Hp) (Hd:=fun i=>pe _ _ i c) (by decide) fun i r h b d=>Jm _ _ _ _ (eA (l:=Hp) (by simp) (fun x a=>⟨x.code,x.name,by omega,aY a,_,aiE _ _ _ fi,b x a⟩) d)),ae (fun h=>?_) fun h=>?_⟩
 .exact ai (by rw[rr,yR (aN h)];rfl) rfl
 .have h:=bH h
  obtain⟨x,e,-,f⟩:=uD (p:=fun n=>n.code==c) (l:=Hp) (by omega)
  exact⟨x.code,x.name,by omega,by rw[bp,e];rfl,ai (by rw[rr,f];rfl) rfl⟩
def qc(c:Int):Bool:=bif(c==6)then true else(c==22)
def XU(c:Int):ak 124 [vN c] [] [vB (qc c)] []:=aiI c fi
def cG(c:Int):Bool:=bif c==21 then true else bif c==37 then true else bif c==53 then true else bif c==69 then true else bif c==29 then true else bif c==45 then true else bif c==61 then true else bif c==77 then true else false
def RU(c:Int):ak 125 [vN c] [] [vB (cG c)] []:=
 aiK c (ae (fun h=>ai (by rw[cG,h];rfl) rfl) fun a=>ae (fun h=>ai (by rw[cG,a,h];rfl) rfl) fun b=>ae (fun h=>ai (by rw[cG,a,b,h];rfl) rfl) fun d=>ae (fun h=>ai (by rw[cG,a,b,d,h];rfl) rfl) fun e=>
  ae (fun h=>ai (by rw[cG,a,b,d,e,h];rfl) rfl) fun f=>ae (fun h=>ai (by rw[cG,a,b,d,e,f,h];rfl) rfl) fun g=>ae (fun h=>ai (by rw[cG,a,b,d,e,f,g,h];rfl) rfl) fun i=>
  ae (fun h=>ai (by rw[cG,a,b,d,e,f,g,i,h];rfl) rfl) fun h=>ai (by rw[cG,a,b,d,e,f,g,i,h];rfl) rfl)
abbrev Lb:=Int×Int
def J6(l:List Lb):List (PV×AV):=l.map fun x=>(N x.1,vN x.2)
def l5(l:List Lb)(k:Int):Option Lb:=l.find? fun x=>k==x.1
def zR(x:Lb):List Lb->List Lb
 |[]=>[x]
 |y::l=>bif x.1==y.1 then x::l else y::zR x l
def RV(a b:Int):lz (N a) (N b)=(a==b):=rfl
def uZ(k:Int):∀(l:List Lb),cA (J6 l) (N k)=(l5 l k).map fun x=>vN x.2
 |[]=>rfl
 |x::l=>by
  have a:=uZ k l;unfold J6 l5 at a⊢;rw[bB,cA,RV,cx];cases k==x.1
  .exact a
  .rfl
def LC(x:Lb):∀(l:List Lb),cn (J6 l) (N x.1) (vN x.2)=J6 (zR x l)
 |[]=>rfl
 |y::l=>by
  have a:=LC x l;unfold J6 at a⊢;rw[bB,cn,RV,zR];cases x.1==y.1
  .rw[aI (by decide),a];rfl
  .rfl
structure Lk where
 l:List Sy
 qh:List Lb
 place:List Int
 ct:List (Bool×Bool)
def lO(l:List Int):Rw:=l.map fun n=>[N n]
def kj(l:List (Bool×Bool)):Rw:=l.map fun p=>[B p.1,B p.2]
abbrev lb(k:Lk):List Bx:=[.cells [vL 5 (k.l.map Sy.row),.mp 1,.bo 2,.bo 3],.map 239 (J6 k.qh),.bc 1 (lO k.place),.bc 2 (kj k.ct)]
def gX(m:List Lb)(i ch:Int):Int×Bool:=bif ch==0 then(i+1,true)else match l5 m ch with
 |none=>(0,false)
 |some x=>(x.2,decide (x.2>i))
def Ug(k:Lk)(i ch:Int)(a:0<=i/\i<=2^40):ak 240 [.aA 0 0,vN i,vN ch] (lb k) [vN (gX k.qh i ch).1,vB (gX k.qh i ch).2] (lb k):=by
 apply aix;refine ae (fun h=>⟨aB,ai (by rw[gX,h];rfl) rfl⟩) fun h=>?_
 cases hg:l5 k.qh ch with
 |none=>exact .inl ⟨by rw[uZ,hg];rfl,ai (by rw[gX,h,hg];rfl) rfl⟩
 |some x=>exact .inr ⟨x.2,by rw[uZ,hg];rfl,ai (by rw[gX,h,hg];rfl) rfl⟩
def countP(p:Bool×Bool):Int:=bif p.2 then(bif p.1 then 1+1+1 else 1+1)else bif p.1 then 1+1 else 1
def aiO(k:Lk)(i:Nat)(p:Bool×Bool)(e:k.ct[i]?=some p):ak 241 [.aA 0 0,vN i] (lb k) [vN (countP p)] (lb k):=by
 have g:i<k.ct.length:=(aE.1 e).1;have f:(kj k.ct)[Int.toNat (i:Int)]?=some [B p.1,B p.2]:=by rw[kj,toNat_cast,bp,e];rfl
 obtain⟨a,b⟩:=p;apply aiy;refine⟨⟨by omega,by simp[kj];omega⟩,a,b,f,?_⟩
 apply tz;refine bF rfl ⟨a,⟨by omega,by omega⟩,rfl,ae (fun d=>⟨aB,aB,?_⟩) fun d=>⟨aB,?_⟩⟩
 .apply tz
  refine bF rfl ⟨b,⟨by omega,by omega⟩,rfl,ae (fun c=>⟨aB,aB,?_⟩) fun c=>⟨aB,?_⟩⟩
  .apply tz
   exact aW rfl (ai (by subst d;subst c;rfl) rfl)
  .apply tz
   exact aW rfl (ai (by subst d;subst c;rfl) rfl)
 .apply tz
  refine bF rfl ⟨b,⟨by omega,by omega⟩,rfl,ae (fun c=>⟨aB,aB,?_⟩) fun c=>⟨aB,?_⟩⟩
  .apply tz
   exact aW rfl (ai (by subst d;subst c;rfl) rfl)
  .apply tz
   exact aW rfl (ai (by subst d;subst c;rfl) rfl)
def mV:List (Bool×Bool)->Int->List Int
 |[],_=>[]
 |p::t,n=>n::mV t (n+countP p)
def tA{α:Type}(f:α->α)(v:α)(t:List α):∀(u:List α),(u++v::t).modify u.length f=u++f v::t
 |[]=>rfl
 |a::u=>by
  have:=tA f v t u;show(a::(u++v::t)).modify (u.length+1) f=a::(u++f v::t)
  rw[List.modify_succ_cons,this]
def Nq(z:List Int)(y n:Int)(t:List Int):setRow (lO (z++y::t)) z.length 0 [N n]=lO (z++n::t):=by
 unfold setRow lO;rw[cg,bB,cg,bB];have:=tA (fun r=>putAt r 0 [N n]) [N y] (t.map fun n=>[N n]) (z.map fun n=>[N n])
 rw[ao]at this;exact this
def mW(p:Bool×Bool):1<=countP p/\countP p<=3:=by
 obtain⟨a,b⟩:=p;cases a<;>cases b<;>decide
def aiP(k:Lk)(j:k.place.length=k.l.length)(m:k.ct.length=k.l.length)(q:k.l.length<=2^30):ak 171 [.aA 0 0] (lb k) [] (lb {k with place:=mV k.ct 0}):=by
 have key:∀(t:List (Bool×Bool))(i:Nat)(n:Int)(z y:List Int),k.ct.drop i=t->z.length=i->y.length=t.length->0<=n->n<=3*i ->
   Lp f171 0 (E4 n k.l.length i (k.l.map Sy.row) (J6 k.qh) (lO (z++y)) (kj k.ct)) 4 [] (lb {k with place:=z++mV t n}):=by
  intro t;induction t with
  |nil=>
   intro i n z y b d a _ _;apply RT;have:y=[]:=gS.1 a;subst this;exact aT (l:=k.ct) (by omega) b fi
  |cons p t e=>
   intro i n z y b d a v s;obtain⟨f,g,u⟩:=drop_cons b;match y,a with
   |y0::y,a=>
    have o:=mW p;have c:=Nq z y0 n y;rw[d]at c;apply RT;refine aO (l:=k.ct) (by omega) b ⟨⟨by omega,by simp[lO];omega⟩,by omega,?_⟩
    rw[toNat_cast,c];refine⟨_,aiO {k with place:=z++n::y} i p f,aB,aB,?_⟩;have:=e (i+1) (n+countP p) (z++[n]) y g (by simp;omega) (by simpa using a) (by omega) (by omega)
    rw[bn,bn]at this;exact this
 apply ais;rw[ao];exact key k.ct 0 0 [] k.place rfl rfl (by omega) (by omega) (by omega)
def jK(k:Lk)(i ch:Int):Int:=k.place.getD (gX k.qh i ch).1.toNat 0
def LD(k:Lk)(i ch:Int):Prop:=0<=(gX k.qh i ch).1/\(gX k.qh i ch).1<(k.place.length:Int)
def LF{k:Lk}{i ch:Int}(h:LD k i ch):((lO k.place)[Int.toNat (gX k.qh i ch).1]?).bind (·[0]?)=some (N (jK k i ch)):=by
 obtain⟨b,c⟩:=h;have a:(gX k.qh i ch).1.toNat<k.place.length:=by omega
 rw[lO,bp,bk a,jK,bS,bk a];rfl
def XV(k:Lk)(i:Nat)(x:Sy)(e:i<=2^40)(c:k.l[i]?=some x)(b:LD k i x.t)(a:LD k i x.f):ak 172 [.aA 0 0,vN i] (lb k) [.agg [N (jK k i x.t),N (jK k i x.f)]] (lb k):=by
 have d:(lO k.place).length=k.place.length:=ao ..;apply aiu;rw[d];exact⟨x.label,x.t,x.f,x.code,x.k,by omega,aY c,_,_,Ug k i x.t ⟨by omega,by omega⟩,x.label,x.t,x.f,x.code,x.k,by omega,aY c,_,_,Ug k i x.f ⟨by omega,by omega⟩,⟨b.1,b.2⟩,_,LF b,⟨a.1,a.2⟩,_,LF a,fi⟩
def tB(n:Int)(m:List Lb)(i:Int)(x:Sy):Bool:=bif !(rr x.code).isSome then false else bif(bif i==n-1 then !qc x.code else false)then false else
 bif x.code==5 then(bif x.t !=0 then(gX m i x.t).2 else false)else bif cG x.code then(bif(gX m i x.t).2 then(gX m i x.f).2 else false)else true
def aiQ(k:Lk)(i:Nat)(x:Sy)(m:k.l.length<=2^40)(j:k.l[i]?=some x):ak 170 [.aA 0 0,vN i] (lb k) [vB (tB k.l.length k.qh i x)] (lb k):=by
 have l:i<k.l.length:=(aE.1 j).1;have g:=Ug k i x.t ⟨by omega,by omega⟩
 have f:=Ug k i x.f ⟨by omega,by omega⟩
 apply air;refine⟨x.label,x.t,x.f,x.code,x.k,by omega,aY j,_,_,aaG x.code,ae (fun h=>ai (by rw[tB,h];rfl) rfl) fun c=>?_⟩
 rw[ao];refine⟨aB,ae (fun b=>⟨_,XU x.code,ae (fun e=>ai (by rw[tB,c,b,e];rfl) rfl) fun e=>⟨_,_,g,_,_,f,ae (fun a=>ai (by rw[tB,c,b,e,a];rfl) rfl) fun a=>⟨_,RU x.code,ae (fun d=>ai (by rw[tB,c,b,e,a,d];rfl) rfl) fun d=>ai (by rw[tB,c,b,e,a,d];rfl) rfl⟩⟩⟩)
  fun b=>⟨_,_,g,_,_,f,ae (fun a=>ai (by rw[tB,c,b,a];rfl) rfl) fun a=>⟨_,RU x.code,ae (fun d=>ai (by rw[tB,c,b,a,d];rfl) rfl) fun d=>ai (by rw[tB,c,b,a,d];rfl) rfl⟩⟩⟩
def fX:List Sy->Int->List Lb->Bool×List Lb
 |[],_,m=>(true,m)
 |x::t,i,m=>bif(bif decide (x.label<0)then true else(l5 m x.label).isSome)then(false,m)else fX t (i+1) (bif decide (x.label>0)then zR (x.label,i) m else m)
def sP(n:Int)(m:List Lb):List Sy->Int->Bool
 |[],_=>decide (n>0)
 |x::t,i=>bif !tB n m i x then false else sP n m t (i+1)
def cY(l:List Sy):Bool×List Lb:=(bif(fX l 0 []).1 then sP l.length (fX l 0 []).2 l 0 else false,(fX l 0 []).2)
def aiR(k:Lk)(n:k.l.length<=2^40)(o:k.qh=[]):ak 119 [.aA 0 0] (lb k) [vB (cY k.l).1] (lb {k with qh:=(cY k.l).2}):=by
 have s:∀(m:List Lb)(t:List Sy)(i:Nat),k.l.drop i=t->Lp f119 1 (E3 k.l.length i (k.l.map Sy.row) (J6 m) (lO k.place) (kj k.ct)) 4 [vB (sP k.l.length m t i)] (lb {k with qh:=m}):=by
  intro m t;induction t with
  |nil=>intro i b;apply RQ;rw[ao];exact aT (l:=k.l) rfl b fi
  |cons x t d=>
   intro i b;obtain⟨e,c,j⟩:=drop_cons b;apply RQ;exact aO (l:=k.l) rfl b ⟨_,aiQ {k with qh:=m} i x n e,ae (fun a=>ai (by rw[sP,a];rfl) rfl) fun a=>⟨aB,by rw[sP,a];exact d (i+1) c⟩⟩
 have q:∀(t:List Sy)(i:Nat)(m:List Lb),k.l.drop i=t->Lp f119 0 (tu (k.l.map Sy.row) k.l.length i (k.l.map Sy.row) (J6 m) (lO k.place) (kj k.ct)) 4 [vB (bif(fX t i m).1 then sP k.l.length (fX t i m).2 k.l 0 else false)] (lb {k with qh:=(fX t i m).2}):=by
  intro t;induction t with
  |nil=>
   intro i m b;apply RP;rw[ao];exact aT (l:=k.l) rfl b (s m k.l 0 rfl)
  |cons x t d=>
   intro i m b;obtain⟨e,c,j⟩:=drop_cons b;have p:=LC (x.label,(i:Int)) m;apply RP;refine aO (l:=k.l) rfl b ⟨x.label,x.t,x.f,x.code,x.k,by omega,aY e,?_⟩
   rw[fX];cases hg:l5 m x.label with
   |none=>
    refine .inl ⟨by rw[uZ,hg];rfl,ae (fun a=>?_) fun a=>ae (fun f=>⟨aB,?_⟩) fun f=>⟨aB,?_⟩⟩
    .have a:decide (x.label<0)=true:=(cd a).1
     exact ai (by rw[a];rfl) (by rw[a];rfl)
    .have a:decide (x.label<0)=false:=by cases hd:decide (x.label<0)<;>rw[hd]at a<;>simp at a⊢
     rw[a,f,p];exact d (i+1) _ c
    .have a:decide (x.label<0)=false:=by cases hd:decide (x.label<0)<;>rw[hd]at a<;>simp at a⊢
     rw[a,f];exact d (i+1) _ c
   |some y=>
    have g:(bif decide (x.label<0)then true else true)=true:=by cases decide (x.label<0)<;>rfl
    refine .inr ⟨y.2,by rw[uZ,hg];rfl,bF g (ai ?_ ?_)⟩
    .rw[show(some y).isSome=true from rfl,g];rfl
    .rw[show(some y).isSome=true from rfl,g];rfl
 apply aim;rw[ao,o];exact q k.l 0 [] rfl
def wk:∀(l:List (Bool×Bool))(n:Int),(mV l n).length=l.length
 |[],_=>rfl
 |p::t,n=>by rw[mV,aC,wk t,aC]
def zS:∀(l:List (Bool×Bool))(n:Int),∀v∈mV l n,n<=v/\v<=n+3*l.length
 |[],_,v,h=>by simp[mV]at h
 |p::t,n,v,h=>by
  have a:=mW p;rcases aU.1 (show v∈n::mV t (n+countP p)from h)with rfl|h
  .simp only[aC];omega
  .have:=zS t _ v h
   simp only[aC];omega
structure Uh (k:Lk):Prop where
 pl:k.place.length=k.l.length
 fl:k.ct.length=k.l.length
 len:k.l.length<=2^30
 bd:∀v∈k.place,0<=v/\v<=2^40
 jmp:∀(i:Nat)(x:Sy),k.l[i]?=some x->cG x.code=true->LD k i x.t/\LD k i x.f
def zT{k:Lk}(h:Uh k){i ch:Int}(b:LD k i ch):0<=jK k i ch/\jK k i ch<=2^40:=by
 obtain⟨c,d⟩:=b;have a:(gX k.qh i ch).1.toNat<k.place.length:=by omega
 rw[jK,bS,bk a];exact h.bd _ (gv a)
def x4(k:Lk)(i:Nat):Int:=k.place.getD i 0
def E6{k:Lk}{i:Nat}(h:i<k.place.length):((lO k.place)[Int.toNat (i:Int)]?).bind (·[0]?)=some (N (x4 k i)):=by
 rw[lO,toNat_cast,bp,bk h,x4,bS,bk h];rfl
def J7{k:Lk}(h:Uh k){i:Nat}(a:i<k.place.length):0<=x4 k i/\x4 k i<=2^40:=by
 rw[x4,bS,bk a];exact h.bd _ (gv a)
def gP(k:Lk)(i:Nat)(a:Int)(b:Bool):Bool:=bif !b then decide (a-x4 k i-1>255)else false
def l6(k:Lk):List Sy->List (Bool×Bool)->Nat->Bool->List (Bool×Bool)×Bool
 |x::t,p::q,i,more=>bif !cG x.code then(p::(l6 k t q (i+1) more).1,(l6 k t q (i+1) more).2)else
  ((bif gP k i (jK k i x.t) p.1 then true else p.1,bif gP k i (jK k i x.f) p.2 then true else p.2)::(l6 k t q (i+1) (bif gP k i (jK k i x.f) p.2 then true else bif gP k i (jK k i x.t) p.1 then true else more)).1,
   (l6 k t q (i+1) (bif gP k i (jK k i x.f) p.2 then true else bif gP k i (jK k i x.t) p.1 then true else more)).2)
 |_,q,_,more=>(q,more)
def Ui(z q:List (Bool×Bool))(p a:Bool×Bool)(s:Nat)(h:putAt [B p.1,B p.2] s [B true]=[B a.1,B a.2]):setRow (kj (z++p::q)) z.length s [B true]=kj (z++a::q):=by
 unfold setRow kj;rw[cg,bB,cg,bB];have:=tA (fun r=>putAt r s [B true]) [B p.1,B p.2] (q.map fun p=>[B p.1,B p.2]) (z.map fun p=>[B p.1,B p.2])
 rw[ao]at this;rw[this,h]
def RW(k:Lk)(c:Uh k):∀(t:List Sy)(q:List (Bool×Bool))(i:Nat)(z:List (Bool×Bool))(more:Bool),k.l.drop i=t->z.length=i->q.length=t.length ->
  Lp f120 0 (zO more (k.l.map Sy.row) k.l.length i (k.l.map Sy.row) (J6 k.qh) (lO k.place) (kj (z++q))) 4 [vB (l6 k t q i more).2] (lb {k with ct:=z++(l6 k t q i more).1})
 |[],q,i,z,more,e,n,d=>by
  apply RR;exact aT (l:=k.l) rfl e fi
 |x::t,[],i,z,more,e,n,d=>by simp at d
 |x::t,p::q,i,z,more,e,n,d=>by
  obtain⟨u,w,F⟩:=drop_cons e;have hlen:=c.len;have a0:=c.pl;have d:q.length=t.length:=by simpa using d
  apply RR;refine aO (l:=k.l) rfl e ⟨x.label,x.t,x.f,x.code,x.k,by omega,aY u,_,RU x.code,ae (fun g=>⟨aB,?_⟩) fun g=>?_⟩
  .have:=RW k c t q (i+1) (z++[p]) more w (by simp;omega) d
   rw[l6,g];rw[bn,bn]at this;exact this
  .obtain⟨y,D⟩:=c.jmp i x u (by simpa using g)
   have H:=zT c y;have G:=zT c D;have Z:=J7 c (i:=i) (by omega)
   have M:∀p:Bool×Bool,(kj (z++p::q)).length=k.l.length:=by intro p;have:=c.fl;have:=congrArg List.length e;simp[kj]at this⊢; omega
   have step:∀(s:Nat)(a:Int)(b:Bool)(m:Bool)(p f:Bool×Bool){r:List AV}{h:List Bx},s<2->([N (jK k i x.t),N (jK k i x.f)]:List PV)[s]?=some (N a)->([B p.1,B p.2]:List PV)[s]?=some (B b)->putAt [B p.1,B p.2] s [B true]=[B f.1,B f.2]->0<=a/\a<=2^40 ->
     Lp f120 1 (tv (bif gP k i a b then true else m) i (k.l.map Sy.row) k.l.length i (jK k i x.t) (jK k i x.f) ((s:Int)+1) (k.l.map Sy.row) (J6 k.qh) (lO k.place) (kj (z++(bif gP k i a b then f else p)::q))) 4 r h ->
     Lp f120 1 (tv m i (k.l.map Sy.row) k.l.length i (jK k i x.t) (jK k i x.f) s (k.l.map Sy.row) (J6 k.qh) (lO k.place) (kj (z++p::q))) 4 r h:=by
    intro s a b m p f r h A T Q X R K;have o:0+Int.toNat (s:Int)*1=s:=by rw[toNat_cast];omega
    have Y:((kj (z++p::q))[Int.toNat (i:Int)]?).bind (·[0+Int.toNat (s:Int)*1]?)=some (B b):=by
     rw[o,toNat_cast,kj,cg,ei (by simp;omega),ao,n,kZ]
     exact Q
    have E:=Ui z q p f s X;rw[n]at E;apply RS;rw[M p];refine bF (bI (by omega)) ⟨a,⟨by omega,by omega⟩,by rw[toNat_cast];exact T,⟨by omega,by omega⟩,⟨by omega,by omega⟩,b,Y,ae (fun j=>⟨⟨by omega,by simp[lO];omega⟩,x4 k i,E6 (by omega),aB,aB,ae (fun v=>⟨⟨by omega,by omega⟩,⟨by omega,by omega⟩,by rw[o];omega,aB,?_⟩) fun v=>⟨aB,?_⟩⟩) fun j=>⟨aB,?_⟩⟩
    .rw[show gP k i a b=true by rw[gP,j,v];rfl]at K
     rw[o,toNat_cast,E];exact K
    .rw[show gP k i a b=false by rw[gP,j,v];rfl]at K
     exact K
    .rw[show gP k i a b=false by rw[gP,j];rfl]at K
     exact K
   refine⟨_,_,XV {k with ct:=z++p::q} i x (by omega) u y D,?_⟩
   refine step 0 (jK k i x.t) p.1 more p (true,p.2) (by omega) rfl rfl rfl H ?_
   have I:(bif gP k i (jK k i x.t) p.1 then((true,p.2):Bool×Bool)else p)=(bif gP k i (jK k i x.t) p.1 then true else p.1,p.2):=by cases gP k i (jK k i x.t) p.1<;>rfl
   rw[I];refine step 1 (jK k i x.f) p.2 _ _ (bif gP k i (jK k i x.t) p.1 then true else p.1,true) (by omega) rfl rfl rfl G ?_
   have J:(bif gP k i (jK k i x.f) p.2 then((bif gP k i (jK k i x.t) p.1 then true else p.1,true):Bool×Bool)else(bif gP k i (jK k i x.t) p.1 then true else p.1,p.2))=(bif gP k i (jK k i x.t) p.1 then true else p.1,bif gP k i (jK k i x.f) p.2 then true else p.2):=by cases gP k i (jK k i x.f) p.2<;>rfl
   rw[J];apply RS;refine aW rfl ⟨aB,?_⟩;have:=RW k c t q (i+1) (z++[(bif gP k i (jK k i x.t) p.1 then true else p.1,bif gP k i (jK k i x.f) p.2 then true else p.2)]) (bif gP k i (jK k i x.f) p.2 then true else bif gP k i (jK k i x.t) p.1 then true else more) w (by simp;omega) d
   rw[l6,g];rw[bn,bn]at this;exact this
def mX(k:Lk):Lk:={k with place:=mV k.ct 0}
def fQ(k:Lk):Lk×Bool:=({mX k with ct:=(l6 (mX k) k.l k.ct 0 false).1},(l6 (mX k) k.l k.ct 0 false).2)
def aiS(k:Lk)(b:k.place.length=k.l.length)(a:k.ct.length=k.l.length)(d:k.l.length<=2^30)(c:Uh (mX k)):ak 120 [.aA 0 0] (lb k) [vB (fQ k).2] (lb (fQ k).1):=by
 apply ain;refine⟨_,aiP k b a d,?_⟩;rw[ao];exact RW (mX k) c k.l k.ct 0 [] false rfl rfl a
structure In where
 code:Int
 jt:Int
 jf:Int
 k:Int
def In.row(x:In):List PV:=[N x.code,N x.jt,N x.jf,W x.k]
def jaI(n:Int):In:=⟨5,0,0,IntKind.wrap .u32 n⟩
def oM(k:Lk)(i:Nat)(x:Sy)(p:Bool×Bool):List In:=
 ⟨x.code,bif p.1 then 0 else jK k i x.t-x4 k i-1,bif p.2 then(bif p.1 then 1 else 0)else jK k i x.f-x4 k i-1,x.k⟩::
  ((bif p.1 then[jaI (jK k i x.t-x4 k i-1-1)]else[])++(bif p.2 then[jaI (jK k i x.f-x4 k i-(bif p.1 then 2 else 1)-1)]else[]))
def aiT(k:Lk)(f:Uh k)(i:Nat)(x:Sy)(m:k.l[i]?=some x)(w:cG x.code=true)(p:Bool×Bool)(z:k.ct[i]?=some p):
  ak 173 [.aA 0 0,vN i] (lb k) [vL 4 ((oM k i x p).map In.row)] (lb k):=by
 have I:=f.len;have r:=f.pl;have h:=f.fl;have H:i<k.l.length:=(aE.1 m).1;obtain⟨t,v⟩:=f.jmp i x m w;have G:=zT f t;have D:=zT f v;have E:=J7 f (i:=i) (by omega)
 have s:(kj k.ct)[Int.toNat (i:Int)]?=some [B p.1,B p.2]:=by rw[kj,toNat_cast,bp,z];rfl
 have g:(kj k.ct).length=k.l.length:=by simp[kj,h]
 have pl:(lO k.place).length=k.l.length:=by simp[lO,r]
 obtain⟨a,b⟩:=p;apply aiv;rw[pl];refine⟨x.label,x.t,x.f,x.code,x.k,by omega,aY m,⟨by omega,by omega⟩,x4 k i,E6 (by omega),_,_,XV k i x (by omega) m t v,?_⟩
 have r0:((kj k.ct)[Int.toNat (i:Int)]?).bind (·[0+Int.toNat 0*1]?)=some (B a):=by rw[s];rfl
 have n:((kj k.ct)[Int.toNat (i:Int)]?).bind (·[0+Int.toNat 1*1]?)=some (B b):=by rw[s];rfl
 generalize l:jK k i x.t=t0 at*;generalize j:jK k i x.f=t1 at*;generalize o:x4 k i=q at*;have fin:∀(c:Rw)(y:List PV)(d e:Int)(u:Rw),c=y::u->putAt (putAt y 1 [N d]) 2 [N e]=[N x.code,N d,N e,W x.k]->Lp f173 0 (zP i q t0 t1 2 (k.l.map Sy.row) (J6 k.qh) (lO k.place) (kj k.ct) c d e) 4 [vL 4 ([N x.code,N d,N e,W x.k]::u)] (lb k):=by
  rintro _ y d e u rfl hy;apply tw;refine aW rfl ⟨⟨by omega,by omega⟩,d,rfl,⟨by omega,by omega⟩,e,rfl,⟨by omega,by simp<;>omega⟩,by omega,⟨by omega,by simp[setRow]<;>omega⟩,by omega,ai ?_ rfl⟩
  rw[show setRow (setRow (y::u) (Int.toNat 0) 1 [N d]) (Int.toNat 0) 2 [N e]=putAt (putAt y 1 [N d]) 2 [N e]::u from rfl,hy]
 cases a with
 |false=>
  apply tw;rw[g];refine bF rfl ⟨t0,⟨by omega,by omega⟩,rfl,aB,aB,⟨by omega,by omega⟩,t0-q-1,0,by omega,rfl,⟨by omega,by omega⟩,⟨by omega,by omega⟩,false,r0,aW rfl ⟨aB,?_⟩⟩
  cases b with
  |false=>
   apply tw;rw[g];refine bF rfl ⟨t1,⟨by omega,by omega⟩,rfl,aB,aB,⟨by omega,by omega⟩,t0-q-1,t1-q-1,by omega,rfl,⟨by omega,by omega⟩,⟨by omega,by omega⟩,false,n,aW rfl ⟨aB,?_⟩⟩
   have:=fin [[N x.code,N 0,N 0,W x.k]] _ (t0-q-1) (t1-q-1) [] rfl rfl;rw[show(oM k i x (false,false)).map In.row=[[N x.code,N (t0-q-1),N (t1-q-1),W x.k]] by rw[oM,l,j,o];rfl]
   exact this
  |true=>
   apply tw;rw[g];refine bF rfl ⟨t1,⟨by omega,by omega⟩,rfl,aB,aB,⟨by omega,by omega⟩,t0-q-1,t1-q-1,by omega,rfl,⟨by omega,by omega⟩,⟨by omega,by omega⟩,true,n,bF rfl ⟨aB (by simp) (by simp),⟨by omega,by omega⟩,t0-q-1,0,by omega,rfl,aB,aB (by simp;omega) (by simp;omega),aB (by simp;omega) (by simp;omega),by simp,aB,?_⟩⟩
   have:=fin ([[N x.code,N 0,N 0,W x.k]]++[[N 5,N 0,N 0,W (IntKind.wrap .u32 (t1-q-1-1))]]) _ (t0-q-1) 0 [[N 5,N 0,N 0,W (IntKind.wrap .u32 (t1-q-1-1))]] rfl rfl;rw[show(oM k i x (false,true)).map In.row=[[N x.code,N (t0-q-1),N 0,W x.k],[N 5,N 0,N 0,W (IntKind.wrap .u32 (t1-q-1-1))]] by rw[oM,l,j,o];rfl]
   exact this
 |true=>
  apply tw;rw[g];refine bF rfl ⟨t0,⟨by omega,by omega⟩,rfl,aB,aB,⟨by omega,by omega⟩,t0-q-1,0,by omega,rfl,⟨by omega,by omega⟩,⟨by omega,by omega⟩,true,r0,bF rfl ⟨aB (by simp) (by simp),⟨by omega,by omega⟩,0,0,by omega,rfl,aB,aB (by simp;omega) (by simp;omega),aB (by simp;omega) (by simp;omega),by simp,aB,?_⟩⟩
  cases b with
  |false=>
   apply tw;rw[g];refine bF rfl ⟨t1,⟨by omega,by omega⟩,rfl,aB,aB,⟨by omega,by omega⟩,0,t1-q-1,by omega,rfl,⟨by omega,by omega⟩,⟨by omega,by omega⟩,false,n,aW rfl ⟨aB,?_⟩⟩
   have:=fin ([[N x.code,N 0,N 0,W x.k]]++[[N 5,N 0,N 0,W (IntKind.wrap .u32 (t0-q-1-1))]]) _ 0 (t1-q-1) [[N 5,N 0,N 0,W (IntKind.wrap .u32 (t0-q-1-1))]] rfl rfl;rw[show(oM k i x (true,false)).map In.row=[[N x.code,N 0,N (t1-q-1),W x.k],[N 5,N 0,N 0,W (IntKind.wrap .u32 (t0-q-1-1))]] by rw[oM,l,j,o];rfl]
   exact this
  |true=>
   apply tw;rw[g];refine bF rfl ⟨t1,⟨by omega,by omega⟩,rfl,aB,aB,⟨by omega,by omega⟩,0,t1-q-1,by omega,rfl,⟨by omega,by omega⟩,⟨by omega,by omega⟩,true,n,bF rfl ⟨aB (by simp) (by simp),⟨by omega,by omega⟩,0,1,by omega,rfl,aB,aB (by simp;omega) (by simp;omega),aB (by simp;omega) (by simp;omega),by simp,aB,?_⟩⟩
   have:=fin ([[N x.code,N 0,N 0,W x.k]]++[[N 5,N 0,N 0,W (IntKind.wrap .u32 (t0-q-1-1))]]++[[N 5,N 0,N 0,W (IntKind.wrap .u32 (t1-q-2-1))]]) _ 0 1 [[N 5,N 0,N 0,W (IntKind.wrap .u32 (t0-q-1-1))],[N 5,N 0,N 0,W (IntKind.wrap .u32 (t1-q-2-1))]] rfl rfl;rw[show(oM k i x (true,true)).map In.row=[[N x.code,N 0,N 1,W x.k],[N 5,N 0,N 0,W (IntKind.wrap .u32 (t0-q-1-1))],[N 5,N 0,N 0,W (IntKind.wrap .u32 (t1-q-2-1))]] by rw[oM,l,j,o];rfl]
   exact this
def fE(k:Lk)(i:Nat)(x:Sy)(p:Bool×Bool):List In:=bif cG x.code then oM k i x p else bif x.code==5 then[⟨5,0,0,IntKind.wrap .u32 (jK k i x.t-x4 k i-1)⟩]else[⟨x.code,0,0,x.k⟩]
def aiU(k:Lk)(a:Uh k)(n:∀(i:Nat)(x:Sy),k.l[i]?=some x->(x.code==5)=true->LD k i x.t/\LD k i x.f)(i:Nat)(x:Sy)(b:k.l[i]?=some x)(p:Bool×Bool)(l:k.ct[i]?=some p):
  ak 121 [.aA 0 0,vN i] (lb k) [vL 4 ((fE k i x p).map In.row)] (lb k):=by
 have u:=a.len;have o:=a.pl;have t:i<k.l.length:=(aE.1 b).1;have q:=J7 a (i:=i) (by omega)
 have pl:(lO k.place).length=k.l.length:=by simp[lO,o]
 apply aip;rw[pl];refine⟨x.label,x.t,x.f,x.code,x.k,by omega,aY b,_,RU x.code,ae (fun h=>⟨_,aiT k a i x b h p l,ai (by rw[fE,h];rfl) rfl⟩) fun h=>ae (fun d=>?_) fun d=>ai (by rw[fE,h,d];rfl) rfl⟩
 obtain⟨j,m⟩:=n i x b d;have s:=zT a j;have c:=XV k i x (by omega) b j m
 have e:(fE k i x p).map In.row=[[N 5,N 0,N 0,W (IntKind.wrap .u32 (jK k i x.t-x4 k i-1))]]:=by rw[fE,h,d];rfl
 rw[e];have r:=E6 (k:=k) (i:=i) (by omega)
 have f:bh .i64 (jK k i x.t-x4 k i):=aB;have g:bh .i64 (jK k i x.t-x4 k i-1):=aB;exact⟨⟨_,_,c,_,⟨by omega,by omega⟩,rfl,⟨by omega,by omega⟩,_,r,f,g,fi⟩,⟨_,_,c,_,⟨by omega,by omega⟩,rfl,⟨by omega,by omega⟩,_,r,f,g,fi⟩,⟨by omega,by omega⟩,⟨_,_,c,_,⟨by omega,by omega⟩,rfl,_,r,f,g,fi⟩,⟨_,r,_,_,c,_,⟨by omega,by omega⟩,rfl,f,g,fi⟩⟩
def Hq{x:Lb}:∀{l:List Lb}{y:Lb},y∈zR x l->y=x\/y∈l
 |[],y,h=>by simp[zR]at h;exact .inl h
 |z::l,y,h=>by
  unfold zR at h;cases hk:x.1==z.1<;>rw[hk]at h
  .rw[af]at h
   rcases aU.1 h with rfl|h
   .exact .inr aS
   .rcases Hq h with h|h
    .exact .inl h
    .exact .inr (aP _ h)
  .rw[aj]at h
   rcases aU.1 h with rfl|h
   .exact .inl rfl
   .exact .inr (aP _ h)
def Hr:∀(t:List Sy)(i:Int)(m:List Lb),0<=i->(∀y∈m,0<=y.2/\y.2<i)->∀y∈(fX t i m).2,0<=y.2/\y.2<i+t.length
 |[],i,m,c,h,y,a=>by have:=h y a;simp;omega
 |x::t,i,m,c,h,y,a=>by
  unfold fX at a;cases hb:(bif decide (x.label<0)then true else(l5 m x.label).isSome)<;>rw[hb]at a
  .have:=Hr t (i+1) (bif decide (x.label>0)then zR (x.label,i) m else m) (by omega) (fun z b=>by
    cases hd:decide (x.label>0)<;>rw[hd]at b
    .have:=h z b;omega
    .rcases Hq b with rfl|b
     .exact⟨c,by show i<i+1;omega⟩
     .have:=h z b;omega) y a
   simp only[aC];omega
  .have:=h y a
   simp only[aC];omega
def zU{n:Int}{m:List Lb}:∀(t:List Sy)(i:Nat),sP n m t i=true->n>0/\∀(j:Nat)x,t[j]?=some x->tB n m ((i+j:Nat):Int) x=true
 |[],i,h=>⟨aN h,fun j x a=>by simp at a⟩
 |y::t,i,h=>by
  unfold sP at h;cases hb:tB n m i y<;>rw[hb]at h
  .simp at h
  .obtain⟨b,c⟩:=zU t (i+1) h
   refine⟨b,fun j x a=>?_⟩
   cases j with
   |zero=>simp at a;subst a;exact hb
   |succ j=>
    have:=c j x (by simpa using a)
    rw[show i+(j+1)=i+1+j by omega]
    exact this
def Hs{l:List Sy}(h:(cY l).1=true){k:Lk}(o:k.l=l)(g:k.qh=(cY l).2)(u:k.place.length=l.length):
  (∀(i:Nat)(x:Sy),k.l[i]?=some x->cG x.code=true->LD k i x.t/\LD k i x.f)/\∀(i:Nat)(x:Sy),k.l[i]?=some x->(x.code==5)=true->LD k i x.t/\LD k i x.f:=by
 have p:sP l.length (fX l 0 []).2 l 0=true:=(cd (b:=(fX l 0 []).1) h).2;obtain⟨w,q⟩:=zU l 0 p;have s:=Hr l 0 [] (dY 0) (by simp)
 have g:k.qh=(fX l 0 []).2:=g;have f:∀(i:Nat)(x:Sy)(ch:Int),k.l[i]?=some x->qc x.code=false->LD k i ch:=by
  intro i x ch a t;have z:i<l.length:=by rw[o]at a;exact(aE.1 a).1
  have d:=q i x (by rw[<-o];exact a)
  rw[cr]at d;have v:(i:Int)+1<l.length:=by
   unfold tB at d;cases hn:(rr x.code).isSome<;>rw[hn]at d
   .simp at d
   .cases hi:(i:Int)==(l.length:Int)-1
    .have:=gr hi;omega
    .rw[hi,t]at d;simp at d
  unfold LD gX;rw[u,g];cases hl0:ch==0
  .cases hg:l5 (fX l 0 []).2 ch with
   |none=>exact⟨by simp,by simp;omega⟩
   |some y=>
    have:=s y (kS hg);exact⟨this.1,by show y.2<_;omega⟩
  .exact⟨by show 0<=(i:Int)+1;omega,v⟩
 have n:∀c,cG c=true->qc c=false:=by
  intro c e;unfold qc;cases h6:c==6
  .cases h22:c==22
   .rfl
   .rw[eq_of_beq h22]at e;simp[cG]at e
  .rw[eq_of_beq h6]at e;simp[cG]at e
 exact⟨fun i x a m=>⟨f i x _ a (n _ m),f i x _ a (n _ m)⟩,fun i x a j=>⟨f i x _ a (by rw[eq_of_beq j];rfl),f i x _ a (by rw[eq_of_beq j];rfl)⟩⟩
def cntF:List (Bool×Bool)->Nat
 |[]=>0
 |p::t=>(bif p.1 then 0 else 1)+(bif p.2 then 0 else 1)+cntF t
def oN(k:Lk):∀(t:List Sy)(q:List (Bool×Bool))(i:Nat)(more:Bool),cntF (l6 k t q i more).1<=cntF q/\((l6 k t q i more).2=true->more=true\/cntF (l6 k t q i more).1<cntF q)/\(l6 k t q i more).1.length=q.length
 |[],q,i,more=>⟨ar _,fun h=>.inl h,rfl⟩
 |x::t,[],i,more=>⟨ar _,fun h=>.inl h,rfl⟩
 |x::t,p::q,i,more=>by
  obtain⟨a,b⟩:=p;rw[l6];cases cG x.code
  .obtain⟨d,c,e⟩:=oN k t q (i+1) more
   refine⟨by simp only[jM,aj,cntF];omega,fun h=>?_,by simp only[jM,aj,aC,e]⟩
   rcases c h with h|h
   .exact .inl h
   .exact .inr (by simp only[jM,aj,cntF];omega)
  .simp only[fh,af]
   have f:∀j,gP k i j true=false:=fun _=>rfl
   obtain⟨d,c,e⟩:=oN k t q (i+1) (bif gP k i (jK k i x.f) b then true else bif gP k i (jK k i x.t) a then true else more);refine⟨?_,fun h=>?_,by simp only[aC,e]⟩
   .revert d
    generalize l6 k t q (i+1) _=r;intro d;cases a<;>cases b<;>cases gP k i (jK k i x.t) false<;>cases gP k i (jK k i x.f) false<;>simp only[f,cntF,aj,af]<;>omega
   .have g:=c h
    clear c h e;revert d g
    generalize l6 k t q (i+1) _=r;cases a<;>cases b<;>cases gP k i (jK k i x.t) false<;>cases gP k i (jK k i x.f) false<;>simp only[f,cntF,aj,af]<;>intro d c<;>first|exact .inr (by omega)|exact c.imp id (fun h=>by omega)
def wX:Nat->Lk->Lk
 |0,k=>k
 |n+1,k=>bif(fQ k).2 then wX n (fQ k).1 else(fQ k).1
def dp(k:Lk):List Sy->List (Bool×Bool)->Nat->List In
 |x::t,p::q,i=>fE k i x p++dp k t q (i+1)
 |_,_,_=>[]
def nY(l:List Sy):Lk:=⟨l,(cY l).2,List.replicate l.length 0,List.replicate l.length (false,false)⟩
def fv(l:List Sy):Lk:=wX (2*l.length+1) (nY l)
def u3(l:List Sy):List In:=dp (fv l) l (fv l).ct 0
def gb(l:List Sy):List In×Int:=bif !(cY l).1 then([],1)else bif decide ((l.length:Int)>4096)then([],9)else bif decide (((u3 l).length:Int)>4096)then([],9)else(u3 l,0)
def E7:∀(l:List (Bool×Bool)),cntF l<=2*l.length
 |[]=>ar _
 |(a,b)::t=>by
  have:=E7 t;cases a<;>cases b<;>simp only[cntF,aj,af,aC]<;>omega
structure Yy (l:List Sy) (k:Lk):Prop where
 sl:k.l=l
 qh:k.qh=(cY l).2
 pl:k.place.length=l.length
 fl:k.ct.length=l.length
def LG{l:List Sy}(c:(cY l).1=true)(b:l.length<=2^30){k:Lk}(h:Yy l k):Uh (mX k):=by
 have a:(mX k).place.length=l.length:=(wk k.ct 0).trans h.fl;refine⟨a.trans (by rw[<-h.sl];rfl),h.fl.trans (by rw[<-h.sl];rfl),by show k.l.length<=_;rw[h.sl];exact b,fun v d=>?_,(Hs c (k:=mX k) h.sl h.qh a).1⟩
 have:=zS k.ct 0 v d;have e:=h.fl;omega
def Nr{l:List Sy}{k:Lk}(h:Yy l k):Yy l (fQ k).1:=⟨h.sl,h.qh,(wk k.ct 0).trans h.fl,(oN (mX k) k.l k.ct 0 false).2.2.trans h.fl⟩
def J8{l:List Sy}(c:(cY l).1=true)(b:l.length<=2^30){k:Lk}(h:Yy l k):Uh (fQ k).1:=by
 have a:=LG c b h;exact⟨a.pl,(oN (mX k) k.l k.ct 0 false).2.2.trans a.fl,a.len,a.bd,a.jmp⟩
def B7(c:List In):List AV:=bif decide ((c.length:Int)>4096)then[vL 4 [],vN 9]else[.own 0 0 4 (c.map In.row),vN 0]
def RX{l:List Sy}(v:l.length<=4096)(o:(cY l).1=true){k:Lk}(h:Yy l k)(m:Uh k):∀(t:List Sy)(q:List (Bool×Bool))(i:Nat)(d:List In),l.drop i=t->k.ct.drop i=q->i+t.length=l.length->d.length<=3*i ->
  Lp f84 1 (Lz (d.map In.row) l.length i (k.l.map Sy.row) (J6 k.qh) (lO k.place) (kj k.ct)) 0 (B7 (d++dp k t q i)) []
 |[],q,i,d,f,g,j,n=>by
  apply Vx;rw[ao];refine aT (l:=l) rfl f ?_;rw[show dp k [] q i=[] by cases q<;>rfl,eG]
  exact ae (fun h=>ai (by rw[B7,h];rfl) rfl) fun h=>ai (by rw[B7,h];rfl) rfl
 |x::t,[],i,d,f,g,j,n=>by
  have:=drop_nil g;have:=h.fl;simp at j;omega
 |x::t,p::q,i,d,f,g,j,n=>by
  obtain⟨s,u,z⟩:=drop_cons f;obtain⟨w,y,r⟩:=drop_cons g;simp only[aC]at j;have c:=aiU k m (Hs o h.sl h.qh h.pl).2 i x (by rw[h.sl];exact s) p w
  have hlen:(fE k i x p).length<=3:=by
   unfold fE oM;obtain⟨a,b⟩:=p;cases cG x.code
   .cases x.code==5<;>simp
   .cases a<;>cases b<;>simp
  have e:d.map In.row++(fE k i x p).map In.row=(d++fE k i x p).map In.row:=by rw[cg]
  apply Vx;refine aO (l:=l) rfl f ⟨_,c,?_⟩;rw[e];refine⟨by simp;omega,aB,?_⟩
  have:=RX v o h m t q (i+1) (d++fE k i x p) u y (by omega) (by simp;omega)
  rw[dp,<-bn];exact this
def RY{l:List Sy}(d:l.length<=4096)(b:(cY l).1=true):∀(n:Nat)(k:Lk),Yy l k->cntF k.ct<n ->
  Lp f84 0 (Ly (l.map Sy.row) (k.l.map Sy.row) (J6 k.qh) (lO k.place) (kj k.ct)) 0 (B7 (dp (wX n k) l (wX n k).ct 0)) []
 |0,k,h,e=>absurd e (iR _)
 |n+1,k,h,e=>by
  have i:=LG b (by omega) h
  have c:=aiS k (h.pl.trans (by rw[h.sl])) (h.fl.trans (by rw[h.sl])) (by rw[h.sl];omega) i
  have f:=Nr h;have g:=(oN (mX k) k.l k.ct 0 false).2.1;apply aaC;refine⟨_,_,_,c,ae (fun a=>?_) fun a=>?_⟩
  .have j:cntF (fQ k).1.ct<cntF k.ct:=by
    rcases g a with h|h
    .simp at h
    .exact h
   rw[wX,a];exact RY d b n (fQ k).1 f (by omega)
  .rw[wX,a]
   have:=RX d b f (J8 b (by omega) h) l (fQ k).1.ct 0 [] rfl rfl (by simp) (by simp)
   rw[ao];exact this
def C84(l:List Sy)(g:l.length<=2^40):ak 84 [vL 5 (l.map Sy.row)] [] [vL 4 ((gb l).1.map In.row),vN (gb l).2] []:=by
 have f:(l.map Sy.row).length=l.length:=ao ..;have d:(List.replicate (Int.toNat (l.length:Int)) [N 0]:Rw)=lO (List.replicate l.length 0):=by simp[lO]
 have e:(List.replicate (Int.toNat (l.length:Int)) [B false,B false]:Rw)=kj (List.replicate l.length (false,false)):=by simp[kj]
 have c:=aiR ⟨l,[],List.replicate l.length 0,List.replicate l.length (false,false)⟩ (by show l.length<=_;omega) rfl
 have w:ak 84 [vL 5 (l.map Sy.row)] [] (bif !(cY l).1 then[vL 4 [],vN 1]else bif decide ((l.length:Int)>4096)then[vL 4 [],vN 9]else B7 (u3 l)) []:=by
  apply W84;rw[f,d,e];refine⟨rfl,by omega,by omega,rfl,by omega,by omega,_,_,c,ae (fun h=>ai (by rw[h];rfl) rfl) fun h=>ae (fun a=>ai (by rw[h,a];rfl) rfl) fun a=>?_⟩
  rw[h,a];have b:=bH a;have:=RY (l:=l) (by omega) (by simpa using h) (2*l.length+1) (nY l) ⟨rfl,rfl,by simp[nY],by simp[nY]⟩ (by have:=E7 (nY l).ct;simp[nY]at this⊢; omega)
  exact this
 rw[gb];cases h1 : !(cY l).1<;>rw[h1]at w
 .cases a:decide ((l.length:Int)>4096)<;>rw[a]at w
  .unfold B7 at w
   cases b:decide (((u3 l).length:Int)>4096)<;>rw[b]at w
   .exact Go.Ac.ak.soft w rfl
   .exact w
  .exact w
 .exact w
def LH(a b:Rw)(c d:Int):St:=⟨aM 47 [(3,.own 0 0 1 a),(7,vL 4 b),(8,vN c),(9,vN d)],[some 0],[]⟩
def Ht(a b:Rw)(c d e f g i j:Int):St:=⟨aM 47 [(3,.own 0 0 1 a),(5,.aA 0 0),(7,vL 4 b),(8,vN c),(9,vN d),(32,vN e)],[some 0],[.cells [vN f,vN g,vN i,vW j]]⟩
def A32:bq:={an:=[(4,1,ah),(5,1,ah)],cut:=[(3,{bl:=[3,7,8,9],dw:=[(3,1)],owns:=[3]}),(9,{bl:=[3,5,7,8,9,32],dw:=[(3,1)],owns:=[3]})]}
def W32(a:Rw){r h}(H:Lp f32 0 (LH [] a (a.length:Int) 0) 0 r h):
  ak 32 [vL 4 a] [] r h:=.of func32 A32 H
def VB(b f:Rw)(g c:Int){r h}(H:ay (decide (c<g)) (DX f c fun a d e j=>∃i,ak 57 [.agg [N a,N d,N e,W j]] [] [vB i] []/\ay (!i) (Fi r h [vL 1 []] [])
 (0<=(8:Int)/\(b++([[Y (IntKind.wrap .u8 a)],[Y (IntKind.wrap .u8 (Int.fdiv a (2^(min (Int.toNat 8) (IntKind.bits .i64)))))],[Y (IntKind.wrap .u8 d)],[Y (IntKind.wrap .u8 e)]]:Rw)).length*1<=2^47/\Lp f32 1 (Ht (b++([[Y (IntKind.wrap .u8 a)],[Y (IntKind.wrap .u8 (Int.fdiv a (2^(min (Int.toNat 8) (IntKind.bits .i64)))))],[Y (IntKind.wrap .u8 d)],[Y (IntKind.wrap .u8 e)]]:Rw)) f g c 0 a d e j) 0 r h))
 (Fi r h [.own 0 0 1 b] [])):
  Lp f32 0 (LH b f g c) 0 r h:=.of A32 H
def VC(b e:Rw)(f c a g i j d:Int){r h}(H:ay (decide (a<4)) (bh .i64 ((8:Int)*a)/\0<=((8:Int)*a)/\(b++([[Y (IntKind.wrap .u8 (Int.fdiv d (2^(min (Int.toNat ((8:Int)*a)) (IntKind.bits .u32)))))]]:Rw)).length*1<=2^47/\bh .i64 (a+1)/\Lp f32 1 (Ht (b++([[Y (IntKind.wrap .u8 (Int.fdiv d (2^(min (Int.toNat ((8:Int)*a)) (IntKind.bits .u32)))))]]:Rw)) e f c (a+1) g i j d) 0 r h)
 (bh .i64 (c+1)/\Lp f32 0 (LH b e f (c+1)) 0 r h)):
  Lp f32 1 (Ht b e f c a g i j d) 0 r h:=.of A32 H
def LI(a b:Rw):St:=⟨aM 57 [(0,vL 1 a),(4,.own 0 0 4 b)],[some 0],[]⟩
def Hu(a b:Rw)(c d e f g:Int):St:=⟨aM 57 [(0,vL 1 a),(4,.own 0 0 4 b),(5,.aA 0 0),(35,vN c)],[some 0],[.cells [vN d,vN e,vN f,vW g]]⟩
def A33:bq:={an:=[(6,2,ah),(6,6,ah),(6,12,ah),(6,16,ah),(10,6,ah)],cut:=[(4,{bl:=[0,4],dw:=[(4,4)],owns:=[4]}),(8,{bl:=[0,4,5,35],dw:=[(4,4)],owns:=[4]})]}
def W33(a:Rw){r h}(H:(8:Int)≠0/\ay ((Int.tmod (a.length:Int) 8) !=0) (Fi r h [vL 4 [],vN 2] [])
 (Lp f33 0 (LI a []) 0 r h)):
  ak 33 [vL 1 a] [] r h:=.of func33 A33 H
def aaH(a b:Rw){r h}(H:ay (decide ((a.length:Int)>0)) (Yp a 0 fun c=>Yp a 1 fun d=>0<=(8:Int)/\Yp a 2 fun e=>Yp a 3 fun f=>Lp f33 1 (Hu a b 0 (cF .or .i64 (IntKind.wrap .i64 c) (IntKind.wrap .i64 ((IntKind.wrap .i64 d)*2^(min (Int.toNat 8) (IntKind.bits .i64))))) (IntKind.wrap .i64 e) (IntKind.wrap .i64 f) 0) 0 r h)
 (Fi r h [.own 0 0 4 b,vN 0] [])):
  Lp f33 0 (LI a b) 0 r h:=.of A33 H
def VD(b c:Rw)(a d e f g:Int){r h}(H:ay (decide (a<4)) (bh .i64 ((4:Int)+a)/\Yp b ((4:Int)+a) fun i=>bh .i64 ((8:Int)*a)/\0<=((8:Int)*a)/\bh .i64 (a+1)/\Lp f33 1 (Hu b c (a+1) d e f (cF .or .u32 g (IntKind.wrap .u32 ((IntKind.wrap .u32 i)*2^(min (Int.toNat ((8:Int)*a)) (IntKind.bits .u32)))))) 0 r h)
 ((c++([[N d,N e,N f,W g]]:Rw)).length*32<=2^47/\(0<=(8:Int)/\(8:Int)<=(b.length:Int)/\(b.length:Int)<=(b.length:Int))/\Lp f33 0 (LI (List.drop 8 (List.take b.length b)) (c++([[N d,N e,N f,W g]]:Rw))) 0 r h)):
  Lp f33 1 (Hu b c a d e f g) 0 r h:=.of A33 H
def A57:bq:={an:=[(1,4,aa),(1,5,aa),(1,6,aa),(1,9,aa),(1,10,aa),(1,11,aa),(1,14,aa),(1,15,aa),(1,16,aa),(1,19,aa),(1,20,aa),(1,21,aa),(1,24,aa),(1,25,aa),(1,26,aa)]}
def W57(a b c d:Int){r h}(H:Fi r h [vB (bif(bif(bif(bif(bif(decide (a>=0))then(decide (a<=65535))else false)then(decide (b>=0))else false)then(decide (b<=255))else false)then(decide (c>=0))else false)then(decide (c<=255))else false)] []):
  ak 57 [.agg [N a,N b,N c,W d]] [] r h:=.of func57 A57 H
abbrev LJ(x:In):AV:=.agg [N x.code,N x.jt,N x.jf,W x.k]
def jx(x:In):Bool:=(bif(bif(bif(bif(bif(decide (x.code>=0))then(decide (x.code<=65535))else false)then(decide (x.jt>=0))else false)then(decide (x.jt<=255))else false)then(decide (x.jf>=0))else false)then(decide (x.jf<=255))else false)
def C57(x:In):ak 57 [LJ x] [] [vB (jx x)] []:=by apply W57;exact fi
def E8(c:Int):Bool:=bif(c==2)then true else(c==3)
def aaI(c:Int):ak 126 [vN c] [] [vB (E8 c)] []:=aiM c fi
def zV(c:Int):Bool:=bif(c==96)then true else(c==97)
def C86(c:Int):ak 86 [vN c] [] [vB (zV c)] []:=W86 c fi
def xr(x:In):Bool:=bif x.code==32 then(bif(Int.tmod x.k 4)==0 then decide (x.k<=60)else false)else bif E8 x.code then decide (x.k<16)else bif zV x.code then decide (x.k<16)else
 bif x.code==52 then(x.k !=0)else bif(bif(x.code==100)then true else(x.code==116))then decide (x.k<32)else true
def aiY(x:In):ak 123 [LJ x] [] [vB (xr x)] []:=by
 apply aiG;exact ae (fun h=>⟨by omega,ai (by rw[xr,h];rfl) rfl⟩) fun a=>⟨_,aaI _,ae (fun h=>ai (by rw[xr,a,h];rfl) rfl) fun b=>⟨_,C86 _,ae (fun h=>ai (by rw[xr,a,b,h];rfl) rfl) fun c=>
  ae (fun h=>ai (by rw[xr,a,b,c,h];rfl) rfl) fun d=>ae (fun h=>ai (by rw[xr,a,b,c,d,h];rfl) rfl) fun h=>ai (by rw[xr,a,b,c,d,h];rfl) rfl⟩⟩
def fJ(x:In)(a:Int):List Int:=bif qc x.code then[]else bif x.code==5 then[a+1+x.k]else bif cG x.code then[a+1+x.jt,a+1+x.jf]else[a+1]
structure NZ (x:In):Prop where
 k:0<=x.k/\x.k<4294967296
 jt : -4611686018427387904<=x.jt/\x.jt<=4611686018427387904
 jf : -4611686018427387904<=x.jf/\x.jf<=4611686018427387904
def C87(x:In)(a:Int)(c:NZ x)(e:0<=a/\a<=2^40):ak 87 [LJ x,vN a] [] [vL 1 (lO (fJ x a))] []:=by
 obtain⟨f,g⟩:=c.k;obtain⟨i,t2⟩:=c.jt;obtain⟨f1,f2⟩:=c.jf;apply W87;rw[rp (n:=x.k) (by omega) (by omega)]
 exact⟨_,XU _,ae (fun h=>ai (by rw[fJ,h];rfl) rfl) fun b=>ae (fun h=>⟨aB,aB,ai (by rw[fJ,b,h];rfl) rfl⟩) fun d=>⟨_,RU _,ae
  (fun h=>⟨aB,aB,aB,aB,ai (by rw[fJ,b,d,h];rfl) rfl⟩) fun h=>⟨aB,ai (by rw[fJ,b,d,h];rfl) rfl⟩⟩⟩
def gn(l:List In)(a:Int)(x:In):Bool:=bif !(rr x.code).isSome then false else bif !jx x then false else bif !xr x then false else
 bif(bif a==(l.length:Int)-1 then !qc x.code else false)then false else(fJ x a).all fun n => !decide (n>=(l.length:Int))
def C85(l:List In)(i:Nat)(x:In)(s:l.length<=2^30)(k:l[i]?=some x)(o:NZ x):ak 85 [vL 4 (l.map In.row),vN i] [] [vB (gn l i x)] []:=by
 have q:i<l.length:=(aE.1 k).1;have m:(l.map In.row).length=l.length:=ao ..;have g:=C87 x i o ⟨by omega,by omega⟩
 have u:(fJ x i).length<=2:=by
  unfold fJ;cases qc x.code
  .cases x.code==5
   .cases cG x.code<;>simp
   .simp
  .simp
 have key:∀(t:List Int)(j:Nat),(fJ x i).drop j=t->Lp f85 0 (Ho (l.map In.row) (lO (fJ x i)) (lO (fJ x i)).length j) 0 [vB (t.all fun n => !decide (n>=(l.length:Int)))] []:=by
  intro t;induction t with
  |nil=>intro j e;apply VA;exact aT (l:=fJ x i) (by simp[lO]) e fi
  |cons n t p=>
   intro j e;obtain⟨a,b,c⟩:=drop_cons e;apply VA;refine aO (l:=fJ x i) (by simp[lO]) e ⟨n,by omega,aY (f:=fun n=>[N n]) a,?_⟩
   rw[m,bE];exact ae (fun h=>ai (by rw[h];rfl) rfl) fun h=>⟨aB,by rw[h];exact p (j+1) b⟩
 apply W85;refine⟨x.code,x.jt,x.jf,x.k,by omega,aY k,_,_,aaG x.code,ae (fun h=>ai (by rw[gn,h];rfl) rfl) fun a=>⟨_,C57 x,ae (fun h=>ai (by rw[gn,a,h];rfl) rfl) fun b=>⟨_,aiY x,ae (fun h=>ai (by rw[gn,a,b,h];rfl) rfl) fun c=>?_⟩⟩⟩
 rw[m];refine⟨aB,ae (fun d=>⟨_,XU x.code,ae (fun h=>ai (by rw[gn,a,b,c,d,h];rfl) rfl) fun h=>⟨_,g,?_⟩⟩) fun d=>⟨_,g,?_⟩⟩
 .rw[gn,a,b,c,d,h];exact key _ 0 rfl
 .rw[gn,a,b,c,d];exact key _ 0 rfl
def Hv(a:Rw)(b c d e f g i j k l m n o p q s t u v:Int):St:=⟨aM 39 [(0,vL 1 a),(2,.aA 0 0),(4,.aA 1 0),(22,vN b)],[],[K1 c d e f g i j k l,K1 m n o p q s t u v]⟩
def A34:bq:={an:=[(3,2,ah),(3,6,ah),(3,10,ah),(7,9,ah)],cut:=[(5,{bl:=[0,2,4,22]})]}
def W34(a:Rw){r h}(H:ay ((a.length:Int) !=64) (Fi r h [.agg [W 0,W 0,U 0,U 0,U 0,U 0,U 0,U 0,U 0],vN 2] [])
 ((0<=(0:Int)/\(0:Int)<=4/\(4:Int)<=(a.length:Int))/\∃b,ak 58 [vL 1 (List.drop 0 (List.take 4 a))] [] [vU b] []/\(0<=(4:Int)/\(4:Int)<=8/\(8:Int)<=(a.length:Int))/\∃c,ak 58 [vL 1 (List.drop 4 (List.take 8 a))] [] [vU c] []/\(0<=(8:Int)/\(8:Int)<=16/\(16:Int)<=(a.length:Int))/\∃d,ak 58 [vL 1 (List.drop 8 (List.take 16 a))] [] [vU d] []/\Lp f34 0 (Hv a 0 0 0 0 0 0 0 0 0 0 (IntKind.wrap .u32 b) (IntKind.wrap .u32 c) d 0 0 0 0 0 0) 0 r h)):
  ak 34 [vL 1 a] [] r h:=.of func34 A34 H
def VE(e:Rw)(a m n o p q s t u v b c d f g i j k l:Int){r h}(H:ay (decide (a<6)) (bh .i64 ((8:Int)*a)/\bh .i64 ((16:Int)+((8:Int)*a))/\bh .i64 ((8:Int)*a)/\bh .i64 ((24:Int)+((8:Int)*a))/\(0<=((16:Int)+((8:Int)*a))/\((16:Int)+((8:Int)*a))<=((24:Int)+((8:Int)*a))/\((24:Int)+((8:Int)*a))<=(e.length:Int))/\∃w,ak 58 [vL 1 (List.drop (Int.toNat ((16:Int)+((8:Int)*a))) (List.take (Int.toNat ((24:Int)+((8:Int)*a))) e))] [] [vU w] []/\(0<=a/\a<6)/\∃x y z D E G,0<1/\putAt ([vW b,vW c,vU d,vU f,vU g,vU i,vU j,vU k,vU l]:List AV) (3+Int.toNat a*1+0) [vU w]=[vW b,vW c,vU d,vU x,vU y,vU z,vU D,vU E,vU G]/\bh .i64 (a+1)/\Lp f34 0 (Hv e (a+1) m n o p q s t u v b c d x y z D E G) 0 r h)
 (Fi r h [.agg [W b,W c,U d,U f,U g,U i,U j,U k,U l],vN 0] [])):
  Lp f34 0 (Hv e a m n o p q s t u v b c d f g i j k l) 0 r h:=.of A34 H
def LK(a:Int)(b:Rw)(c d:Int):St:=⟨aM 22 [(3,vU a),(6,vL 1 b),(7,vN c),(8,vN d)],[],[]⟩
def A58:bq:={an:=[(4,2,ah)],cut:=[(3,{bl:=[3,6,7,8]})]}
def W58(a:Rw){r h}(H:Lp f58 0 (LK 0 a (a.length:Int) 0) 0 r h):
  ak 58 [vL 1 a] [] r h:=.of func58 A58 H
def VF(b:Int)(c:Rw)(d a:Int){r h}(H:ay (decide (a<d)) (Yp c a fun e=>bh .i64 ((8:Int)*a)/\0<=((8:Int)*a)/\bh .i64 (a+1)/\Lp f58 0 (LK (cF .or .u64 b (IntKind.wrap .u64 ((IntKind.wrap .u64 e)*2^(min (Int.toNat ((8:Int)*a)) (IntKind.bits .u64))))) c d (a+1)) 0 r h)
 (Fi r h [vU b] [])):
  Lp f58 0 (LK b c d a) 0 r h:=.of A58 H
def aiZ:bq:={an:=[(1,4,aa),(1,5,aa),(3,1,ah),(3,6,ah)]}
def ai0(c d e f g i j k l a:Int){r h}(H:(4:Int)≠0/\ay (bif((Int.tmod a 4) !=0)then true else(decide (a>60))) (Fi r h [vW 0,vB false] [])
 (∃b,ak 177 [.agg [W c,W d,U e,U f,U g,U i,U j,U k,U l]] [] [vL 1 b] []/\(0<=a/\a<=(IntKind.wrap .u32 (a+4))/\(IntKind.wrap .u32 (a+4))<=(b.length:Int))/\∃m,ak 58 [vL 1 (List.drop (Int.toNat a) (List.take (Int.toNat (IntKind.wrap .u32 (a+4))) b))] [] [vU m] []/\Fi r h [vW (IntKind.wrap .u32 m),vB true] [])):
  ak 128 [.agg [W c,W d,U e,U f,U g,U i,U j,U k,U l],vW a] [] r h:=.of func128 aiZ H
def zW(a:Rw)(b c d e f g i:Int):St:=⟨aM 31 [(3,.own 0 0 1 a),(21,.agg [U b,U c,U d,U e,U f,U g]),(22,vN i)],[some 0],[]⟩
def aaJ:bq:={an:=[(1,3,{fz:=true,bA:=true}),(1,7,ah),(2,3,ah),(6,2,ah)],cut:=[(4,{bl:=[3,21,22],dw:=[(3,1)],owns:=[3]})]}
def ai1(d e f g i j k l m:Int){r h}(H:∃a,ak 242 [vU (IntKind.wrap .u64 d),vN 4] [] [.own 0 0 1 a] []/\∃b,ak 242 [vU (IntKind.wrap .u64 e),vN 4] [] [vL 1 b] []/\(a++b).length*1<=2^47/\∃c,ak 242 [vU f,vN 8] [] [vL 1 c] []/\((a++b)++c).length*1<=2^47/\Lp f177 0 (zW ((a++b)++c) g i j k l m 0) 0 r h):
  ak 177 [.agg [W d,W e,U f,U g,U i,U j,U k,U l,U m]] [] r h:=.of func177 aaJ H
def RZ(b:Rw)(c d e f g i a:Int){r h}(H:ay (decide (a<6)) (∃k,(0<=a/\a<6)/\([U c,U d,U e,U f,U g,U i]:List PV)[Int.toNat a]?=some (U k)/\∃j,ak 242 [vU k,vN 8] [] [vL 1 j] []/\(b++j).length*1<=2^47/\bh .i64 (a+1)/\Lp f177 0 (zW (b++j) c d e f g i (a+1)) 0 r h)
 (Fi r h [.own 0 0 1 b] [])):
  Lp f177 0 (zW b c d e f g i a) 0 r h:=.of aaJ H
def E9(a:Int)(b:Rw)(c d:Int):St:=⟨aM 21 [(0,vU a),(5,.own 0 0 1 b),(7,vN c),(8,vN d)],[some 0],[]⟩
def aaK:bq:={cut:=[(3,{bl:=[0,5,7,8],dw:=[(5,1)],owns:=[5]})]}
def ai2(a b:Int){r h}(H:Lp f242 0 (E9 a [] b 0) 0 r h):
  ak 242 [vU a,vN b] [] r h:=.of func242 aaK H
def R1(b:Int)(c:Rw)(d a:Int){r h}(H:ay (decide (a<d)) (bh .i64 ((8:Int)*a)/\0<=((8:Int)*a)/\(c++([[Y (IntKind.wrap .u8 (Int.fdiv b (2^(min (Int.toNat ((8:Int)*a)) (IntKind.bits .u64)))))]]:Rw)).length*1<=2^47/\bh .i64 (a+1)/\Lp f242 0 (E9 b (c++([[Y (IntKind.wrap .u8 (Int.fdiv b (2^(min (Int.toNat ((8:Int)*a)) (IntKind.bits .u64)))))]]:Rw)) d (a+1)) 0 r h)
 (Fi r h [.own 0 0 1 c] [])):
  Lp f242 0 (E9 b c d a) 0 r h:=.of aaK H
def gJ(l:List Int):Rw:=l.map fun n=>[Y n]
def kB(k:Int)(i:Int):Int:=IntKind.wrap .u8 (Int.fdiv k (2^(min (Int.toNat ((8:Int)*i)) (IntKind.bits .u32))))
def lK(x:In):List Int:=[IntKind.wrap .u8 x.code,IntKind.wrap .u8 (Int.fdiv x.code (2^(min (Int.toNat 8) (IntKind.bits .i64)))),IntKind.wrap .u8 x.jt,IntKind.wrap .u8 x.jf,kB x.k 0,kB x.k 1,kB x.k 2,kB x.k 3]
def fw:List In->List Int->Option (List Int)
 |[],a=>some a
 |x::t,a=>bif !jx x then none else fw t (a++lK x)
def aaL:Option (List Int)->List AV
 |none=>[vL 1 []]
 |some l=>[.own 0 0 1 (gJ l)]
def C32(l:List In)(m:l.length<=2^40):ak 32 [vL 4 (l.map In.row)] [] [vL 1 (gJ ((fw l []).getD []))] []:=by
 have key:∀(t:List In)(i:Nat)(a:List Int),l.drop i=t->a.length<=8*i->Lp f32 0 (LH (gJ a) (l.map In.row) l.length i) 0 (aaL (fw t a)) []:=by
  intro t;induction t with
  |nil=>intro i a b _;apply VB;exact aT (l:=l) rfl b fi
  |cons x t j=>
   intro i a b o;obtain⟨f,g,k⟩:=drop_cons b;have one:∀(z:List Int)(n:Int),gJ z++([[Y n]]:Rw)=gJ (z++[n]):=fun z n=>by simp[gJ]
   have hlen:∀z:List Int,(gJ z).length=z.length:=fun z=>ao ..
   apply VB;refine aO (l:=l) rfl b ⟨x.code,x.jt,x.jf,x.k,by omega,aY f,_,C57 x,ae (fun h=>ai (by rw[fw,h];rfl) rfl) fun h=>⟨by omega,by simp[gJ];omega,?_⟩⟩
   rw[fw,h];have c:∀(s:Nat)(z:List Int){r:List AV}{d:List Bx},s<4->z.length<=8*i+8->Lp f32 1 (Ht (gJ (z++[kB x.k s])) (l.map In.row) l.length i ((s:Int)+1) x.code x.jt x.jf x.k) 0 r d->Lp f32 1 (Ht (gJ z) (l.map In.row) l.length i s x.code x.jt x.jf x.k) 0 r d:=by
    intro s z r d p q K;apply VC;refine bF (bI (by omega)) ⟨aB,by omega,by simp[gJ];omega,aB,?_⟩
    rw[show IntKind.wrap .u8 (Int.fdiv x.k (2^(min (Int.toNat ((8:Int)*(s:Int))) (IntKind.bits .u32))))=kB x.k s from rfl,one]
    exact K
   have e:gJ a++([[Y (IntKind.wrap .u8 x.code)],[Y (IntKind.wrap .u8 (Int.fdiv x.code (2^(min (Int.toNat 8) (IntKind.bits .i64)))))],[Y (IntKind.wrap .u8 x.jt)],[Y (IntKind.wrap .u8 x.jf)]]:Rw)=gJ (a++[IntKind.wrap .u8 x.code,IntKind.wrap .u8 (Int.fdiv x.code (2^(min (Int.toNat 8) (IntKind.bits .i64)))),IntKind.wrap .u8 x.jt,IntKind.wrap .u8 x.jf]):=by simp[gJ]
   rw[e];refine c 0 _ (by omega) (by simp;omega) (c 1 _ (by omega) (by simp;omega) (c 2 _ (by omega) (by simp;omega) (c 3 _ (by omega) (by simp;omega) ?_)))
   apply VC;refine aW rfl ⟨aB,?_⟩;have:=j (i+1) (a++lK x) g (by simp[lK];omega)
   rw[show a++lK x=a++[IntKind.wrap .u8 x.code,IntKind.wrap .u8 (Int.fdiv x.code (2^(min (Int.toNat 8) (IntKind.bits .i64)))),IntKind.wrap .u8 x.jt,IntKind.wrap .u8 x.jf]++[kB x.k (0:Nat)]++[kB x.k (1:Nat)]++[kB x.k (2:Nat)]++[kB x.k (3:Nat)] by simp[lK]]at this⊢
   exact this
 have w:ak 32 [vL 4 (l.map In.row)] [] (aaL (fw l [])) []:=by
  apply W32;rw[ao];exact key l 0 [] rfl (by simp)
 cases hb:fw l []with
 |none=>rw[hb]at w;exact w
 |some z=>rw[hb]at w;exact Go.Ac.ak.soft w rfl
def Hw:List Int->Nat->Int->Int
 |[],_,n=>n
 |x::t,i,n=>Hw t (i+1) (cF .or .u64 n (IntKind.wrap .u64 ((IntKind.wrap .u64 x)*2^(min (Int.toNat ((8:Int)*i)) (IntKind.bits .u64)))))
def kM(b:List Int):Int:=Hw b 0 0
def C58(b:List Int)(j:b.length<=2^40):ak 58 [vL 1 (gJ b)] [] [vU (kM b)] []:=by
 have key:∀(t:List Int)(i:Nat)(n:Int),b.drop i=t->Lp f58 0 (LK n (gJ b) b.length i) 0 [vU (Hw t i n)] []:=by
  intro t;induction t with
  |nil=>intro i n a;apply VF;exact aT (l:=b) rfl a fi
  |cons x t e=>
   intro i n a;obtain⟨c,d,g⟩:=drop_cons a;apply VF;exact aO (l:=b) rfl a ⟨x,by omega,aY (f:=fun n=>[Y n]) c,aB,by omega,aB,e (i+1) _ d⟩
 apply W58;rw[show(gJ b).length=b.length from ao ..]
 exact key b 0 0 rfl
def zX(c x:Int)(i:Int):Int:=cF .or .u32 c (IntKind.wrap .u32 ((IntKind.wrap .u32 x)*2^(min (Int.toNat ((8:Int)*i)) (IntKind.bits .u32))))
def Uj(b:List Int):In:=⟨cF .or .i64 (IntKind.wrap .i64 (b.getD 0 0)) (IntKind.wrap .i64 ((IntKind.wrap .i64 (b.getD 1 0))*2^(min (Int.toNat 8) (IntKind.bits .i64)))),IntKind.wrap .i64 (b.getD 2 0),IntKind.wrap .i64 (b.getD 3 0),
 zX (zX (zX (zX 0 (b.getD 4 0) 0) (b.getD 5 0) 1) (b.getD 6 0) 2) (b.getD 7 0) 3⟩
def pO:Nat->List Int->List In->List In
 |0,_,a=>a
 |n+1,b,a=>bif decide ((b.length:Int)>0)then pO n (b.drop 8) (a++[Uj b])else a
def Hx(b:List Int):List In×Int:=bif(Int.tmod (b.length:Int) 8) !=0 then([],2)else(pO (b.length+1) b [],0)
def zY{b:List Int}{i:Nat}(h:i<b.length):(gJ b)[i]?=some [Y (b.getD i 0)]:=by
 rw[gJ,bp,bk h,bS,bk h];rfl
def C33(b:List Int)(m:b.length<=2^40):ak 33 [vL 1 (gJ b)] [] [vL 4 ((Hx b).1.map In.row),vN (Hx b).2] []:=by
 have hlen:∀z:List Int,(gJ z).length=z.length:=fun z=>ao ..
 have key:∀(n:Nat)(b:List Int)(a:List In),b.length<n->b.length%8=0->b.length+a.length<=2^41->Lp f33 0 (LI (gJ b) (a.map In.row)) 0 [.own 0 0 4 ((pO n b a).map In.row),vN 0] []:=by
  intro n;induction n with
  |zero=>intro b a h;omega
  |succ n l=>
   intro b a o k p;apply aaH;rw[hlen];refine ae (fun h=>?_) fun h=>ai (by rw[pO,h];rfl) rfl
   have q:=aN h;refine⟨_,by omega,zY (b:=b) (i:=0) (by omega),_,by omega,zY (b:=b) (i:=1) (by omega),by omega,_,by omega,zY (b:=b) (i:=2) (by omega),_,by omega,zY (b:=b) (i:=3) (by omega),?_⟩
   have d:∀(s:Nat)(c e f g:Int){r:List AV}{j:List Bx},s<4->Lp f33 1 (Hu (gJ b) (a.map In.row) ((s:Int)+1) c e f (zX g (b.getD (4+s) 0) s)) 0 r j->Lp f33 1 (Hu (gJ b) (a.map In.row) s c e f g) 0 r j:=by
    intro s c e f g r j t K;apply VD;exact bF (bI (by omega)) ⟨aB,b.getD (4+s) 0,by omega,by rw[show Int.toNat ((4:Int)+(s:Int))=4+s by omega];exact zY (by omega),aB,by omega,aB,K⟩
   refine d 0 _ _ _ _ (by omega) (d 1 _ _ _ _ (by omega) (d 2 _ _ _ _ (by omega) (d 3 _ _ _ _ (by omega) ?_)))
   apply VD;rw[hlen];refine aW rfl ⟨by simp;omega,⟨by omega,by omega,by omega⟩,?_⟩
   have:=l (b.drop 8) (a++[Uj b]) (by simp;omega) (by simp;omega) (by simp;omega)
   rw[pO,h,aj];rw[cg (l₁:=a) (l₂:=[Uj b])]at this;rw[show List.drop 8 (List.take b.length (gJ b))=gJ (b.drop 8) by rw[eU (by rw[hlen];exact ar _),gJ,gJ,od]]
   exact this
 have w:ak 33 [vL 1 (gJ b)] [] (bif(Int.tmod (b.length:Int) 8) !=0 then[vL 4 [],vN 2]else[.own 0 0 4 ((pO (b.length+1) b []).map In.row),vN 0]) []:=by
  apply W33;rw[hlen];refine⟨by omega,ae (fun h=>ai (by rw[h];rfl) rfl) fun h=>?_⟩
  rw[h];have k:b.length%8=0:=by
   rw[tY (by omega)]at h
   simp at h;omega
  exact key (b.length+1) b [] (by omega) k (by simp;omega)
 rw[Hx];cases h:(Int.tmod (b.length:Int) 8) !=0<;>rw[h]at w
 .exact Go.Ac.ak.soft w rfl
 .exact w
end Go.Ac.S4
end
