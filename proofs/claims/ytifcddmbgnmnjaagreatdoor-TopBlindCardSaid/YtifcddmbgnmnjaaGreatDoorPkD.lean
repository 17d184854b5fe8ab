/-
Part 4: lemmas; no conditions beyond those that they state.
-/
import Derived.Test.YtifcddmbgnmnjaaGreatDoorPkC
set_option linter.all false
set_option autoImplicit true
set_option relaxedAutoImplicit true
section
namespace Go.Ac.S4
open Go Go.Proofs Go.Proofs.Tryz Go.Ac
open Go.IntKind (wrap)
open Int (toNat tdiv tmod fdiv)
open List (drop take replicate)
set_option maxRecDepth 100000
def dc(a:By):Int×Bool:=
 bif a==[97,97,114,99,104,54,52]then(3221225655,true)else bif a==[105,51,56,54]then(1073741827,true)else bif a==[120,56,54,95,54,52]then(3221225534,true)else(0,false)
def C81(a:By):al 81 [vS a] [] [vW (dc a).1,vB (dc a).2] []:=
 W81 a (ad (fun h=>ai (by rw[dc,h];rfl) rfl) fun b=>ad (fun h=>ai (by rw[dc,b,h];rfl) rfl) fun c=>ad (fun h=>ai (by rw[dc,b,c,h];rfl) rfl) fun h=>ai (by rw[dc,b,c,h];rfl) rfl)
def nk:List By:=[[97,97,114,99,104,54,52],[105,51,56,54],[120,56,54,95,54,52]]
def ab3:al 277 [] [] [vL 1 (aI nk)] []:=ahJ fi
structure Row where
 name:By
 params:By
 n0:Int
 n1:Int
 n2:Int
def Row.row(r:Row):List PV:=[S r.name,S r.params,N r.n0,N r.n1,N r.n2]
def Row.nr(r:Row)(i:Nat):Int:=match i with|0=>r.n0|1=>r.n1|_=>r.n2
def lR:List Row:=[
 ⟨[98,114,107],[97,100,100,114],214,45,12⟩,
 ⟨[99,108,111,115,101],[102,100],57,6,3⟩,
 ⟨[100,117,112],[102,100],23,41,32⟩,
 ⟨[101,120,105,116],[99,111,100,101],93,1,60⟩,
 ⟨[101,120,105,116,95,103,114,111,117,112],[99,111,100,101],94,252,231⟩,
 ⟨[103,101,116,112,105,100],[],172,20,39⟩,
 ⟨[105,111,99,116,108],[102,100,32,114,101,113,117,101,115,116,32,97,114,103],29,54,16⟩,
 ⟨[107,105,108,108],[112,105,100,32,115,105,103],129,37,62⟩,
 ⟨[109,109,97,112],[97,100,100,114,32,108,101,110,32,112,114,111,116,32,102,108,97,103,115,32,102,100,32,111,102,102],222,90,9⟩,
 ⟨[109,112,114,111,116,101,99,116],[97,100,100,114,32,108,101,110,32,112,114,111,116],226,125,10⟩,
 ⟨[109,117,110,109,97,112],[97,100,100,114,32,108,101,110],215,91,11⟩,
 ⟨[111,112,101,110],[112,97,116,104,32,102,108,97,103,115,32,109,111,100,101],-1,5,2⟩,
 ⟨[111,112,101,110,97,116],[100,105,114,32,112,97,116,104,32,102,108,97,103,115,32,109,111,100,101],56,295,257⟩,
 ⟨[112,114,99,116,108],[111,112,116,105,111,110,32,97,32,98,32,99,32,100],167,172,157⟩,
 ⟨[114,101,97,100],[102,100,32,98,117,102,32,99,111,117,110,116],63,3,0⟩,
 ⟨[115,111,99,107,101,116],[102,97,109,105,108,121,32,116,121,112,101,32,112,114,111,116,111,99,111,108],198,359,41⟩,
 ⟨[119,114,105,116,101],[102,100,32,98,117,102,32,99,111,117,110,116],64,4,1⟩]
def ah8:al 278 [] [] [vL 5 (lR.map Row.row)] []:=ahL fi
structure Cl where
 name:By
 nr:Int
 params:List By
def Cl.row(c:Cl):List PV:=[S c.name,W c.nr,L 1 (aI c.params)]
abbrev clA(c:Cl):AV:=.agg [S c.name,W c.nr,L 1 (aI c.params)]
def kz(i:Nat):List Row->List Cl
 |[]=>[]
 |r::t=>bif r.nr i != -1 then⟨r.name,wrap .u32 (r.nr i),jA r.params⟩::kz i t else kz i t
def lS(aq:By):List Cl:=bif decide (idx (aq == ·) nk<0)then[]else kz (idx (aq == ·) nk).toNat lR
def Fx:∀(l:List α),idx p l<l.length
 |[]=>by simp[idx]
 |x::l=>by
  have:=Fx (p:=p) l;unfold idx;simp only[aE];cases p x<;>simp only[aj,af]
  .cases decide (idx p l<0)<;>simp only[aj,af]<;>omega
  .omega
def Fy:∀r∈lR,r.params.all (fun c=>c==32||(97<=c&&c<=122))=true/\r.params.length<=2^31:=by decide
def ah9(aq:By):al 219 [vS aq] [] [vL 3 ((lS aq).map Cl.row)] []:=by
 have key:∀(j:Nat),j<3->∀(t:List Row)(i:Nat)(a:List Cl),lR.drop i=t->a.length<=i->Ae (j:Int) (a.map Cl.row) (lR.map Row.row) (lR.map Row.row).length i [.own 0 0 3 ((a++kz j t).map Cl.row)] []:=by
  intro j k t;induction t with
  |nil=>
   intro i a b _;exact SF _ _ _ _ _ (aP (l:=lR) (by simp) b (ai (by simp[kz]) rfl))
  |cons x t f=>
   intro i a b o;obtain⟨c,d,g⟩:=drop_cons b;have e:=Fy x (aM c);have m:lR.length=17:=rfl;refine SF _ _ _ _ _ (aK (l:=lR) (by simp) b ⟨x.name,x.params,x.n0,x.n1,x.n2,by omega,aQ c,⟨by omega,by omega⟩,x.nr j,?_,ad (fun h=>⟨_,aet _ e.1 e.2,by simp;omega,aC,?_⟩) fun h=>⟨aC,?_⟩⟩)
   .match j,k with
    |0,_=>rfl
    |1,_=>rfl
    |2,_=>rfl
   .have:=f (i+1) (a++[⟨x.name,wrap .u32 (x.nr j),jA x.params⟩]) d (by simp;omega)
    rw[kz,h];rw[bp]at this;rw[bM (l₁:=a) (l₂:=[_])]at this;exact this
   .rw[kz,h]
    exact f (i+1) a d (by omega)
 have q:=Fx (p:=(aq == ·)) nk
 have g:nk.length=3:=rfl;cases h:decide (idx (aq == ·) nk<0)
 .refine Go.Ac.al.soft (r:=[.own 0 0 3 _]) ?_ rfl
  have n:=bI h;refine abS aq ⟨_,ab3,_,RI aq nk (by decide),aU h ⟨_,ah8,?_⟩⟩
  have:=key (idx (aq == ·) nk).toNat (by omega) lR 0 [] rfl (by simp)
  rw[show(((idx (aq == ·) nk).toNat:Nat):Int)=idx (aq == ·) nk by omega]at this
  rw[lS,h];exact this
 .exact abS aq ⟨_,ab3,_,RI aq nk (by decide),bt h (ai (by rw[lS,h];rfl) rfl)⟩
def kC(aq name:By):Option Cl:=(lS aq).find? fun c=>c.name==name
def H2(aq:By):(lS aq).length<=17:=by
 have:∀j l,(kz j l).length<=l.length:=by
  intro j l;induction l with
  |nil=>simp[kz]
  |cons r l a=>unfold kz;cases r.nr j != -1<;>simp only[aj,af,aE]<;>omega
 unfold lS;cases decide (idx (aq == ·) nk<0)
 .exact this _ lR
 .simp
def aia(aq name:By):al 155 [vS aq,vS name] [] [clA ((kC aq name).getD ⟨[],0,[]⟩),vB (kC aq name).isSome] []:=by
 have g:=H2 aq;refine ahD _ _ ⟨_,ah9 aq,_,QR _ _ (eQ (p:=fun c=>c.name==name) (l:=lS aq) (Hd:=fun i=>pL _ _ i name) (by omega) fun i r h b d=>Kx _ _ _ _ (eT (l:=lS aq) (by simp) (fun x a=>⟨x.name,x.nr,aI x.params,by omega,aQ a,_,ahH _ _ _ _ fi,b x a⟩) d)),ad (fun h=>?_) fun h=>?_⟩
 .exact ai (by rw[kC,zA (aV h)];rfl) rfl
 .have h:=bI h
  obtain⟨x,e,-,f⟩:=vc (p:=fun c=>c.name==name) (l:=lS aq) (by omega)
  exact⟨x.name,x.nr,aI x.params,by omega,by rw[bw,e];rfl,ai (by rw[kC,f];rfl) rfl⟩
def mp{α:Type}(key:α->By)(f:α->AV)(l:List α):List (PV×AV):=l.map fun x=>(S (key x),f x)
def dr{α:Type}(key:α->By)(l:List α)(k:By):Option α:=l.find? fun x=>k==key x
def iG{α:Type}(key:α->By)(x:α):List α->List α
 |[]=>[x]
 |y::l=>bif key x==key y then x::l else y::iG key x l
def H3{α:Type}(key:α->By)(k:By):List α->List α
 |[]=>[]
 |y::l=>bif k==key y then l else y::H3 key k l
def Li(a b:By):l0 (S a) (S b)=(a==b):=rfl
def jN(key:α->By)(f:α->AV)(k:By):∀(l:List α),cE (mp key f l) (S k)=(dr key l k).map f
 |[]=>rfl
 |x::l=>by
  have a:=jN key f k l;unfold mp dr at a⊢;rw[bH,cE,Li,cj];cases k==key x
  .exact a
  .rfl
def wT(key:α->By)(f:α->AV)(x:α):∀(l:List α),cw (mp key f l) (S (key x)) (f x)=mp key f (iG key x l)
 |[]=>rfl
 |y::l=>by
  have a:=wT key f x l;unfold mp at a⊢;rw[bH,cw,Li,iG];cases key x==key y
  .rw[aN (by decide),a];rfl
  .rfl
def SJ(key:α->By)(f:α->AV)(k:By):∀(l:List α),kW (mp key f l) (S k)=mp key f (H3 key k l)
 |[]=>rfl
 |y::l=>by
  have a:=SJ key f k l;unfold mp at a⊢;rw[bH,kW,Li,H3];cases k==key y
  .rw[aN (by decide),a];rfl
  .rfl
abbrev Kn:=By×Int×Int
abbrev Xg(m:List Kn):List (PV×AV):=mp (·.1) (fun p=>.agg [U p.2.1,N p.2.2]) m
def dt(m:List Kn):Ex->Int×Int
 |.mk k _ n v (x::y::_)=>bif k==7 then(v,0)else bif k==8 then
   (bif(dt m x).2 !=0 then dt m x else bif(dt m y).2 !=0 then dt m y else(cH .or .u64 (dt m x).1 (dt m y).1,0))else
   ((dr (·.1) m n).map (·.2)).getD (0,7)
 |.mk k _ n v _=>bif k==7 then(v,0)else((dr (·.1) m n).map (·.2)).getD (0,7)
def dW(m:List Kn)(e:Ex):Int×Int:=bif !gn e then(0,1)else dt m e
def OO(h:fA e=true):(e.kind==8)=false/\e.kids=[]:=by
 unfold fA at h;cases h1:fj e
 .rw[h1]at h
  cases h2:ej e
  .rw[h2]at h;simp at h
  .obtain⟨n,rfl⟩:=o4 h2;exact⟨rfl,rfl⟩
 .obtain⟨m,rfl⟩:=CJ h1;exact⟨rfl,rfl⟩
def H4(h:fA e=true):gn e=true:=by
 have:=(OO h).1;obtain⟨k,o,n,v,l⟩:=e;rw[yF (show(k==8)=false from this),h]
def H5(h:gn (.mk 8 o n v l)=true):∃x y,l=[x,y]/\gn x=true/\fA y=true:=by
 match l,h with
 |[x,y],h=>
  unfold gn at h;simp only[show((8:Int)==8)=true from rfl,aj]at h
  obtain⟨_,h⟩:=cg h;obtain⟨a,b⟩:=cg h;exact⟨x,y,rfl,b,a⟩
def Zu(m:List Kn):∀(d:Nat)(e:Ex),bK e<=d->gn e=true->al 214 [.mp 0,oz e] [.map 266 (Xg m)] [.agg [U (dt m e).1,N (dt m e).2]] [.map 266 (Xg m)]
 |0,e,h,_=>by rw[cI]at h;omega
 |d+1,e,h,i=>by
  obtain⟨k,o,n,v,l⟩:=e;apply ah4;refine ad (fun b=>ai ?_ rfl) fun b=>ad (fun c=>?_) fun c=>?_
  .have a:(k==7)=true:=b
   clear b h i;match l with
   |[]=>simp only[dt,a];rfl
   |[_]=>simp only[dt,a];rfl
   |_::_::_=>simp only[dt,a];rfl
  .obtain rfl:k=8:=eq_of_beq c
   obtain⟨x,y,rfl,t,u⟩:=H5 i;simp only[bK,ct]at h;have j:=Zu m d x (by omega) t
   have q:=Zu m d y (by omega) (H4 u)
   refine⟨x.kind,x.op,x.name,x.num,br x.kids,by omega,by rw[<-Ex.cp];rfl,_,_,j,ad (fun f=>ai ?_ rfl) fun f=>⟨y.kind,y.op,y.name,y.num,br y.kids,by omega,by rw[<-Ex.cp];rfl,_,_,q,ad (fun g=>ai ?_ rfl) fun g=>ai ?_ rfl⟩⟩
   .simp only[dt,f];rfl
   .simp only[dt,f,g];rfl
   .simp only[dt,f,g];rfl
  .have a:(k==7)=false:=b
   have w:(k==8)=false:=c;clear b c h i;have s:dt m (.mk k o n v l)=((dr (·.1) m n).map (·.2)).getD (0,7):=by
    match l with
    |[]=>simp only[dt,a];rfl
    |[_]=>simp only[dt,a];rfl
    |_::_::_=>simp only[dt,a,w];rfl
   rw[s];cases hg:dr (·.1) m n with
   |none=>exact .inl ⟨by rw[jN];show(dr _ m n).map _=none;rw[hg];rfl,fi⟩
   |some p=>exact .inr ⟨p.2.1,p.2.2,by rw[jN];show(dr _ m n).map _=_;rw[hg];rfl,fi⟩
def Zv(m:List Kn)(e:Ex)(a:rP e):al 152 [.mp 0,oz e] [.map 266 (Xg m)] [.agg [U (dW m e).1,N (dW m e).2]] [.map 266 (Xg m)]:=by
 apply ah2;exact⟨_,SG e a,ad (fun h=>ai (by rw[dW,h];rfl) rfl) fun h=>⟨_,_,Zu m _ e (ar _) (by simpa using h),ai (by rw[dW,h];rfl) rfl⟩⟩
def dD:List cT->List Kn->List Kn
 |[],m=>m
 |d::t,m=>dD t (match dr (·.1) m d.name with|none=>iG (·.1) (d.name,dW m d.ex) m|some _=>m)
def aib(l:List cT)(k:l.length<=2^40)(g:∀d∈l,rP d.ex):al 334 [vL 6 (l.map cT.row)] [] [.mp 0] [.map 266 (Xg (dD l []))]:=by
 have key:∀(t:List cT)(i:Nat)(m:List Kn),l.drop i=t->Lp f334 0 (Ah (l.map cT.row) l.length i (Xg m)) 0 [.mp 0] [.map 266 (Xg (dD t m))]:=by
  intro t;induction t with
  |nil=>intro i m b;exact SI _ _ _ _ (aP (l:=l) rfl b fi)
  |cons d t a=>
   intro i m b;obtain⟨c,e,j⟩:=drop_cons b;refine SI _ _ _ _ (aK (l:=l) rfl b ⟨d.name,d.ex.kind,d.ex.op,d.ex.name,d.ex.num,br d.ex.kids,by omega,(aQ c).trans (by rw[cT.row,Ex.cp]),?_⟩)
   have a:=a (i+1) (match dr (·.1) m d.name with|none=>iG (·.1) (d.name,dW m d.ex) m|some _=>m) e
   have f:=wT (α:=Kn) (·.1) (fun p=>.agg [U p.2.1,N p.2.2]) (d.name,dW m d.ex) m
   rw[dD];cases hg:dr (·.1) m d.name with
   |none=>
    rw[hg]at a;refine .inl ⟨by rw[jN,hg];rfl,_,_,Zv m _ (g d (aM c)),aC,?_⟩
    rw[f];exact a
   |some p=>
    rw[hg]at a;exact .inr ⟨p.2.1,p.2.2,by rw[jN,hg];rfl,aC,a⟩
 apply ah7;rw[ao];exact key l 0 [] rfl
def bX(l:List cT)(e:Ex):Int×Int:=dW (dD l []) e
def ab5(l:List cT)(e:Ex)(b:l.length<=2^40)(c:∀d∈l,rP d.ex)(a:rP e):al 281 [vL 6 (l.map cT.row),oz e] [] [vU (bX l e).1,vN (bX l e).2] []:=by
 apply ah6;exact⟨_,aib l b c,_,_,Zv _ e a,fi⟩
def iU:List cT->Int->List Int->List Kn->Except (Int×Int) (List Int)
 |[],_,a,_=>.ok a
 |d::t,i,a,m=>match dr (·.1) m d.name with
  |some _=>.error (i,8)
  |none=>bif(dW m d.ex).2 !=0 then .error (i,(dW m d.ex).2)else iU t (i+1) (a++[(dW m d.ex).1]) (iG (·.1) (d.name,dW m d.ex) m)
def oA(l:List cT):Except (Int×Int) (List Int):=iU l 0 [] []
def Ai:Except (Int×Int) (List Int)->List AV
 |.error (i,e)=>[vL 1 [],vN i,vN e]
 |.ok l=>[.own 0 0 1 (l.map fun n=>[U n]),vN (-1),vN 0]
def SK:Except (Int×Int) (List Int)->List AV
 |.error (i,e)=>[vL 1 [],vN i,vN e]
 |.ok l=>[vL 1 (l.map fun n=>[U n]),vN (-1),vN 0]
def aic(l:List cT)(s:l.length<=2^40)(k:∀d∈l,rP d.ex):al 103 [vL 6 (l.map cT.row)] [] (SK (oA l)) []:=by
 have key:∀(t:List cT)(i:Nat)(a:List Int)(m:List Kn),l.drop i=t->a.length<=i->Lp f103 0 (Fw (a.map fun n=>[U n]) (l.map cT.row) l.length i (Xg m)) 0 (Ai (iU t i a m)) []:=by
  intro t;induction t with
  |nil=>intro i a m b _;exact SH _ _ _ _ _ (aP (l:=l) rfl b fi)
  |cons d t o=>
   intro i a m b u;obtain⟨f,g,q⟩:=drop_cons b;have c:=Zv m _ (k d (aM f));refine SH _ _ _ _ _ (aK (l:=l) rfl b ⟨d.name,d.ex.kind,d.ex.op,d.ex.name,d.ex.num,br d.ex.kids,by omega,(aQ f).trans (by rw[cT.row,Ex.cp]),?_⟩)
   have j:=wT (α:=Kn) (·.1) (fun p=>.agg [U p.2.1,N p.2.2]) (d.name,dW m d.ex) m
   rw[iU];cases hg:dr (·.1) m d.name with
   |none=>
    refine .inl ⟨by rw[jN,hg];rfl,_,_,c,ad (fun e=>ai (by simp only[e];rfl) rfl) fun e=>⟨by simp;omega,aC,?_⟩⟩
    have:=o (i+1) (a++[(dW m d.ex).1]) (iG (·.1) (d.name,dW m d.ex) m) g (by simp;omega)
    rw[j];simp only[e,af];rw[bM]at this;exact this
   |some p=>exact .inr ⟨p.2.1,p.2.2,by rw[jN,hg];rfl,_,_,c,fi⟩
 have h:=key l 0 [] [] rfl (by simp)
 rw[oA];have w:al 103 [vL 6 (l.map cT.row)] [] (Ai (iU l 0 [] [])) []:=by
  apply ah0;rw[ao];exact h
 cases ht:iU l 0 [] []with
 |error p=>rw[ht]at w;exact w
 |ok p=>rw[ht]at w;exact Go.Ac.al.soft w rfl
def Fz(a b:Rw)(c d:Int)(e:Rw)(f g i:List (PV×AV)):St:=⟨aO 96 [(1,vL 1 a),(6,.aB 0 0),(25,vL 2 b),(26,vN c),(27,vN d)],[],[.aH [.mp 1,.mp 2,.mp 3,O 4 e],.map 272 f,.map 273 g,.map 274 i]⟩
def FA(a:Rw)(b c:Int)(d:Rw)(e f g:List (PV×AV)):St:=⟨aO 96 [(6,.aB 0 0),(50,vL 1 a),(51,vN b),(52,vN c)],[],[.aH [.mp 1,.mp 2,.mp 3,O 4 d],.map 272 e,.map 273 f,.map 274 g]⟩
abbrev Aj(a b:Rw)(c d:Int)r h:=Lp f104 2 ⟨aO 96 [(14,.own 0 0 4 a),(66,vL 4 b),(67,vN c),(68,vN d)],[some 0],[]⟩ 0 r h
abbrev Ak(a b:Rw)(c d:Int)(e:Rw)(f g:Int)(i:By)(j k:Int)(l:Rw)r h:=Lp f104 3 ⟨aO 96 [(14,.own 0 0 4 a),(17,.aB 0 0),(66,vL 4 b),(67,vN c),(68,vN d),(76,vL 3 e),(77,vN f),(78,vN g)],[some 0],[.aH [vS i,vN j,vN k,O 3 l]]⟩ 0 r h
def SL:bu:={an:=[(4,1,ah),(5,3,fg),(5,5,{fb:=some [4]}),(5,6,fh),(5,11,{fb:=some [5]}),(12,1,ah),(20,1,ah),(24,1,ah),(25,1,je),(25,2,fh),(25,3,ah),(25,7,je)],mod:=[(13,2,[(0,[3]),(2,[]),(3,[])])],cut:=[(11,{bl:=[6,50,51,52]}),(19,{bl:=[14,66,67,68],cW:=[(14,4)],owns:=[14]}),(23,{bl:=[14,17,66,67,68,76,77,78],cW:=[(14,4)],owns:=[14]}),(3,{bl:=[1,6,25,26,27]})]}
def aid(H:Lp f104 0 (Fz b a (a.length:Int) 0 [] [] [] []) 0 r h):
  al 104 [vL 2 a,vL 1 b] [] r h:=.of func104 SL H
def SM(b i j:List (PV×AV))(H:aw (decide (a<f)) (lO e a fun d m=>((cE b (S d)=none/\au (a+1)/\Lp f104 0 (Fz c e f (a+1) g (cw b (S d) (.agg [S d,L 4 m])) i j) 0 r h)\/(∃k l,cE b (S d)=some (.agg [S k,L 4 l])/\Fi r h [vL 4 [],vN 8] [])))
 (Lp f104 1 (FA c (c.length:Int) 0 g b i j) 0 r h)):
  Lp f104 0 (Fz c e f a g b i j) 0 r h:=.of SL H
def SN(c g i:List (PV×AV))(H:aw (decide (a<e)) (Ho d a fun m=>∃f j k l,al 153 [.aB 0 0,vS m] [.aH [.mp 1,.mp 2,.mp 3,O 4 b],.map 272 c,.map 273 g,.map 274 i] [vN f] [.aH [.mp 1,.mp 2,.mp 3,O 4 j],.map 272 c,.map 273 k,.map 274 l]/\aw (f !=0) (Fi r h [vL 4 [],vN f] [])
 (au (a+1)/\Lp f104 1 (FA d e (a+1) j c k l) 0 r h))
 (Aj [] b (b.length:Int) 0 r h)):
  Lp f104 1 (FA d e a b c g i) 0 r h:=.of SL H
def SO(H:aw (decide (a<d)) (gC c a fun i f g e=>Ak b c d a e (e.length:Int) 0 [] f g [] r h)
 (Fi r h [.own 0 0 4 b,vN 0] [])):
  Aj b c d a r h:=.of SL H
def SP(b:Rw)(H:aw (decide (a<l)) (pH k a fun p q s=>∃m n o,al 154 [.agg [S p,L 1 q,L 5 s]] [] [.agg [S m,L 1 n,L 5 o]] []/\(b++([[S m,L 1 n,L 5 o]]:Rw)).length*64<=2^47/\au (a+1)/\Ak c i j d k l (a+1) e f g (b++([[S m,L 1 n,L 5 o]]:Rw)) r h)
 ((c++([[S e,N f,N g,L 3 b]]:Rw)).length*56<=2^47/\au (d+1)/\Aj (c++([[S e,N f,N g,L 3 b]]:Rw)) i j (d+1) r h)):
  Ak c i j d k l a e f g b r h:=.of SL H
def Al(a:By)(b:Int)(c:Rw)(d e:Int)(f:Rw)(g i j:List (PV×AV)):St:=⟨aO 86 [(0,.aB 0 0),(1,vS a),(9,vN b),(56,vL 4 c),(57,vN d),(58,vN e)],[],[.aH [.mp 1,.mp 2,.mp 3,O 4 f],.map 272 g,.map 273 i,.map 274 j]⟩
def ab6:bu:={an:=[(13,1,ah),(19,12,{take:=true})],mod:=[(8,2,[(0,[3])]),(14,2,[(0,[3]),(2,[]),(3,[])])],cut:=[(12,{bl:=[0,1,9,56,57,58]})]}
def aie(b c a:List (PV×AV))(H:((cE b (S d)=none/\Fi r h [vN 7] [.aH [.mp 1,.mp 2,.mp 3,O 4 e],.map 272 b,.map 273 c,.map 274 a])\/(∃o f,cE b (S d)=some (.agg [S o,L 4 f])/\((cE c (S d)=none/\((cE a (S d)=none/\Lp f153 0 (Al d (e.length:Int) f (f.length:Int) 0 e b (cw c (S d) (vB true)) a) 4 r h)\/(∃g,cE a (S d)=some (O 4 g)/\∃i j,al 215 [.aB 0 0,vL 4 g] [.aH [.mp 1,.mp 2,.mp 3,O 4 e],.map 272 b,.map 273 c,.map 274 a] [vN i] [.aH [.mp 1,.mp 2,.mp 3,O 4 j],.map 272 b,.map 273 c,.map 274 a]/\Fi r h [vN i] [.aH [.mp 1,.mp 2,.mp 3,O 4 j],.map 272 b,.map 273 c,.map 274 a])))\/(∃k,cE c (S d)=some (vB k)/\aw k (Fi r h [vN 5] [.aH [.mp 1,.mp 2,.mp 3,O 4 e],.map 272 b,.map 273 c,.map 274 a])
 (((cE a (S d)=none/\Lp f153 0 (Al d (e.length:Int) f (f.length:Int) 0 e b (cw c (S d) (vB true)) a) 4 r h)\/(∃l,cE a (S d)=some (O 4 l)/\∃m n,al 215 [.aB 0 0,vL 4 l] [.aH [.mp 1,.mp 2,.mp 3,O 4 e],.map 272 b,.map 273 c,.map 274 a] [vN m] [.aH [.mp 1,.mp 2,.mp 3,O 4 n],.map 272 b,.map 273 c,.map 274 a]/\Fi r h [vN m] [.aH [.mp 1,.mp 2,.mp 3,O 4 n],.map 272 b,.map 273 c,.map 274 a])))))))):
  al 153 [.aB 0 0,vS d] [.aH [.mp 1,.mp 2,.mp 3,O 4 e],.map 272 b,.map 273 c,.map 274 a] r h:=.of func153 ab6 H
def SQ(c i j:List (PV×AV))(H:aw (decide (d<g)) (gC f d fun o p q s=>∃k l m n,al 216 [.aB 0 0,.agg [S o,N p,N q,L 3 s]] [.aH [.mp 1,.mp 2,.mp 3,O 4 a],.map 272 c,.map 273 i,.map 274 j] [vN k] [.aH [.mp 1,.mp 2,.mp 3,O 4 l],.map 272 c,.map 273 m,.map 274 n]/\aw (k !=0) (Fi r h [vN k] [.aH [.mp 1,.mp 2,.mp 3,O 4 l],.map 272 c,.map 273 m,.map 274 n])
 (au (d+1)/\Lp f153 0 (Al e b f g (d+1) l c m n) 4 r h))
 ((0<=b/\b<=(a.length:Int)/\(a.length:Int)<=(a.length:Int))/\(drop (toNat b) (take a.length a)).length*56<=2^47/\Fi r h [vN 0] [.aH [.mp 1,.mp 2,.mp 3,O 4 a],.map 272 c,.map 273 (kW i (S e)),.map 274 (cw j (S e) (O 4 (drop (toNat b) (take a.length a))))])):
  Lp f153 0 (Al e b f g d a c i j) 4 r h:=.of ab6 H
def aif:bu:={an:=[(1,4,{take:=true}),(1,9,{take:=true})]}
def aih(c d e:List (PV×AV))(H:(a++b).length*56<=2^47/\aw (decide (((a++b).length:Int)>500)) (Fi r h [vN 9] [.aH [.mp 1,.mp 2,.mp 3,O 4 (a++b)],.map 272 c,.map 273 d,.map 274 e])
 (Fi r h [vN 0] [.aH [.mp 1,.mp 2,.mp 3,O 4 (a++b)],.map 272 c,.map 273 d,.map 274 e])):
  al 215 [.aB 0 0,vL 4 b] [.aH [.mp 1,.mp 2,.mp 3,O 4 a],.map 272 c,.map 273 d,.map 274 e] r h:=.of func215 aif H
def aii:bu:={mod:=[(2,3,[(0,[3]),(2,[]),(3,[])]),(3,3,[(0,[3])])]}
def aij(a b c:List (PV×AV))(d:By)(H:aw (!(d==[])) (∃j k l m,al 153 [.aB 0 0,vS d] [.aH [.mp 1,.mp 2,.mp 3,O 4 e],.map 272 a,.map 273 b,.map 274 c] [vN j] [.aH [.mp 1,.mp 2,.mp 3,O 4 k],.map 272 a,.map 273 l,.map 274 m]/\Fi r h [vN j] [.aH [.mp 1,.mp 2,.mp 3,O 4 k],.map 272 a,.map 273 l,.map 274 m])
 (∃n o,al 215 [.aB 0 0,vL 4 [[S d,N f,N g,L 3 i]]] [.aH [.mp 1,.mp 2,.mp 3,O 4 e],.map 272 a,.map 273 b,.map 274 c] [vN n] [.aH [.mp 1,.mp 2,.mp 3,O 4 o],.map 272 a,.map 273 b,.map 274 c]/\Fi r h [vN n] [.aH [.mp 1,.mp 2,.mp 3,O 4 o],.map 272 a,.map 273 b,.map 274 c])):
  al 216 [.aB 0 0,.agg [S d,N f,N g,L 3 i]] [.aH [.mp 1,.mp 2,.mp 3,O 4 e],.map 272 a,.map 273 b,.map 274 c] r h:=.of func216 aii H
section
def aik(r:gu)(h:Af r):al 154 [qI r] [] [qI r] []:=by
 have d:∀e∈r.cond,bK e<=ct r.cond:=fun e a=>ei e a
 have b:∀l:List Ex,(∀e∈l,rP e)->ni l:=by
  intro l;induction l with
  |nil=>intro _;trivial
  |cons x l c=>intro h;exact⟨vr x (h x aX),c fun e a=>h e (aW _ a)⟩
 apply ahd;refine⟨_,Go.Ac.al.soft (aaU (aI r.params) (by have:=h.pl;simp[aI];omega)) rfl,br r.cond,?_,ai (by rw[dq]) rfl⟩
 rw[<-dq];exact ab0 _ r.cond (ar _) (b _ fun e a=>(h.cond e a).1) h.cl
structure Fs where
 w:List By
 kn:List (By×List cK)
 eY:List cK
abbrev fb(ps:List cL)(s:Fs):List Bx:=[.aH [.mp 1,.mp 2,.mp 3,O 4 (s.eY.map cK.row)],.map 272 (mp cL.name Lh ps),.map 273 (mp id (fun _=>vB true) s.w),.map 274 (mp (·.1) (fun p=>O 4 (p.2.map cK.row)) s.kn)]
def B2(s:Fs)(l:List cK):Int×Fs:=(bif decide (((s.eY++l).length:Int)>500)then 9 else 0,{s with eY:=s.eY++l})
def lT(rec:By->Fs->Int×Fs)(s:Fs)(x:cK):Int×Fs:=bif !(x.use==[])then rec x.use s else B2 s [x]
def gF(rec:By->Fs->Int×Fs):List cK->Fs->Int×Fs
 |[],s=>(0,s)
 |x::t,s=>bif(lT rec s x).1 !=0 then lT rec s x else gF rec t (lT rec s x).2
def H6(name:By)(n:Nat)(r:Int×Fs):Int×Fs:=bif r.1 !=0 then r else(0,{r.2 with w:=H3 id name r.2.w,kn:=iG (·.1) (name,r.2.eY.drop n) r.2.kn})
def kc(ps:List cL):Nat->By->Fs->Int×Fs
 |0,_,s=>(0,s)
 |n+1,name,s=>match dr cL.name ps name with
  |none=>(7,s)
  |some p=>match dr id s.w name with
   |some _=>(5,s)
   |none=>match dr (·.1) s.kn name with
    |some k=>B2 s k.2
    |none=>H6 name s.eY.length (gF (kc ps n) p.aT {s with w:=iG id name s.w})
structure PF (Q:cK->Prop) (s:Fs):Prop where
 len:s.eY.length<=500
 kn:∀k∈s.kn,k.2.length<=500/\∀x∈k.2,Q x
 eY:∀x∈s.eY,Q x
structure CK (Q:cK->Prop) (s s':Fs):Prop where
 w:s'.w=s.w
 ok:PF Q s'
 len:s.eY.length<=s'.eY.length
def vt:∀{l:List α},dr key l (key x)=none->iG key x l=l++[x]
 |[],_=>rfl
 |y::l,h=>by
  unfold dr at h;rw[cj]at h;unfold iG;cases hk:key x==key y<;>rw[hk]at h
  .simp only[af]
   rw[vt (l:=l) h];rfl
  .simp at h
def H7:∀{l:List By},dr id l k=none->H3 id k (iG id k l)=l
 |[],_=>by simp[iG,H3]
 |y::l,h=>by
  unfold dr at h;rw[cj]at h;unfold iG;cases hk:k==id y
  .rw[hk]at h
   rw[show(id k==id y)=false from hk,af]
   unfold H3;rw[hk,af,H7 (l:=l) h]
  .rw[hk]at h;simp at h
def vu:∀{l:List α}{y:α},y∈iG key x l->y=x\/y∈l
 |[],y,h=>by simp[iG]at h;exact .inl h
 |z::l,y,h=>by
  unfold iG at h;cases hk:key x==key z<;>rw[hk]at h
  .rw[af]at h
   rcases aZ.1 h with rfl|h
   .exact .inr aX
   .rcases vu h with h|h
    .exact .inl h
    .exact .inr (aW _ h)
  .rw[aj]at h
   rcases aZ.1 h with rfl|h
   .exact .inl rfl
   .exact .inr (aW _ h)
def np(h:dr key l k=some x):x∈l/\k=key x:=by
 unfold dr at h;exact⟨lx h,by have:=qP h;exact eq_of_beq this⟩
variable {Q:cK->Prop}
def CM(h:PF Q s)(c:∀x∈l,Q x)(b:(B2 s l).1=0):CK Q s (B2 s l).2:=by
 unfold B2 at b⊢;cases hd:decide (((s.eY++l).length:Int)>500)<;>rw[hd]at b
 .have:=bI hd
  refine⟨rfl,⟨by show(s.eY++l).length<=500;omega,h.kn,fun x a=>?_⟩,by simp⟩
  rcases bn.1 a with a|a
  .exact h.eY x a
  .exact c x a
 .simp at b
def Am(b:∀name s,PF Q s->(rec name s).1=0->CK Q s (rec name s).2){x:cK}(h:PF Q s)(c:x.use=[]->Q x)(a:(lT rec s x).1=0):CK Q s (lT rec s x).2:=by
 unfold lT at a⊢;cases hu : !(x.use==[])<;>rw[hu]at a
 .exact CM h (by simp;exact c (by simpa using hu)) a
 .exact b _ _ h a
def xF(d:∀name s,PF Q s->(rec name s).1=0->CK Q s (rec name s).2):∀(l:List cK)(s:Fs),PF Q s->(∀x∈l,x.use=[]->Q x)->(gF rec l s).1=0->CK Q s (gF rec l s).2
 |[],s,h,_,_=>⟨rfl,h,ar _⟩
 |x::t,s,h,e,a=>by
  unfold gF at a⊢;cases hz:(lT rec s x).1 !=0<;>rw[hz]at a
  .have b:=Am d h (e x aX) (by simpa using hz)
   have c:=xF d t _ b.ok (fun y f=>e y (aW _ f)) a
   exact⟨c.w.trans b.w,c.ok,dR b.len c.len⟩
  .rw[aj]at a
   rw[a]at hz;simp at hz
def sP(ps:List cL)(e:∀p∈ps,∀x∈p.aT,x.use=[]->Q x):∀(n:Nat)(name:By)(s:Fs),PF Q s->(kc ps n name s).1=0->CK Q s (kc ps n name s).2
 |0,_,s,h,_=>⟨rfl,h,ar _⟩
 |n+1,name,s,h,a=>by
  unfold kc at a⊢;cases hp:dr cL.name ps name with
  |none=>rw[hp]at a;simp at a
  |some p=>
   have f:=(np hp).1;rw[hp]at a;simp only at a⊢;cases hw:dr id s.w name with
   |some y=>rw[hw]at a;simp at a
   |none=>
    rw[hw]at a;simp only at a⊢;cases c:dr (·.1) s.kn name with
    |some k=>
     rw[c]at a;exact CM h (fun x d=>(h.kn k (np c).1).2 x d) a
    |none=>
     rw[c]at a;simp only at a⊢;unfold H6 at a⊢;cases hz:(gF (kc ps n) p.aT {s with w:=iG id name s.w}).1 !=0<;>rw[hz]at a
     .have b:=xF (Q:=Q) (sP ps e n) p.aT {s with w:=iG id name s.w} ⟨h.len,h.kn,h.eY⟩ (e p f) (by simpa using hz)
      refine⟨?_,⟨b.ok.len,fun k c=>?_,b.ok.eY⟩,b.len⟩
      .show H3 id name (gF (kc ps n) p.aT {s with w:=iG id name s.w}).2.w=s.w
       rw[b.w];exact H7 hw
      .rcases vu c with rfl|c
       .have:=b.ok.len
        exact⟨by simp;omega,fun x d=>b.ok.eY x (uA d)⟩
       .exact b.ok.kn k c
     .rw[aj]at a
      rw[a]at hz;simp at hz
def H8(ps:List cL)(w:List By):Nat:=ps.countP fun p=>(dr id w p.name).isNone
def SR:∀{ps:List cL}{w:List By}{name:By}{p:cL},p∈ps->p.name=name->dr id w name=none->H8 ps (iG id name w)<H8 ps w:=by
 intro ps w name p a d c;rw[show iG id name w=w++[name]from vt (key:=id) (x:=name) c]
 have mono:∀q:cL,(dr id (w++[name]) q.name).isNone=true->(dr id w q.name).isNone=true:=by
  intro q b;unfold dr at b⊢;rw[List.find?_append]at b;cases hf:w.find? (fun x=>q.name==id x)
  .rfl
  .rw[hf]at b;simp at b
 unfold H8;induction ps with
 |nil=>simp at a
 |cons q ps e=>
  rw[List.countP_cons,List.countP_cons];have f:ps.countP (fun p=>(dr id (w++[name]) p.name).isNone)<=ps.countP fun p=>(dr id w p.name).isNone:=List.countP_mono_left fun x _ h=>mono x h
  rcases aZ.1 a with rfl|a
  .rw[d,c]
   have:(dr id (w++[name]) name).isNone=false:=by
    unfold dr at c⊢;rw[List.find?_append,c];simp
   rw[this];simp;omega
  .have:=e a
   have:=mono q;cases ha:(dr id (w++[name]) q.name).isNone
   .simp;omega
   .rw[this ha];simp;omega
def ab7(ps:List cL)(s:Fs)(l:List cK)(h:s.eY.length<=500)(a:l.length<=500):al 215 [.aB 0 0,vL 4 (l.map cK.row)] (fb ps s) [vN (B2 s l).1] (fb ps (B2 s l).2):=by
 have e:s.eY.map cK.row++l.map cK.row=(s.eY++l).map cK.row:=by rw[bM]
 apply aih;rw[e,ao];exact⟨by simp;omega,ad (fun h=>ai (by rw[B2,h];rfl) rfl) fun h=>ai (by rw[B2,h];rfl) rfl⟩
def ail(ps:List cL)(s:Fs)(x:cK)(h:s.eY.length<=500)(b:al 153 [.aB 0 0,vS x.use] (fb ps s) [vN (rec x.use s).1] (fb ps (rec x.use s).2))(c:True):
  al 216 [.aB 0 0,OM x] (fb ps s) [vN (lT rec s x).1] (fb ps (lT rec s x).2):=by
 apply aij;exact ad (fun a=>⟨_,_,_,_,b,ai (by rw[lT,a];rfl) (by rw[lT,a];rfl)⟩) fun a=>⟨_,_,ab7 ps s [x] h (by simp),ai (by rw[lT,a];rfl) (by rw[lT,a];rfl)⟩
def ab8(ps:List cL)(e:∀p∈ps,∀x∈p.aT,x.use=[]->Q x)(o:∀p∈ps,p.aT.length<=2^40):∀(n:Nat)(name:By)(s:Fs),H8 ps s.w<n->PF Q s ->
  al 153 [.aB 0 0,vS name] (fb ps s) [vN (kc ps n name s).1] (fb ps (kc ps n name s).2)
 |0,_,_,h,_=>absurd h (by omega)
 |n+1,name,s,K,h=>by
  apply aie;cases hp:dr cL.name ps name with
  |none=>exact .inl ⟨by rw[jN,hp];rfl,ai (by rw[kc,hp]) (by rw[kc,hp])⟩
  |some p=>
   refine .inr ⟨p.name,p.aT.map cK.row,by rw[jN,hp];rfl,?_⟩
   cases hw:dr id s.w name with
   |some y=>exact .inr ⟨true,by rw[jN,hw];rfl,bt rfl (ai (by rw[kc,hp,hw]) (by rw[kc,hp,hw]))⟩
   |none=>
    refine .inl ⟨by rw[jN,hw];rfl,?_⟩
    cases hk:dr (·.1) s.kn name with
    |some k=>
     have I:=h.kn k (np hk).1;exact .inr ⟨k.2.map cK.row,by rw[jN,hk];rfl,_,_,ab7 ps s k.2 h.len I.1,ai (by rw[kc,hp,hw];simp only[hk]) (by rw[kc,hp,hw];simp only[hk];rfl)⟩
    |none=>
     refine .inl ⟨by rw[jN,hk];rfl,?_⟩
     have d:=np hp;have M:=SR d.1 d.2.symm hw;have u:=wT (α:=By) id (fun _=>vB true) name s.w
     have v:kc ps (n+1) name s=H6 name s.eY.length (gF (kc ps n) p.aT {s with w:=iG id name s.w}):=by rw[kc,hp,hw];simp only[hk]
     rw[v];have T:=o p d.1;have key:∀(t:List cK)(i:Nat)(z:Fs),p.aT.drop i=t->z.w=iG id name s.w->PF Q z->s.eY.length<=z.eY.length ->
       Lp f153 0 (Al name (s.eY.length:Int) (p.aT.map cK.row) p.aT.length i (z.eY.map cK.row) (mp cL.name Lh ps) (mp id (fun _=>vB true) z.w) (mp (·.1) (fun p=>O 4 (p.2.map cK.row)) z.kn)) 4 [vN (H6 name s.eY.length (gF (kc ps n) t z)).1] (fb ps (H6 name s.eY.length (gF (kc ps n) t z)).2):=by
      intro t;induction t with
      |nil=>
       intro i z c g b q;apply SQ;have X:=b.len;have r:=wT (α:=By×List cK) (·.1) (fun p=>O 4 (p.2.map cK.row)) (name,z.eY.drop s.eY.length) z.kn
       have D:=SJ (α:=By) id (fun _=>vB true) name z.w
       have j:drop (toNat ((s.eY.length:Nat):Int)) (take (z.eY.map cK.row).length (z.eY.map cK.row))=(z.eY.drop s.eY.length).map cK.row:=by
        rw[dH (ar _),toNat_cast,mR]
       refine aP (l:=p.aT) rfl c ⟨⟨by omega,by simp;omega,by omega⟩,?_,ai rfl ?_⟩
       .rw[j];simp;omega
       .rw[j,D,r];rfl
      |cons x t H=>
       intro i z c g b q;obtain⟨m,E,J⟩:=drop_cons c;have G:=aM m;apply SQ;refine aK (l:=p.aT) rfl c ⟨x.use,x.act.kind,x.act.data,x.bj.map gu.row,by omega,aQ m,_,_,_,_,ail ps z x b.len (ab8 ps e o n x.use z (by rw[g];omega) b) trivial,ad (fun a=>ai ?_ ?_) fun a=>⟨aC,?_⟩⟩
       .rw[gF,a];simp only[aj,H6,a]
       .rw[gF,a];simp only[aj,H6,a]
       .have f:=Am (Q:=Q) (sP ps e n) b (e p d.1 x G) (by simpa using a)
        rw[gF,a];exact H (i+1) _ E (f.w.trans g) f.ok (dR q f.len)
     have:=key p.aT 0 {s with w:=iG id name s.w} rfl rfl ⟨h.len,h.kn,h.eY⟩ (ar _);rw[ao,ao];rw[show mp id (fun _=>vB true) (iG id name s.w)=cw (mp id (fun _=>vB true) s.w) (S name) (vB true)from u.symm]at this
     exact this
def H9:List cL->List cL->Bool
 |[],_=>false
 |p::t,pre=>match dr cL.name pre p.name with
  |some _=>true
  |none=>H9 t (pre++[p])
def fk(ps:List cL):List By->Fs->Int×Fs
 |[],s=>(0,s)
 |x::t,s=>bif(kc ps (ps.length+1) x s).1 !=0 then kc ps (ps.length+1) x s else fk ps t (kc ps (ps.length+1) x s).2
def nq(p:cK):cK:=⟨[],p.act,p.bj⟩
def ns(ps:List cL)(names:List By):Except Int (List cK):=
 bif H9 ps []then .error 8 else bif(fk ps names ⟨[],[],[]⟩).1 !=0 then .error (fk ps names ⟨[],[],[]⟩).1 else .ok ((fk ps names ⟨[],[],[]⟩).2.eY.map nq)
def rQ:Except Int (List cK)->List AV
 |.error e=>[vL 4 [],vN e]
 |.ok l=>[.own 0 0 4 (l.map cK.row),vN 0]
def My:Except Int (List cK)->List AV
 |.error e=>[vL 4 [],vN e]
 |.ok l=>[vL 4 (l.map cK.row),vN 0]
def rR(ps:List cL)(b:∀p∈ps,∀x∈p.aT,x.use=[]->Q x):∀(l:List By)(s:Fs),PF Q s->(fk ps l s).1=0->PF Q (fk ps l s).2
 |[],s,h,_=>h
 |x::t,s,h,a=>by
  unfold fk at a⊢;cases hz:(kc ps (ps.length+1) x s).1 !=0<;>rw[hz]at a
  .exact rR ps b t _ (sP ps b _ _ _ h (by simpa using hz)).ok a
  .rw[aj]at a
   rw[a]at hz;simp at hz
def Vx(d:List cK)(c:List cK)(j:Nat)(p:cK)(g:∀r∈p.bj,Af r)(o:p.bj.length<=2^40)(K:Aj ((d++[nq p]).map cK.row) (c.map cK.row) c.length (j+1) r h)(n:j<=2^40)(s:d.length<=2^40):
  Ak (d.map cK.row) (c.map cK.row) c.length j (p.bj.map gu.row) p.bj.length 0 [] p.act.kind p.act.data [] r h:=by
 have key:∀(t:List gu)(i:Nat)(q:List gu),p.bj.drop i=t->q=p.bj.take i->Ak (d.map cK.row) (c.map cK.row) c.length j (p.bj.map gu.row) p.bj.length i [] p.act.kind p.act.data (q.map gu.row) r h:=by
  intro t;induction t with
  |nil=>
   intro i q a b;have:=drop_nil a;rw[dH this]at b;subst b;apply SP;refine aP (l:=p.bj) rfl a ⟨by simp;omega,aC,?_⟩
   rw[bM]at K;exact K
  |cons x t k=>
   intro i q a b;obtain⟨e,f,m⟩:=drop_cons a;have u:q.length<=i:=by rw[b];simp;omega
   apply SP;refine aK (l:=p.bj) rfl a ⟨x.call,aI x.params,x.cond.map Ex.row,by omega,aQ e,_,_,_,aik x (g x (aM e)),by simp;omega,aC,?_⟩
   have:=k (i+1) (q++[x]) f (by rw[b,eO,e];rfl)
   rw[bM]at this;exact this
 exact key p.bj 0 [] rfl rfl
def aim(ps:List cL)(names:List By)(o:∀p∈ps,∀x∈p.aT,x.use=[]->xD x)(D:∀p∈ps,p.aT.length<=2^40)(M:ps.length<=2^40)(I:names.length<=2^40):
  al 104 [vL 2 (ps.map cL.row),vL 1 (aI names)] [] (My (ns ps names)) []:=by
 have H:∀(c:List cK),(∀x∈c,xD x)->c.length<=500->∀(t:List cK)(i:Nat)(d:List cK),c.drop i=t->d=(c.take i).map nq->Aj (d.map cK.row) (c.map cK.row) c.length i [.own 0 0 4 ((c.map nq).map cK.row),vN 0] []:=by
  intro c h J t;induction t with
  |nil=>
   intro i d a g;have:=drop_nil a;rw[dH this]at g;subst g;apply SO;exact aP (l:=c) rfl a fi
  |cons x t k=>
   intro i d a g;obtain⟨b,e,n⟩:=drop_cons a;have v:=h x (aM b);have K:d.length<=i:=by rw[g];simp;omega
   apply SO;refine aK (l:=c) rfl a ⟨x.use,x.act.kind,x.act.data,x.bj.map gu.row,by omega,aQ b,?_⟩
   simp only[ao];exact Vx d c i x v.bj (dR v.rl (by omega)) (k (i+1) (d++[nq x]) e (by rw[g,eO,b];simp)) (by omega) (by omega)
 have G:∀(t:List By)(i:Nat)(s:Fs),names.drop i=t->PF xD s->s.w=[]->Lp f104 1 (FA (aI names) names.length i (s.eY.map cK.row) (mp cL.name Lh ps) (mp id (fun _=>vB true) s.w) (mp (·.1) (fun p=>O 4 (p.2.map cK.row)) s.kn)) 0
   (rQ (bif(fk ps t s).1 !=0 then .error (fk ps t s).1 else .ok ((fk ps t s).2.eY.map nq))) []:=by
  intro t;induction t with
  |nil=>
   intro i s a j u;apply SN;refine aP (l:=names) rfl a ?_;rw[ao];exact H s.eY j.eY j.len s.eY 0 [] rfl rfl
  |cons x t k=>
   intro i s a j u;obtain⟨b,e,n⟩:=drop_cons a;apply SN;have r:H8 ps s.w<ps.length+1:=Nat.lt_succ_of_le List.countP_le_length;refine aK (l:=names) rfl a ⟨x,by omega,aQ b,_,_,_,_,ab8 ps o D _ x s r j,ad (fun f=>ai ?_ rfl) fun f=>⟨aC,?_⟩⟩
   .rw[fk,f];simp only[aj,f];rfl
   .have y:=sP ps o _ x s j (by simpa using f)
    rw[fk,f];exact k (i+1) _ e y.ok (y.w.trans u)
 have E:∀(t:List cL)(i:Nat),ps.drop i=t->Lp f104 0 (Fz (aI names) (ps.map cL.row) ps.length i [] (mp cL.name Lh (ps.take i)) [] []) 0
   (rQ (bif H9 t (ps.take i)then .error 8 else bif(fk ps names ⟨[],[],[]⟩).1 !=0 then .error (fk ps names ⟨[],[],[]⟩).1 else .ok ((fk ps names ⟨[],[],[]⟩).2.eY.map nq))) []:=by
  intro t;induction t with
  |nil=>
   intro i a;have:=drop_nil a;rw[dH this];apply SM;refine aP (l:=ps) rfl a ?_;rw[show(aI names).length=names.length from ao ..]
   exact G names 0 ⟨[],[],[]⟩ rfl ⟨by simp,by simp,by simp⟩ rfl
  |cons p t k=>
   intro i a;obtain⟨b,e,n⟩:=drop_cons a;have m:ps.take (i+1)=ps.take i++[p]:=by rw[eO,b];rfl
   apply SM;refine aK (l:=ps) rfl a ⟨p.name,p.aT.map cK.row,by omega,aQ b,?_⟩
   have z:=wT (α:=cL) cL.name Lh p (ps.take i);rw[H9];cases hg:dr cL.name (ps.take i) p.name with
   |none=>
    refine .inl ⟨by rw[jN,hg];rfl,aC,?_⟩
    have:=k (i+1) e;rw[m,<-vt (key:=cL.name) hg,<-z,vt (key:=cL.name) hg]at this;exact this
   |some q=>exact .inr ⟨q.name,q.aT.map cK.row,by rw[jN,hg];rfl,fi⟩
 have w:al 104 [vL 2 (ps.map cL.row),vL 1 (aI names)] [] (rQ (ns ps names)) []:=by
  apply aid;rw[ao];exact E ps 0 rfl
 cases m:ns ps names with
 |error p=>rw[m]at w;exact w
 |ok p=>rw[m]at w;exact Go.Ac.al.soft w rfl
end
abbrev Mz(a:By)(b c:Rw)(d e:Int)(f g i:Rw)(j k:Int)r h:=Lp f79 0 ⟨aO 85 [(1,vS a),(2,.aB 0 0),(13,.own 0 0 9 b),(53,vL 4 c),(54,vN d),(55,vN e)],[some 0],[.aH [vL 6 f,vL 2 g,vL 1 i,vN j,vN k]]⟩ 0 r h
abbrev MA(a:By)(b c:Rw)(d e:Int)(f:Rw)(g i:Int)(j k l:Rw)(m n:Int)(o:By)(p q:Int)(s:Rw)r h:=Lp f79 1 ⟨aO 85 [(1,vS a),(2,.aB 0 0),(13,.own 0 0 9 b),(15,.aB 1 0),(53,vL 4 c),(54,vN d),(55,vN e),(60,vL 3 f),(61,vN g),(62,vN i)],[some 0],[.aH [vL 6 j,vL 2 k,vL 1 l,vN m,vN n],.aH [vS o,vN p,vN q,vL 3 s]]⟩ 0 r h
def A79:bu:={an:=[(1,1,ah),(2,4,ah),(4,2,ah),(7,4,ah),(13,1,ah),(16,1,ah),(17,5,ah)],cut:=[(12,{bl:=[1,2,13,53,54,55],cW:=[(13,9)],owns:=[13]}),(15,{bl:=[1,2,13,15,53,54,55,60,61,62],cW:=[(13,9)],owns:=[13]})]}
def W79(H:Gw 81 [vS f] [] fun o m=>aw (!m) (Fi r h [vL 9 [],vN 1] []) (cc 102 [.agg [L 6 a,L 2 b,L 1 c,N d,N e]] [] fun n=>aw (!n) (Fi r h [vL 9 [],vN 1] [])
 (∃k l g,al 103 [vL 6 a] [] [vL 1 k,vN l,vN g] []/\aw (g !=0) (Fi r h [vL 9 [],vN g] [])
 (Qq 104 [vL 2 b,vL 1 c] [] fun i j=>aw (j !=0) (Fi r h [vL 9 [],vN j] [])
 (Mz f [] i (i.length:Int) 0 a b c d e r h))))):
  al 79 [.agg [L 6 a,L 2 b,L 1 c,N d,N e],vS f] [] r h:=.of func79 A79 H
def Xh(H:aw (decide (a<d)) (gC c a fun m n o e=>MA f b c d a e (e.length:Int) 0 g i j k l m n o e r h)
 (Fi r h [.own 0 0 9 b,vN 0] [])):
  Mz f b c d a g i j k l r h:=.of A79 H
def Xi(c k:Rw)(H:aw (decide (a<n)) (pH m a fun I J K=>∃q s t u v w x y z D,al 105 [.agg [L 6 e,L 2 f,L 1 g,N i,N j],vS b,.agg [S I,L 1 J,L 5 K],.agg [N o,N p]] [] [.agg [W q,N s,N t,N u,N v,N w,U x,U y,L 6 z],vN D] []/\aw (D !=0) (Fi r h [vL 9 [],vN D] [])
 ((c++([[W q,N s,N t,N u,N v,N w,U x,U y,L 6 z]]:Rw)).length*88<=2^47/\au (a+1)/\MA b (c++([[W q,N s,N t,N u,N v,N w,U x,U y,L 6 z]]:Rw)) k l d m n (a+1) e f g i j E o p G r h))
 (au (d+1)/\Mz b c k l (d+1) e f g i j r h)):
  MA b c k l d m n a e f g i j E o p G r h:=.of A79 H
abbrev FB(a b:Rw)(c d:Int)(e f g:Rw)(i j k l m n o p q s:Int)(t:Rw)(u v w x y z D E:Int)(G:Rw)r h:=Lp f105 0 ⟨aO 66 [(4,.aB 0 0),(8,.aB 1 0),(12,vL 1 a),(14,.aB 2 0),(43,vL 5 b),(44,vN c),(45,vN d)],[],[.aH [vL 6 e,vL 2 f,vL 1 g,vN i,vN j],K4 k l m n o p q s t,K9 u v w x y z D E G]⟩ 0 r h
def ab9:bu:={an:=[(1,3,ah),(4,2,ah),(10,1,ah)],cut:=[(9,{bl:=[4,8,12,14,43,44,45],wc:=[(2,8)]})]}
def aio(H:∃o c p q,al 155 [vS k,vS b] [] [.agg [S o,W c,L 1 p],vB q] []/\aw (!q) (Fi r h [.agg [W 0,N 0,N 0,N 0,N 0,N 0,U 0,U 0,L 6 []],vN 7] [])
 (∃s d,al 156 [.agg [S b,L 1 l,L 5 a],.agg [S o,W c,L 1 p]] [] [vL 1 s,vN d] []/\aw (d !=0) (Fi r h [.agg [W 0,N 0,N 0,N 0,N 0,N 0,U 0,U 0,L 6 []],vN d] [])
 (FB s a (a.length:Int) 0 e f g i j 0 0 0 0 0 0 0 0 [] c m n 1 0 0 0 0 [] r h))):
  al 105 [.agg [L 6 e,L 2 f,L 1 g,N i,N j],vS k,.agg [S b,L 1 l,L 5 a],.agg [N m,N n]] [] r h:=.of func105 ab9 H
def SS(H:aw (decide (a<e)) (bq d a fun Y Z F A R=>∃J K M Q T X j,al 157 [.aB 0 0,.agg [N Y,S Z,S F,U A,L 5 R]] [.aH [vL 6 c,vL 1 b]] [.agg [N J,N K,N M,U Q,U T,L 6 X],vN j] [.aH [vL 6 c,vL 1 b]]/\aw (j !=0) (Fi r h [.agg [W 0,N 0,N 0,N 0,N 0,N 0,U 0,U 0,L 6 []],vN j] [])
 (au (a+1)/\FB b d e (a+1) c k l m n o p q s t u v w x f g i J K M Q T X r h))
 (Fi r h [.agg [W f,N g,N i,N y,N z,N D,U E,U G,L 6 I],vN 0] [])):
  FB b d e a c k l m n o p q s t u v w x f g i y z D E G I r h:=.of ab9 H
abbrev FC(a:Rw)(b c:Int)(d:By)(e f:Rw)(g:By)(i:Int)(j:Rw)r h:=Lp f156 0 ⟨aO 40 [(2,.aB 0 0),(3,.aB 1 0),(16,vL 1 a),(17,vN b),(18,vN c)],[],[.aH [vS d,vL 1 e,vL 5 f],.aH [vS g,vW i,vL 1 j]]⟩ 0 r h
def aca:bu:={an:=[(5,2,ah),(6,5,ah),(9,2,{fz:=true,bD:=true})],cut:=[(4,{bl:=[2,3,16,17,18]})]}
def acb(H:aw (decide ((a.length:Int)>(b.length:Int))) (Fi r h [vL 1 [],vN 9] [])
 (FC a (a.length:Int) 0 c a d e f b r h)):
  al 156 [.agg [S c,L 1 a,L 5 d],.agg [S e,W f,L 1 b]] [] r h:=.of func156 aca H
def SU(a i:Rw)(H:aw (decide (c<e)) (Ho d c fun l=>(0<=(0:Int)/\(0:Int)<=c/\c<=(a.length:Int))/\cc 203 [vL 1 (drop 0 (take (toNat c) a)),vS l] [] fun m=>aw m (Fi r h [vL 1 [],vN 8] [])
 (au (c+1)/\FC d e (c+1) g a i j k b r h))
 (∃f,al 217 [vL 1 a] [] [.own 0 0 1 f] []/\(0<=(a.length:Int)/\(a.length:Int)<=(b.length:Int)/\(b.length:Int)<=(b.length:Int))/\(f++(drop (toNat (a.length:Int)) (take b.length b))).length*16<=2^47/\Fi r h [.own 0 0 1 (f++(drop (toNat (a.length:Int)) (take b.length b))),vN 0] [])):
  FC d e c g a i j k b r h:=.of aca H
abbrev tJ(a:Rw)(b c:Int)(d e:Rw)(f g i j k:Int)(l:Rw)(m n o p q:Int)(s:Rw)r h:=Lp f157 0 ⟨aO 53 [(0,.aB 0 0),(4,.aB 1 0),(6,.aB 2 0),(29,vL 5 a),(30,vN b),(31,vN c)],[],[.aH [vL 6 d,vL 1 e],K6 f g i j k l,K6 m n o p q s]⟩ 1 r h
def acd:bu:={an:=[(11,1,ah),(15,1,{take:=true}),(15,6,{take:=true})],cut:=[(10,{bl:=[0,4,6,29,30,31]})]}
def aip(H:aw (d==4) (∃i j k l m n o,al 222 [.aB 0 0,.agg [N d,S e,S f,U g,L 5 a]] [.aH [vL 6 b,vL 1 c]] [.agg [N i,N j,N k,U l,U m,L 6 n],vN o] [.aH [vL 6 b,vL 1 c]]/\Fi r h [.agg [N i,N j,N k,U l,U m,L 6 n],vN o] [.aH [vL 6 b,vL 1 c]])
 (aw (d==1) (tJ a (a.length:Int) 0 b c 0 0 0 0 0 [] 4 0 0 0 0 [] r h)
 (aw (d==2) (tJ a (a.length:Int) 0 b c 0 0 0 0 0 [] 3 0 0 0 0 [] r h)
 (tJ a (a.length:Int) 0 b c 0 0 0 0 0 [] 2 0 0 0 0 [] r h)))):
  al 157 [.aB 0 0,.agg [N d,S e,S f,U g,L 5 a]] [.aH [vL 6 b,vL 1 c]] r h:=.of func157 acd H
def SV(d:Rw)(H:aw (decide (c<f)) (bq e c fun D E G I J=>∃m n o p q s t,al 157 [.aB 0 0,.agg [N D,S E,S G,U I,L 5 J]] [.aH [vL 6 a,vL 1 b]] [.agg [N m,N n,N o,U p,U q,L 6 s],vN t] [.aH [vL 6 a,vL 1 b]]/\aw (t !=0) (Fi r h [.agg [N 0,N 0,N 0,U 0,U 0,L 6 []],vN t] [.aH [vL 6 a,vL 1 b]])
 ((d++([[N m,N n,N o,U p,U q,L 6 s]]:Rw)).length*64<=2^47/\au (c+1)/\tJ e f (c+1) a b u v w x y z g i j k l (d++([[N m,N n,N o,U p,U q,L 6 s]]:Rw)) r h))
 (Fi r h [.agg [N g,N i,N j,U k,U l,L 6 d],vN 0] [.aH [vL 6 a,vL 1 b]])):
  tJ e f c a b u v w x y z g i j k l d r h:=.of acd H
def aiq:bu:={an:=[(1,3,ah),(2,3,fg),(2,5,{fb:=some [3]}),(2,6,ah),(2,8,fh),(2,9,ah),(2,12,{fb:=some [4]}),(6,7,ah),(6,8,ah),(10,7,ah),(10,8,ah)]}
def air(H:bq c 0 fun n X o Y p=>kL 267 [vL 1 b,vS o] [] fun d=>kL 280 [vS e] [] fun f=>aw (decide (d<0)) (Fi r h [.agg [N 0,N 0,N 0,U 0,U 0,L 6 []],vN 7] [.aH [vL 6 a,vL 1 b]])
 (aw (n==6) (bq p 0 fun q s t u v=>UG 281 [vL 6 a,.agg [N q,S s,S t,U u,L 5 v]] [] fun w g=>aw (g !=0) (Fi r h [.agg [N 0,N 0,N 0,U 0,U 0,L 6 []],vN g] [.aH [vL 6 a,vL 1 b]])
 (bq c 1 fun x y z D E=>UG 281 [vL 6 a,.agg [N x,S y,S z,U D,L 5 E]] [] fun G i=>aw (i !=0) (Fi r h [.agg [N 0,N 0,N 0,U 0,U 0,L 6 []],vN i] [.aH [vL 6 a,vL 1 b]])
 (Fi r h [.agg [N 5,N d,N f,U w,U G,L 6 []],vN 0] [.aH [vL 6 a,vL 1 b]])))
 (bq c 1 fun I J K M Q=>UG 281 [vL 6 a,.agg [N I,S J,S K,U M,L 5 Q]] [] fun T j=>aw (j !=0) (Fi r h [.agg [N 0,N 0,N 0,U 0,U 0,L 6 []],vN j] [.aH [vL 6 a,vL 1 b]])
 (Fi r h [.agg [N 5,N d,N f,U 18446744073709551615,U T,L 6 []],vN 0] [.aH [vL 6 a,vL 1 b]])))):
  al 222 [.aB 0 0,.agg [N k,S e,S l,U m,L 5 c]] [.aH [vL 6 a,vL 1 b]] r h:=.of func222 aiq H
def ais:bu:={an:=[(1,2,ah)]}
def ait(a:By)(H:kL 267 [vL 1 [[S [61,61]],[S [33,61]],[S [60]],[S [60,61]],[S [62]],[S [62,61]]],vS a] [] fun b=>au ((1:Int)+b)/\Fi r h [vN ((1:Int)+b)] []):
  al 280 [vS a] [] r h:=.of func280 ais H
inductive Cn where
 |mk (kind arg op mask value:Int) (kids:List Cn)
mutual
def Cn.row:Cn->List PV
 |.mk k a o m v l=>[N k,N a,N o,U m,U v,L 6 (cZ l)]
def cZ:List Cn->Rw
 |[]=>[]
 |e::l=>e.row::cZ l
end
def Cn.kind:Cn->Int|.mk k _ _ _ _ _=>k
def Cn.arg:Cn->Int|.mk _ a _ _ _ _=>a
def Cn.op:Cn->Int|.mk _ _ o _ _ _=>o
def Cn.mask:Cn->Int|.mk _ _ _ m _ _=>m
def Cn.value:Cn->Int|.mk _ _ _ _ v _=>v
def Cn.kids:Cn->List Cn|.mk _ _ _ _ _ l=>l
def du:∀(l:List Cn),cZ l=l.map Cn.row
 |[]=>rfl
 |e::l=>by rw[cZ,du l];rfl
def Cn.cp(e:Cn):e.row=[N e.kind,N e.arg,N e.op,U e.mask,U e.value,L 6 (cZ e.kids)]:=by cases e;rfl
abbrev v7(c:Cn):AV:=.agg [N c.kind,N c.arg,N c.op,U c.mask,U c.value,L 6 (cZ c.kids)]
def x9:Cn:=.mk 0 0 0 0 0 []
def Vy(s:By):Int:=1+idx (s == ·) ops
def aiu(s:By):al 280 [vS s] [] [vN (Vy s)] []:=by
 have:=Fx (p:=(s == ·)) ops
 have:=wC (s == ·) ops
 have:ops.length=6:=rfl;exact ait s ⟨_,RI s ops (by decide),aC,fi⟩
def oB(a:List cT)(i o mask:Int)(y:Ex):Cn×Int:=bif(bX a y).2 !=0 then(x9,(bX a y).2)else(.mk 5 i o mask (bX a y).1 [],0)
def jb(a:List cT)(ps:List By):Ex->Cn×Int
 |.mk _ o _ _ (x::y::_)=>bif decide (idx (x.name == ·) ps<0)then(x9,7)else
  bif x.kind==6 then(bif(bX a (kM x 0)).2 !=0 then(x9,(bX a (kM x 0)).2)else oB a (idx (x.name == ·) ps) (Vy o) (bX a (kM x 0)).1 y)else oB a (idx (x.name == ·) ps) (Vy o) 18446744073709551615 y
 |_=>(x9,7)
mutual
def dM(a:List cT)(ps:List By):Ex->Cn×Int
 |.mk k o n v l=>bif k==4 then jb a ps (.mk k o n v l)else gT a ps l [] (bif k==1 then 4 else bif k==2 then 3 else 2)
def gT(a:List cT)(ps:List By):List Ex->List Cn->Int->Cn×Int
 |[],b,k=>(.mk k 0 0 0 0 b,0)
 |x::t,b,k=>bif(dM a ps x).2 !=0 then(x9,(dM a ps x).2)else gT a ps t (b++[(dM a ps x).1]) k
end
def MB(h:cu (.mk 4 o n v l)=true):∃x y,l=[x,y]/\n=[]/\v=0/\fW o ops=true/\jY x=true/\gn y=true:=by
 match l,h with
 |[x,y],h=>
  obtain⟨-,h⟩:=cg (b:=(4:Int)==4) (show(bif(4:Int)==4 then(bif iF (.mk 4 o n v [x,y])then(bif fW o ops then(bif jY x then gn y else false)else false)else false)else false)=true from h)
  obtain⟨a,h⟩:=cg h;obtain⟨c,h⟩:=cg h;obtain⟨d,e⟩:=cg h;obtain⟨o',g,i,f⟩:=sO a;obtain⟨-,-,rfl,rfl,-⟩:=Ex.mk.inj f;exact⟨x,y,rfl,rfl,rfl,c,d,e⟩
def Ao(h:cu e=true)(b:(e.kind==4)=false):∀x∈e.kids,cu x=true:=by
 obtain⟨k,o,n,v,l⟩:=e;have f:(k==4)=false:=b;clear b;match l,h with
 |[x,y],h=>
  simp only[cu,f,af]at h;obtain⟨-,h⟩:=cg h;obtain⟨-,h⟩:=cg h;obtain⟨c,d⟩:=cg h;intro z a;rcases aZ.1 a with rfl|a
  .exact c
  .rw[cJ.1 a];exact d
 |[x],h=>
  simp only[cu]at h;obtain⟨-,h⟩:=cg h;obtain⟨-,h⟩:=cg h;intro z a;rw[cJ.1 a];exact h
def Ia(h:jY e=true)(a:(e.kind==6)=true):∃x,e.kids=[x]/\fA x=true:=by
 unfold jY at h;cases h1:ej e
 .rw[h1]at h
  cases h2:iE e
  .rw[h2]at h;simp at h
  .rw[h2]at h
   obtain⟨-,h⟩:=cg (show(bif bL e.name then fA (kM e 0)else false)=true from h)
   obtain⟨n,x,rfl⟩:=wQ h2;exact⟨x,rfl,h⟩
 .obtain⟨n,rfl⟩:=o4 h1
  simp[Ex.kind]at a
structure DOK (ds:List cT) (ps:List By):Prop where
 dl:ds.length<=2^40
 ds:∀d∈ds,rP d.ex
 ps:ps.length<=2^40
abbrev bb(a:List cT)(ps:List By):Bx:=.aH [vL 6 (a.map cT.row),vL 1 (aI ps)]
def aiv(a:List cT)(ps:List By)(b:DOK a ps)(e:Ex)(q:(e.kind==4)=true)(p:cu e=true)(s:rP e):al 222 [.aB 0 0,oz e] [bb a ps] [v7 (jb a ps e).1,vN (jb a ps e).2] [bb a ps]:=by
 obtain⟨k,o,n,v,l⟩:=e;obtain rfl:k=4:=eq_of_beq q;obtain⟨x,y,rfl,rfl,rfl,-,t,E⟩:=MB p;have m:=dU s.2.2.2;have u:=m x (by simp)
 have w:=m y (by simp)
 have g:=ab5 a y b.dl b.ds w;have fin:∀(i o mask:Int),aw ((bX a y).2 !=0) (Fi [v7 (oB a i o mask y).1,vN (oB a i o mask y).2] [bb a ps] [.agg [N 0,N 0,N 0,U 0,U 0,L 6 []],vN (bX a y).2] [bb a ps]) (Fi [v7 (oB a i o mask y).1,vN (oB a i o mask y).2] [bb a ps] [.agg [N 5,N i,N o,U mask,U (bX a y).1,L 6 []],vN 0] [bb a ps]):=
  fun i o mask=>ad (fun h=>ai (by rw[oB,h];rfl) rfl) fun h=>ai (by rw[oB,h];rfl) rfl
 apply air;refine⟨x.kind,x.op,x.name,x.num,br x.kids,by omega,by rw[<-Ex.cp];rfl,_,RI x.name ps b.ps,_,aiu o,ad (fun h=>ai (by simp only[jb,h];rfl) rfl) fun c=>ad (fun h=>?_) fun h=>?_⟩
 .obtain⟨z,f,D⟩:=Ia t h
  have j:kM x 0=z:=by rw[kM,f];rfl
  have r:=dU ((ky x).1 u).2.2.2 z (by rw[f];simp)
  refine⟨z.kind,z.op,z.name,z.num,br z.kids,by omega,by rw[f,<-Ex.cp];rfl,_,_,ab5 a z b.dl b.ds r,ad (fun d=>ai ?_ rfl) fun d=>⟨y.kind,y.op,y.name,y.num,br y.kids,by omega,by rw[<-Ex.cp];rfl,_,_,g,?_⟩⟩
  .simp only[jb,c,h,j,d];rfl
  .simp only[jb,c,h,j,d,aj,af]
   exact fin _ _ _
 .refine⟨y.kind,y.op,y.name,y.num,br y.kids,by omega,by rw[<-Ex.cp];rfl,_,_,g,?_⟩
  simp only[jb,c,h,af];exact fin _ _ _
def ace(a:List cT)(ps:List By)(s:DOK a ps):∀(d:Nat)(e:Ex),bK e<=d->cu e=true->rP e->al 157 [.aB 0 0,oz e] [bb a ps] [v7 (dM a ps e).1,vN (dM a ps e).2] [bb a ps]
 |0,e,h,_,_=>by rw[cI]at h;omega
 |d+1,e,h,q,u=>by
  have y:=(ky e).1 u;have loop:∀(k:Int),(e.kind==4)=false->tJ (br e.kids) (br e.kids).length 0 (a.map cT.row) (aI ps) 0 0 0 0 0 [] k 0 0 0 0 [] [v7 (gT a ps e.kids [] k).1,vN (gT a ps e.kids [] k).2] [bb a ps]:=by
   intro k b;have key:∀(t:List Ex)(i:Nat)(f:List Cn),e.kids.drop i=t->f.length<=i->tJ (br e.kids) e.kids.length i (a.map cT.row) (aI ps) 0 0 0 0 0 [] k 0 0 0 0 (cZ f) [v7 (gT a ps t f k).1,vN (gT a ps t f k).2] [bb a ps]:=by
    intro t;induction t with
    |nil=>intro i f m _;apply SV;exact aP (l:=e.kids) rfl m (ai (by rw[gT];rfl) rfl)
    |cons x t w=>
     intro i f m r;obtain⟨g,j,z⟩:=drop_cons m;have o:=aM g;have D:=ei x o;rw[cI e]at h;have c:=ace a ps s d x (by omega) (Ao q b x o) (dU y.2.2.2 x o)
     have p:cZ f++([[N (dM a ps x).1.kind,N (dM a ps x).1.arg,N (dM a ps x).1.op,U (dM a ps x).1.mask,U (dM a ps x).1.value,L 6 (cZ (dM a ps x).1.kids)]]:Rw)=cZ (f++[(dM a ps x).1]):=by
      rw[du f,du (f++[(dM a ps x).1]),bM,<-Cn.cp];rfl
     apply SV;refine aK (l:=e.kids) rfl m ⟨x.kind,x.op,x.name,x.num,br x.kids,by omega,by rw[dq,<-Ex.cp];exact aQ g,_,_,_,_,_,_,_,c,ad (fun n=>ai (by rw[gT,n];rfl) rfl) fun n=>⟨?_,aC,?_⟩⟩
     .rw[p,du];simp;omega
     .rw[p,gT,n]
      exact w (i+1) _ j (by simp;omega)
   rw[show(br e.kids).length=e.kids.length by rw[dq,ao]]
   exact key e.kids 0 [] rfl (by simp)
  apply aip;have v:dM a ps e=bif e.kind==4 then jb a ps e else gT a ps e.kids [] (bif e.kind==1 then 4 else bif e.kind==2 then 3 else 2):=by cases e;rfl
  rw[v];exact ad (fun b=>⟨_,_,_,_,_,_,_,aiv a ps s e b q u,ai (by rw[b];rfl) rfl⟩) fun b=>ad (fun g=>by rw[b,g];exact loop 4 b) fun g=>ad (fun j=>by rw[b,g,j];exact loop 3 b) fun j=>by rw[b,g,j];exact loop 2 b
def qJ:List By->List By->Bool
 |[],_=>false
 |x::t,pre=>bif fW x pre then true else qJ t (pre++[x])
def cR(r:gu)(c:Cl):List By×Int:=
 bif decide ((r.params.length:Int)>(c.params.length:Int))then([],9)else bif qJ r.params []then([],8)else(r.params++c.params.drop r.params.length,0)
def aiw(r:gu)(c:Cl)(h:Af r)(o:c.params.length<=2^40):al 156 [qI r,clA c] [] [vL 1 (aI (cR r c).1),vN (cR r c).2] []:=by
 have e:(aI r.params).length=r.params.length:=ao ..;have g:(aI c.params).length=c.params.length:=ao ..;have p:=h.pl;have f:drop (toNat ((aI r.params).length:Int)) (take (aI c.params).length (aI c.params))=aI (c.params.drop r.params.length):=by
  rw[dH (ar _),toNat_cast,e,aI,aI,mR]
 cases h1:decide ((r.params.length:Int)>(c.params.length:Int))
 .have hlen:=bI h1
  have key:∀(t:List By)(i:Nat),r.params.drop i=t->FC (aI r.params) r.params.length i r.call (aI r.params) (r.cond.map Ex.row) c.name c.nr (aI c.params) (bif qJ t (r.params.take i)then[vL 1 [],vN 8]else[.own 0 0 1 (aI (r.params++c.params.drop r.params.length)),vN 0]) []:=by
   intro t;induction t with
   |nil=>
    intro i b;apply SU;refine aP (l:=r.params) rfl b ⟨_,aaU (aI r.params) (by omega),⟨by omega,by omega,by omega⟩,?_,ai ?_ rfl⟩
    .rw[f];simp[aI];omega
    .rw[f];simp[aI,qJ]
   |cons x t m=>
    intro i b;obtain⟨a,k,n⟩:=drop_cons b;have j:drop 0 (take (toNat (i:Int)) (aI r.params))=aI (r.params.take i):=by rw[gh,toNat_cast,aI,aI,iq]
    apply SU;refine aK (l:=r.params) rfl b ⟨x,by omega,aQ a,⟨by omega,by omega,by omega⟩,_,by rw[j];exact Vq x (r.params.take i) (by simp;omega),ad (fun d=>ai (by rw[qJ,d];rfl) rfl) fun d=>⟨aC,?_⟩⟩
    have:=m (i+1) k;rw[eO,a]at this;rw[qJ,d];exact this
  have w:al 156 [qI r,clA c] [] (bif qJ r.params []then[vL 1 [],vN 8]else[.own 0 0 1 (aI (r.params++c.params.drop r.params.length)),vN 0]) []:=by
   apply acb;rw[e,g];exact aU h1 (key r.params 0 rfl)
  rw[cR,h1];cases a:qJ r.params []
  .rw[a]at w;exact Go.Ac.al.soft w rfl
  .rw[a]at w;exact w
 .apply acb
  rw[e,g];exact bt h1 (ai (by rw[cR,h1];rfl) rfl)
structure Bd where
 nr:Int
 act:Act
 cond:Cn
def Bd.row(b:Bd):List PV:=W b.nr::N b.act.kind::N b.act.data::b.cond.row
def bdC(b:Bd):List PV:=[W b.nr,N b.act.kind,N b.act.data,N b.cond.kind,N b.cond.arg,N b.cond.op,U b.cond.mask,U b.cond.value,L 6 (cZ b.cond.kids)]
def Bd.cp(b:Bd):b.row=bdC b:=by rw[Bd.row,Cn.cp];rfl
abbrev Zw(b:Bd):AV:=.agg [W b.nr,N b.act.kind,N b.act.data,N b.cond.kind,N b.cond.arg,N b.cond.op,U b.cond.mask,U b.cond.value,L 6 (cZ b.cond.kids)]
def OP:Bd:=⟨0,⟨0,0⟩,x9⟩
def kD(b:List cT)(ps:List By)(nr:Int)(a:Act):List Ex->Cn->Bd×Int
 |[],c=>(⟨nr,a,c⟩,0)
 |x::t,_=>bif(dM b ps x).2 !=0 then(OP,(dM b ps x).2)else kD b ps nr a t (dM b ps x).1
def ep(u:fH)(aq:By)(r:gu)(a:Act):Bd×Int:=match kC aq r.call with
 |none=>(OP,7)
 |some c=>bif(cR r c).2 !=0 then(OP,(cR r c).2)else kD u.aF (cR r c).1 c.nr a r.cond (.mk 1 0 0 0 0 [])
def Ib(h:kC aq name=some c):c.params.length<=6:=by
 have b:=lx h;have g:∀j l,(∀r∈l,(jA r.params).length<=6)->∀c∈kz j l,c.params.length<=6:=by
  intro j l;induction l with
  |nil=>intro _ c a;simp[kz]at a
  |cons r l f=>
   intro d c a;unfold kz at a;cases hz:r.nr j != -1<;>rw[hz]at a
   .exact f (fun r e=>d r (aW _ e)) c a
   .rcases aZ.1 a with rfl|a
    .exact d r aX
    .exact f (fun r e=>d r (aW _ e)) c a
 unfold lS at b;cases hz:decide (idx (aq == ·) nk<0)<;>rw[hz]at b
 .exact g _ lR (by decide) c b
 .simp at b
def xG(r:gu)(c:Cl)(h:r.params.length<=2^39)(a:c.params.length<=6):(cR r c).1.length<=2^40:=by
 unfold cR;cases decide ((r.params.length:Int)>(c.params.length:Int))
 .cases qJ r.params []
  .simp;omega
  .simp
 .simp
def aiy(u:fH)(aq:By)(r:gu)(a:Act)(n:oe u)(f:Af r)(s:∀e∈r.cond,cu e=true):
  al 105 [qg u,vS aq,qI r,zW a] [] [Zw (ep u aq r a).1,vN (ep u aq r a).2] []:=by
 apply aio;refine⟨_,_,_,_,aia aq r.call,?_⟩;cases hc:kC aq r.call with
 |none=>exact bt rfl (ai (by rw[ep,hc];rfl) rfl)
 |some c=>
  have q:=Ib hc;have w:=xG r c f.pl q;refine aU rfl ⟨_,_,aiw r c f (by omega),ad (fun g=>ai (by rw[ep,hc];simp only[g];rfl) rfl) fun g=>?_⟩
  have k:DOK u.aF (cR r c).1:=⟨n.dl,fun d k=>(n.aF d k).2,w⟩
  have h:=f.cl;have key:∀(t:List Ex)(i:Nat)(z:Cn),r.cond.drop i=t->FB (aI (cR r c).1) (r.cond.map Ex.row) r.cond.length i (u.aF.map cT.row) (u.aA.map cL.row) (aI u.main) u.bO.kind u.bO.data 0 0 0 0 0 0 0 0 [] c.nr a.kind a.data z.kind z.arg z.op z.mask z.value (cZ z.kids) [Zw (kD u.aF (cR r c).1 c.nr a t z).1,vN (kD u.aF (cR r c).1 c.nr a t z).2] []:=by
   intro t;induction t with
   |nil=>intro i z b;apply SS;exact aP (l:=r.cond) rfl b fi
   |cons x t v=>
    intro i z b;obtain⟨m,p,y⟩:=drop_cons b;have o:=aM m;apply SS;refine aK (l:=r.cond) rfl b ⟨x.kind,x.op,x.name,x.num,br x.kids,by omega,by rw[<-Ex.cp];exact aQ m,_,_,_,_,_,_,_,ace _ _ k _ x (ar _) (s x o) (f.cond x o).1,ad (fun j=>ai (by rw[kD,j];rfl) rfl) fun j=>⟨aC,?_⟩⟩
    rw[kD,j];exact v (i+1) _ p
  rw[ep,hc];simp only[g,af];rw[ao];exact key r.cond 0 (.mk 1 0 0 0 0 []) rfl
def iH(u:fH)(aq:By)(a:Act):List gu->List Bd->Except Int (List Bd)
 |[],b=>.ok b
 |r::t,b=>bif(ep u aq r a).2 !=0 then .error (ep u aq r a).2 else iH u aq a t (b++[(ep u aq r a).1])
def gp(u:fH)(aq:By):List cK->List Bd->Except Int (List Bd)
 |[],a=>.ok a
 |p::t,a=>match iH u aq p.act p.bj a with
  |.error e=>.error e
  |.ok o=>gp u aq t o
def eC(u:fH)(aq:By):Except Int (List Bd):=
 bif !(dc aq).2 then .error 1 else bif !ji u then .error 1 else match oA u.aF with
  |.error (_,e)=>.error e
  |.ok _=>match ns u.aA u.main with
   |.error e=>.error e
   |.ok l=>gp u aq l []
def OQ:Except Int (List Bd)->List AV
 |.error e=>[vL 9 [],vN e]
 |.ok l=>[.own 0 0 9 (l.map Bd.row),vN 0]
def acf:Except Int (List Bd)->List AV
 |.error e=>[vL 9 [],vN e]
 |.ok l=>[vL 9 (l.map Bd.row),vN 0]
structure PB (x:cK):Prop where
 sm:xD x
 bool:∀r∈x.bj,∀e∈r.cond,cu e=true
def MC(k:xD x)(c:kR x=true)(l:x.use=[]):PB x:=by
 refine⟨k,fun r j e i=>?_⟩
 unfold kR at c;rw[l]at c;have d:=(cg (show(bif(cd x.act).2 then x.bj.all lQ else false)=true from c)).2
 have f:=bf.1 d r j;have a:=(cg (b:=bL r.call) f).2;cases h4:(bif !(r.params.all bL)then true else decide ((r.cond.length:Int)>1))<;>rw[h4]at a
 .have g:=bf.1 a e i
  exact(cg (b:=cu e) g).1
 .simp at a
def Ap(u:fH)(aq:By)(a:Act):∀(t:List gu)(b o:List Bd),iH u aq a t b = .ok o->o.length=b.length+t.length
 |[],b,o,h=>by simp[iH]at h;simp[h]
 |r::t,b,o,h=>by
  unfold iH at h;cases hz:(ep u aq r a).2 !=0<;>rw[hz]at h
  .have:=Ap u aq a t _ o h
   simp at this⊢;omega
  .simp at h
def wU(h:oA l = .error (i,e)):(e !=0)=true:=by
 have:∀(l:List cT)(j:Int)(a:List Int)(m:List Kn),iU l j a m = .error (i,e)->(e !=0)=true:=by
  intro l;induction l with
  |nil=>intro j a m h;simp[iU]at h
  |cons d t b=>
   intro j a m h;unfold iU at h;cases hg:dr (·.1) m d.name with
   |some y=>rw[hg]at h;simp at h;rw[<-h.2];rfl
   |none=>
    rw[hg]at h;simp only at h;cases hz:(dW m d.ex).2 !=0<;>rw[hz]at h
    .exact b _ _ _ h
    .simp at h;rw[<-h.2];exact hz
 exact this l 0 [] [] h
def Ic(h:ns ps names = .error e):(e !=0)=true:=by
 unfold ns at h;cases hd:H9 ps []<;>rw[hd]at h
 .simp only[af]at h
  cases hz:(fk ps names ⟨[],[],[]⟩).1 !=0<;>rw[hz]at h
  .simp at h
  .simp at h;rw[<-h];exact hz
 .simp at h;rw[<-h];rfl
def Vz{ps:List cL}(b:∀p∈ps,∀x∈p.aT,x.use=[]->PB x)(h:ns ps names = .ok l):(∀x∈l,PB x)/\l.length<=500:=by
 unfold ns at h;cases hd:H9 ps []<;>rw[hd]at h
 .simp only[af]at h
  cases hz:(fk ps names ⟨[],[],[]⟩).1 !=0<;>rw[hz]at h
  .simp at h
   subst h;have:=rR (Q:=PB) ps b names ⟨[],[],[]⟩ ⟨by simp,by simp,by simp⟩ (by simpa using hz)
   refine⟨fun x c=>?_,by simpa using this.len⟩
   obtain⟨y,d,rfl⟩:=bh.1 c;have a:=this.eY y d;exact⟨⟨by simp[nq],a.sm.rl,a.sm.bj⟩,a.bool⟩
  .simp at h
 .simp at h
def C79(u:fH)(aq:By)(c:oe u):al 79 [qg u,vS aq] [] (acf (eC u aq)) []:=by
 have key:∀(l:List cK),(∀x∈l,PB x)->l.length<=500->∀(t:List cK)(j:Nat)(k:List Bd),l.drop j=t->k.length<=j*2^20 ->
   Mz aq (k.map Bd.row) (l.map cK.row) l.length j (u.aF.map cT.row) (u.aA.map cL.row) (aI u.main) u.bO.kind u.bO.data (OQ (gp u aq t k)) []:=by
  intro l D a0 t;induction t with
  |nil=>intro j k h _;apply Xh;exact aP (l:=l) rfl h fi
  |cons p t Z=>
   intro j k h R;obtain⟨f,g,K⟩:=drop_cons h;have a:=D p (aM f);have a1:=a.sm.rl;have inner:∀(s:List gu)(i:Nat)(z:List Bd),p.bj.drop i=s->z.length+s.length<=j*2^20+p.bj.length ->
     MA aq (z.map Bd.row) (l.map cK.row) l.length j (p.bj.map gu.row) p.bj.length i (u.aF.map cT.row) (u.aA.map cL.row) (aI u.main) u.bO.kind u.bO.data p.use p.act.kind p.act.data (p.bj.map gu.row) (OQ (match iH u aq p.act s z with|.error e=>.error e|.ok o=>gp u aq t o)) []:=by
    intro s;induction s with
    |nil=>
     intro i z n I;have:=drop_nil n;apply Xi;exact aP (l:=p.bj) rfl n ⟨aC,Z (j+1) z g (by
      have e:(j+1)*2^20=j*2^20+2^20:=by rw[bZ,cM]
      simp only[cN]at I;omega)⟩
    |cons r s A=>
     intro i z n I;obtain⟨Q,F,k3⟩:=drop_cons n;simp only[aE]at I;have E:=aM Q;apply Xi;refine aK (l:=p.bj) rfl n ⟨r.call,aI r.params,r.cond.map Ex.row,by omega,aQ Q,_,_,_,_,_,_,_,_,_,_,aiy u aq r p.act c (a.sm.bj r E) (a.bool r E),ad (fun m=>ai (by rw[iH,m];rfl) rfl) fun m=>⟨by simp;omega,aC,?_⟩⟩
     have:=A (i+1) (z++[(ep u aq r p.act).1]) F (by simp;omega)
     rw[iH,m];rw[bM (l₁:=z),show[(ep u aq r p.act).1].map Bd.row=[bdC (ep u aq r p.act).1] by rw[<-Bd.cp];rfl]at this
     exact this
   apply Xh;refine aK (l:=l) rfl h ⟨p.use,p.act.kind,p.act.data,p.bj.map gu.row,by omega,aQ f,?_⟩
   simp only[ao];exact inner p.bj 0 k rfl (by omega)
 have w:al 79 [qg u,vS aq] [] (OQ (eC u aq)) []:=by
  apply W79;refine⟨_,_,C81 aq,ad (fun f=>ai (by rw[eC,f];rfl) rfl) fun f=>⟨_,ahZ u c,ad (fun g=>ai (by rw[eC,f,g];rfl) rfl) fun g=>?_⟩⟩
  have E:ji u=true:=by simpa using g
  rw[eC,f,g];simp only[af];have y:=aic u.aF c.dl fun d Y=>(c.aF d Y).2
  have M:∀p∈u.aA,∀x∈p.aT,x.use=[]->PB x:=by
   intro p a x G J;have K:=(cg (show(bif u.aF.all Ag then(bif(bif u.aA.all wS then decide ((u.main.length:Int)>0)else false)then(bif u.main.all bL then(cd u.bO).2 else false)else false)else false)=true from E)).2
   have T:=(cg (cg K).1).1;have m:=bf.1 T p a;have X:=(cg (b:=bL p.name) m).2;exact MC ((c.aA p a).aT x G) (bf.1 X x G) J
  cases ht:oA u.aF with
  |error q=>
   rw[ht]at y;obtain⟨i,e⟩:=q;have H:(e !=0)=true:=wU ht;exact⟨_,_,_,y,bt H fi⟩
  |ok q=>
   rw[ht]at y;refine⟨_,_,_,y,aU rfl ?_⟩;have v:=aim u.aA u.main (fun p a x G J=>(M p a x G J).sm) (fun p a=>(c.aA p a).pl) c.pl c.ml
   simp only;cases hf:ns u.aA u.main with
   |error e=>
    rw[hf]at v;have H:(e !=0)=true:=Ic hf;exact⟨_,_,v,bt H fi⟩
   |ok l=>
    rw[hf]at v;have D:=Vz M hf;refine⟨_,_,v,aU rfl ?_⟩;rw[ao];exact key l D.1 D.2 l 0 [] rfl (by simp)
 cases ht:eC u aq with
 |error p=>rw[ht]at w;exact w
 |ok p=>rw[ht]at w;exact Go.Ac.al.soft w rfl
def aiz:bu:={an:=[(1,1,ah)]}
def aiA(H:cc 336 [.agg [N b,N c,N d,U e,U f,L 6 a]] [] fun g=>aw g (cc 337 [vL 6 a,.fn (.func 338) [] []] [] fun i=>Fi r h [vB (!i)] []) (Fi r h [vB false] [])):
  al 283 [.agg [N b,N c,N d,U e,U f,L 6 a]] [] r h:=.of func283 aiz H
def aiB:bu:={an:=[(1,3,aa),(1,4,aa),(1,7,aa),(1,8,aa),(1,11,aa),(1,12,aa)]}
def aiC(a b:Int)(H:Fi r h [vB (bif(bif(bif(decide (a>=0))then(decide (a<=5))else false)then(decide (b>=1))else false)then(decide (b<=6))else false)] []):
  al 286 [vN a,vN b] [] r h:=.of func286 aiB H
def aiD:bu:={an:=[(4,9,ah)]}
def aiE(H:aw (a==5) (aw ((f.length:Int)==0) (cc 286 [vN b,vN c] [] fun g=>Fi r h [vB g] []) (Fi r h [vB false] []))
 (aw (a==1) (aw ((f.length:Int)==0) (Fi r h [vB ((((true&&(b==0))&&(c==0))&&(d==0))&&(e==0))] []) (Fi r h [vB false] []))
 (aw (a==2) (aw ((f.length:Int)==1) (Fi r h [vB ((((true&&(b==0))&&(c==0))&&(d==0))&&(e==0))] []) (Fi r h [vB false] []))
 (aw (a==3) (Fi r h [vB ((((true&&(b==0))&&(c==0))&&(d==0))&&(e==0))] [])
 (aw (a==4) (Fi r h [vB ((((true&&(b==0))&&(c==0))&&(d==0))&&(e==0))] [])
 (Fi r h [vB false] [])))))):
  al 336 [.agg [N a,N b,N c,U d,U e,L 6 f]] [] r h:=.of func336 aiD H
def aiF:bu:={an:=[(1,1,ah)]}
def aiG(H:cc 283 [.agg [N a,N b,N c,U d,U e,L 6 f]] [] fun g=>Fi r h [vB (!g)] []):
  al 338 [.agg [N a,N b,N c,U d,U e,L 6 f]] [] r h:=.of func338 aiF H
def aiH:bu:={an:=[(1,1,ah),(3,1,ah)]}
def aiI(H:cc 283 [.agg [N a,N b,N c,U d,U e,L 6 f]] [] fun n=>aw (!n) (Fi r h [.agg [N 4,N 0,N 0,U 0,U 0,L 6 []]] [])
 (∃g i j k l m,al 284 [.agg [N a,N b,N c,U d,U e,L 6 f],vB true] [] [.agg [N g,N i,N j,U k,U l,L 6 m]] []/\Fi r h [.agg [N g,N i,N j,U k,U l,L 6 m]] [])):
  al 224 [.agg [N a,N b,N c,U d,U e,L 6 f]] [] r h:=.of func224 aiH H
def aiJ:bu:={an:=[(2,3,ah),(2,6,ah),(3,4,aa),(3,5,aa),(5,4,aa),(5,5,aa),(6,3,ah),(7,4,aa),(7,5,aa),(9,4,aa),(9,5,aa),(11,3,ah)]}
def aiK(H:aw (b==2) (sE c 0 fun t u v w x y=>∃i j k l m n,al 284 [.agg [N t,N u,N v,U w,U x,L 6 y],vB (!a)] [] [.agg [N i,N j,N k,U l,U m,L 6 n]] []/\Fi r h [.agg [N i,N j,N k,U l,U m,L 6 n]] [])
 (aw (bif(b==1)then(!a)else false) (Fi r h [.agg [N 4,N 0,N 0,U 0,U 0,L 6 []]] [])
 (aw (bif(b==5)then(!a)else false) (kL 339 [vN e] [] fun z=>∃o,al 340 [vL 6 c,vB a] [] [vL 6 o] []/\Fi r h [.agg [N b,N d,N z,U f,U g,L 6 o]] [])
 (aw (bif(b==3)then(!a)else false) (∃p,al 340 [vL 6 c,vB a] [] [vL 6 p] []/\Fi r h [.agg [N 4,N d,N e,U f,U g,L 6 p]] [])
 (aw (bif(b==4)then(!a)else false) (∃q,al 340 [vL 6 c,vB a] [] [vL 6 q] []/\Fi r h [.agg [N 3,N d,N e,U f,U g,L 6 q]] [])
 (∃s,al 340 [vL 6 c,vB a] [] [vL 6 s] []/\Fi r h [.agg [N b,N d,N e,U f,U g,L 6 s]] [])))))):
  al 284 [.agg [N b,N d,N e,U f,U g,L 6 c],vB a] [] r h:=.of func284 aiJ H
def aiL:bu:={}
def aiM(a:Int)(H:aw (a==1) (Fi r h [vN 2] [])
 (aw (a==2) (Fi r h [vN 1] [])
 (aw (a==3) (Fi r h [vN 6] [])
 (aw (a==6) (Fi r h [vN 3] [])
 (aw (a==5) (Fi r h [vN 4] [])
 (Fi r h [vN 5] [])))))):
  al 339 [vN a] [] r h:=.of func339 aiL H
abbrev FD(a:Bool)(b c:Rw)(d e:Int)r h:=Lp f340 0 ⟨aO 22 [(1,vB a),(5,.own 0 0 6 b),(8,vL 6 c),(9,vN d),(10,vN e)],[some 0],[]⟩ 0 r h
def acg:bu:={an:=[(4,1,ah),(5,3,ah)],cut:=[(3,{bl:=[1,5,8,9,10],cW:=[(5,6)],owns:=[5]})]}
def aiN(H:FD b [] a (a.length:Int) 0 r h):
  al 340 [vL 6 a,vB b] [] r h:=.of func340 acg H
def SW(c:Bool)(b d:Rw)(e a:Int)(H:aw (decide (a<e)) (sE d a fun m n o p q s=>∃f g i j k l,al 284 [.agg [N m,N n,N o,U p,U q,L 6 s],vB c] [] [.agg [N f,N g,N i,U j,U k,L 6 l]] []/\(b++([[N f,N g,N i,U j,U k,L 6 l]]:Rw)).length*64<=2^47/\au (a+1)/\FD c (b++([[N f,N g,N i,U j,U k,L 6 l]]:Rw)) d e (a+1) r h)
 (Fi r h [.own 0 0 6 b] [])):
  FD c b d e a r h:=.of acg H
def aiO:bu:={an:=[(1,1,ah),(1,2,ah)]}
def aiP(H:∃g i j k l m,al 224 [.agg [N a,N b,N c,U d,U e,L 6 f]] [] [.agg [N g,N i,N j,U k,U l,L 6 m]] []/\qZ8 223 [.agg [N g,N i,N j,U k,U l,L 6 m]] [] fun n o=>aw (!o) (Fi r h [vL 1 [],vN 9] [])
 (Fi r h [vL 1 n,vN 0] [])):
  al 159 [.agg [N a,N b,N c,U d,U e,L 6 f]] [] r h:=.of func159 aiO H
abbrev wV(a b:Rw)(c d e f g i j:Int)(k:Rw)r h:=Lp f223 0 ⟨aO 47 [(1,.aB 0 0),(4,.own 0 0 1 a),(22,vL 6 b),(23,vN c),(24,vN d)],[some 0],[K10 e f g i j k]⟩ 0 r h
def ach:bu:={an:=[(7,0,{bD:=true}),(10,1,ah),(11,1,ah),(14,4,{fz:=true,bD:=true,cons:=[1]})],cut:=[(9,{bl:=[1,4,22,23,24],cW:=[(4,1)],owns:=[4]})]}
def aiQ(H:aw (b==5) (Fi r h [vL 1 [[L 4 [[N c,N d,U e,U f]]]],vB true] [])
 (aw (b==1) (wV [[L 4 []]] a (a.length:Int) 0 b c d e f a r h)
 (aw (b==3) (wV [[L 4 []]] a (a.length:Int) 0 b c d e f a r h)
 (wV [] a (a.length:Int) 0 b c d e f a r h)))):
  al 223 [.agg [N b,N c,N d,U e,U f,L 6 a]] [] r h:=.of func223 ach H
def SX(b c:Rw)(H:aw (decide (a<d)) (sE c a fun n o p q s t=>qZ8 223 [.agg [N n,N o,N p,U q,U s,L 6 t]] [] fun u v=>aw (!v) (Fi r h [vL 1 [],vB false] [])
 (∃l m,al 282 [vN e,.own 0 0 1 b,vL 1 u] [] [.own 0 0 1 l,vB m] []/\aw (!m) (Fi r h [vL 1 [],vB false] [])
 (au (a+1)/\wV l c d (a+1) e f g i j k r h)))
 (Fi r h [.own 0 0 1 b,vB true] [])):
  wV b c d a e f g i j k r h:=.of ach H
abbrev FE(a b c:Rw)(d e:Int)r h:=Lp f225 0 ⟨aO 39 [(1,vL 1 a),(6,.own 0 0 1 b),(17,vL 1 c),(18,vN d),(19,vN e)],[some 0],[]⟩ 0 r h
abbrev FF(a b c d:Rw)(e f:Int)(g:Rw)(i j:Int)r h:=Lp f225 1 ⟨aO 39 [(1,vL 1 a),(6,.own 0 0 1 b),(8,vL 5 c),(17,vL 1 d),(18,vN e),(19,vN f),(23,vL 1 g),(24,vN i),(25,vN j)],[some 0],[]⟩ 0 r h
def Zx:bu:={an:=[(6,1,ah),(9,1,ah),(10,4,ah)],cut:=[(5,{bl:=[1,6,17,18,19],cW:=[(6,1)],owns:=[6]}),(8,{bl:=[1,6,8,17,18,19,23,24,25],cW:=[(6,1)],owns:=[6]})],rf:=true}
def aiR(H:au ((a.length:Int)*(b.length:Int))/\aw (decide (((a.length:Int)*(b.length:Int))>256)) (Fi r h [.own 0 0 1 [],vB false] [])
 (FE b [] a (a.length:Int) 0 r h)):
  al 225 [vL 1 a,vL 1 b] [] r h:=.of func225 Zx H
def SY(H:aw (decide (b<e)) (wB d b fun f=>FF a c f d e b a (a.length:Int) 0 r h)
 (Fi r h [.own 0 0 1 c,vB true] [])):
  FE a c d e b r h:=.of Zx H
def SZ(d b e f:Rw)(H:aw (decide (a<j)) (wB i a fun l=>Kq 285 [vL 1 [[L 5 e],[L 5 l]]] [] fun k=>(b++([[L 5 k]]:Rw)).length*24<=2^47/\au (a+1)/\FF d (b++([[L 5 k]]:Rw)) e f g c i j (a+1) r h)
 (au (c+1)/\FE d b f g (c+1) r h)):
  FF d b e f g c i j a r h:=.of Zx H
def aiS:bu:={an:=[(2,2,{fz:=true,bD:=true})]}
def aiT(H:aw (c==3) (∃d e,al 335 [vL 1 a,vL 1 b] [] [.own 0 0 1 d,vB e] []/\Fi r h [.own 0 0 1 d,vB e] [])
 ((a++b).length*24<=2^47/\Fi r h [.own 0 0 1 (a++b),vB (decide (((a++b).length:Int)<=256))] [])):
  al 282 [vN c,.own 0 0 1 a,vL 1 b] [] r h:=.of func282 aiS H
abbrev FG(a b c:Rw)(d e:Int)r h:=Lp f335 0 ⟨aO 39 [(1,vL 1 a),(6,.own 0 0 1 b),(17,vL 1 c),(18,vN d),(19,vN e)],[some 0],[]⟩ 0 r h
abbrev FH(a b c d:Rw)(e f:Int)(g:Rw)(i j:Int)r h:=Lp f335 1 ⟨aO 39 [(1,vL 1 a),(6,.own 0 0 1 b),(8,vL 4 c),(17,vL 1 d),(18,vN e),(19,vN f),(23,vL 1 g),(24,vN i),(25,vN j)],[some 0],[]⟩ 0 r h
def Zy:bu:={an:=[(6,1,ah),(9,1,ah),(10,4,ah)],cut:=[(5,{bl:=[1,6,17,18,19],cW:=[(6,1)],owns:=[6]}),(8,{bl:=[1,6,8,17,18,19,23,24,25],cW:=[(6,1)],owns:=[6]})],rf:=true}
def aiU(H:au ((a.length:Int)*(b.length:Int))/\aw (decide (((a.length:Int)*(b.length:Int))>256)) (Fi r h [.own 0 0 1 [],vB false] [])
 (FG b [] a (a.length:Int) 0 r h)):
  al 335 [vL 1 a,vL 1 b] [] r h:=.of func335 Zy H
def S0(H:aw (decide (b<e)) (Qt d b fun f=>FH a c f d e b a (a.length:Int) 0 r h)
 (Fi r h [.own 0 0 1 c,vB true] [])):
  FG a c d e b r h:=.of Zy H
def S1(d b e f:Rw)(H:aw (decide (a<j)) (Qt i a fun l=>∃k,al 358 [vL 1 [[L 4 e],[L 4 l]]] [] [vL 4 k] []/\(b++([[L 4 k]]:Rw)).length*24<=2^47/\au (a+1)/\FH d (b++([[L 4 k]]:Rw)) e f g c i j (a+1) r h)
 (au (c+1)/\FG d b f g (c+1) r h)):
  FH d b e f g c i j a r h:=.of Zy H
mutual
def et:Cn->Nat|.mk _ _ _ _ _ l=>ek l+1
def ek:List Cn->Nat|[]=>0|x::t=>et x+ek t
end
def kE(c:Cn):et c=ek c.kids+1:=by cases c;rfl
def o5:∀{l:List Cn}{x:Cn},x∈l->et x<=ek l
 |[],_,h=>by simp at h
 |y::l,x,h=>by
  rcases aZ.1 h with rfl|h
  .simp only[ek];omega
  .have:=o5 h;simp only[ek];omega
def sQ:∀(l:List Cn),l.length<=ek l
 |[]=>ar _
 |y::l=>by have:=sQ l;have:=kE y;simp only[ek,aE];omega
def rS(arg op:Int):Bool:=bif(bif(bif(decide (arg>=0))then(decide (arg<=5))else false)then(decide (op>=1))else false)then(decide (op<=6))else false
def Zz(arg op:Int):al 286 [vN arg,vN op] [] [vB (rS arg op)] []:=aiC _ _ fi
def Ie(c:Cn):Bool:=((((true&&(c.arg==0))&&(c.op==0))&&(c.mask==0))&&(c.value==0))
def l9(c:Cn):Bool:=
 bif c.kind==5 then(bif(c.kids.length:Int)==0 then rS c.arg c.op else false)else bif c.kind==1 then(bif(c.kids.length:Int)==0 then Ie c else false)else
 bif c.kind==2 then(bif(c.kids.length:Int)==1 then Ie c else false)else bif c.kind==3 then Ie c else bif c.kind==4 then Ie c else false
def aiV(c:Cn):al 336 [v7 c] [] [vB (l9 c)] []:=by
 have f:(cZ c.kids).length=c.kids.length:=by rw[du,ao]
 apply aiE;rw[f];exact ad (fun h=>ad (fun a=>⟨_,Zz _ _,ai (by rw[l9,h,a];rfl) rfl⟩) fun a=>ai (by rw[l9,h,a];rfl) rfl) fun b=>
  ad (fun h=>ad (fun a=>ai (by rw[l9,b,h,a];rfl) rfl) fun a=>ai (by rw[l9,b,h,a];rfl) rfl) fun a=>
  ad (fun h=>ad (fun d=>ai (by rw[l9,b,a,h,d];rfl) rfl) fun d=>ai (by rw[l9,b,a,h,d];rfl) rfl) fun d=>
  ad (fun h=>ai (by rw[l9,b,a,d,h];rfl) rfl) fun e=>ad (fun h=>ai (by rw[l9,b,a,d,e,h];rfl) rfl) fun h=>ai (by rw[l9,b,a,d,e,h];rfl) rfl
mutual
def nv:Cn->Bool|.mk k a o m v l=>bif l9 (.mk k a o m v l)then yG l else false
def yG:List Cn->Bool|[]=>true|x::t=>nv x&&yG t
end
def CN(c:Cn):nv c=bif l9 c then c.kids.all nv else false:=by
 have:∀l,yG l=l.all nv:=by
  intro l;induction l with
  |nil=>rfl
  |cons x l b=>rw[yG,b];rfl
 obtain⟨k,a,o,m,v,l⟩:=c;rw[nv,this];rfl
def aci:∀(d:Nat)(c:Cn),et c<=d->d<=2^40->al 283 [v7 c] [] [vB (nv c)] []
 |0,c,h,_=>by rw[kE]at h;omega
 |d+1,c,h,g=>by
  have m:=kE c;have k:=sQ c.kids;rw[CN];apply aiA;refine⟨_,aiV c,ad (fun a=>⟨_,Rl _ ⟨_,Rq _ ?_,fi⟩,ai (by rw[a,qh];rfl) rfl⟩) fun a=>ai (by rw[a];rfl) rfl⟩
  rw[du];exact eQ (Hd:=fun i=>p6 _ _ i) (p:=fun x => !nv x) (l:=c.kids) (by omega) fun i r j e f=>KS _ _ _ (eT (l:=c.kids) (by simp) (fun x b=>⟨x.kind,x.arg,x.op,x.mask,x.value,cZ x.kids,by omega,(aQ b).trans (by rw[Cn.cp]),_,
   by apply aiG;exact⟨_,aci d x (by have:=o5 (aM b);omega) (by omega),fi⟩,e x b⟩) f)
def rT(op:Int):Int:=bif op==1 then 2 else bif op==2 then 1 else bif op==3 then 6 else bif op==6 then 3 else bif op==5 then 4 else 5
def aiW(op:Int):al 339 [vN op] [] [vN (rT op)] []:=
 aiM op (ad (fun h=>ai (by rw[rT,h];rfl) rfl) fun a=>ad (fun h=>ai (by rw[rT,a,h];rfl) rfl) fun b=>ad (fun h=>ai (by rw[rT,a,b,h];rfl) rfl) fun c=>
  ad (fun h=>ai (by rw[rT,a,b,c,h];rfl) rfl) fun d=>ad (fun h=>ai (by rw[rT,a,b,c,d,h];rfl) rfl) fun h=>ai (by rw[rT,a,b,c,d,h];rfl) rfl)
mutual
def mj:Cn->Bool->Cn
 |.mk k a o m v l,b=>bif k==2 then(nw l (!b)).headD x9 else bif(bif k==1 then !b else false)then .mk 4 0 0 0 0 []else
  bif(bif k==5 then !b else false)then .mk k a (rT o) m v (nw l b)else bif(bif k==3 then !b else false)then .mk 4 a o m v (nw l b)else
  bif(bif k==4 then !b else false)then .mk 3 a o m v (nw l b)else .mk k a o m v (nw l b)
def nw:List Cn->Bool->List Cn
 |[],_=>[]
 |x::t,b=>mj x b::nw t b
end
def CO:∀(l:List Cn)(a:Bool),nw l a=l.map fun x=>mj x a
 |[],_=>rfl
 |x::t,a=>by rw[nw,CO t a];rfl
def VA(l:List Cn)(n:l.length<=2^40)(k:∀x∈l,al 284 [v7 x,vB b] [] [v7 (mj x b)] []):al 340 [vL 6 (cZ l),vB b] [] [vL 6 (cZ (nw l b))] []:=by
 have key:∀(t:List Cn)(i:Nat)(a:List Cn),l.drop i=t->a=(l.take i).map (fun x=>mj x b)->FD b (cZ a) (cZ l) l.length i [.own 0 0 6 (cZ (nw l b))] []:=by
  intro t;induction t with
  |nil=>
   intro i a c d;have:=drop_nil c;rw[dH this,<-CO]at d;rw[d];exact SW _ _ _ _ _ (aP (l:=l) rfl c fi)
  |cons x t j=>
   intro i a c d;obtain⟨e,g,m⟩:=drop_cons c;have f:∀z:Cn,cZ a++([[N z.kind,N z.arg,N z.op,U z.mask,U z.value,L 6 (cZ z.kids)]]:Rw)=cZ (a++[z]):=by
    intro z;rw[du a,du (a++[z]),bM,<-Cn.cp];rfl
   have o:a.length<=i:=by rw[d];simp;omega
   refine SW _ _ _ _ _ (aK (l:=l) rfl c ⟨x.kind,x.arg,x.op,x.mask,x.value,cZ x.kids,by omega,?_,_,_,_,_,_,_,k x (aM e),?_,aC,?_⟩)
   .rw[du,<-Cn.cp];exact aQ e
   .rw[f,du];simp;omega
   .rw[f]
    exact j (i+1) _ g (by rw[d,eO,e];simp)
 refine Go.Ac.al.soft (r:=[.own 0 0 6 _]) ?_ rfl;apply aiN;rw[show(cZ l).length=l.length by rw[du,ao]]
 exact key l 0 [] rfl rfl
def acj:∀(d:Nat)(c:Cn)(n:Bool),et c<=d->d<=2^40->nv c=true->al 284 [v7 c,vB n] [] [v7 (mj c n)] []
 |0,c,_,h,_,_=>by rw[kE]at h;omega
 |d+1,c,n,h,y,q=>by
  have r:=kE c;have z:=sQ c.kids;rw[CN]at q;obtain⟨w,u⟩:=cg q;have t:∀(b:Bool),∀x∈c.kids,al 284 [v7 x,vB b] [] [v7 (mj x b)] []:=fun b x s=>acj d x b (by have:=o5 s;omega) (by omega) (bf.1 u x s)
  have p:=VA c.kids (by omega) (t n)
  obtain⟨k,a,o,m,v,l⟩:=c;apply aiK;refine ad (fun f=>?_) fun f=>ad (fun e=>ai ?_ rfl) fun e=>ad (fun g=>⟨_,aiW o,_,p,ai ?_ rfl⟩) fun g=>ad (fun i=>⟨_,p,ai ?_ rfl⟩) fun i=>ad (fun j=>⟨_,p,ai ?_ rfl⟩) fun j=>⟨_,p,ai ?_ rfl⟩
  .obtain rfl:k=2:=eq_of_beq f
   have e:((l.length:Int)==1)=true:=(cg (show(bif(l.length:Int)==1 then Ie (.mk 2 a o m v l)else false)=true from w)).1
   have g:=eq_of_beq e;match l,g with
   |[x],_=>
    exact⟨x.kind,x.arg,x.op,x.mask,x.value,cZ x.kids,by omega,by rw[<-Cn.cp];rfl,_,_,_,_,_,_,t (!n) x (by simp[Cn.kids]),fi⟩
  .simp only[Cn.kind]at f e;rw[mj,f,e];rfl
  .simp only[Cn.kind]at f e g;rw[mj,f,e,g];rfl
  .simp only[Cn.kind]at f e g i;rw[mj,f,e,g,i];rfl
  .simp only[Cn.kind]at f e g i j;rw[mj,f,e,g,i,j];rfl
  .simp only[Cn.kind]at f e g i j;rw[mj,f,e,g,i,j];rfl
def o6(c:Cn):Cn:=bif !nv c then .mk 4 0 0 0 0 []else mj c true
def aiX(c:Cn)(a:et c<=2^40):al 224 [v7 c] [] [v7 (o6 c)] []:=by
 apply aiI;exact⟨_,aci _ c (ar _) a,ad (fun h=>ai (by rw[o6,h];rfl) rfl) fun h=>⟨_,_,_,_,_,_,acj _ c true (ar _) a (by simpa using h),ai (by rw[o6,h];rfl) rfl⟩⟩
mutual
theorem Aq:∀(c:Cn)(b:Bool),et (mj c b)<=et c
 |.mk k a o m v l,b=>by
  have e:=tK l b;have d:=tK l (!b);unfold mj;cases k==2
  .cases(bif k==1 then !b else false)
   .cases(bif k==5 then !b else false)
    .cases(bif k==3 then !b else false)
     .cases(bif k==4 then !b else false)<;>simp only[aj,af,et]<;>omega
     .simp only[aj,af,et];omega
    .simp only[aj,af,et];omega
   .simp only[aj,af,et,ek];omega
  .simp only[aj]
   cases hd:nw l (!b)with
   |nil=>simp only[List.headD,x9,et,ek];omega
   |cons x t=>rw[hd]at d;simp only[ek]at d;simp only[List.headD,et];omega
theorem tK:∀(l:List Cn)(b:Bool),ek (nw l b)<=ek l
 |[],_=>ar _
 |x::t,b=>by have:=Aq x b;have:=tK t b;simp only[nw,ek];omega
end
def Ar(c:Cn):et (o6 c)<=et c:=by
 unfold o6;have:=kE c;cases nv c
 .simp only[kh,aj,et,ek];omega
 .exact Aq c true
abbrev vv(a b c d e:Int)r h:=Rp f226 13 ⟨aO 47 [(1,.aB 0 0),(3,vN a)],[],[.aH [vN b,vN c,vU d,vU e]]⟩ 0 r h
def ack:bu:={an:=[(1,4,ah),(6,1,ah),(6,3,ah),(8,1,ah),(8,4,ah),(13,2,ah),(13,5,ah),(13,9,ah)],join:=[(13,{bl:=[1,3]})]}
def aiY(H:cc 286 [vN b,vN a] [] fun e=>aw (!e) (Fi r h [vL 1 []] [])
 (aw (a==1) (Ks 287 [.agg [N b,N a,U c,U d],vB true,vN 1] [] fun f g i j k=>Ks 287 [.agg [N b,N a,U c,U d],vB false,vN 1] [] fun l m n o p=>Fi r h [vL 1 [[L 5 [[N f,N g,B i,W j,W k],[N l,N m,B n,W o,W p]]]]] [])
 (aw (a==2) (Ks 287 [.agg [N b,N a,U c,U d],vB true,vN 2] [] fun q s t u v=>Ks 287 [.agg [N b,N a,U c,U d],vB false,vN 2] [] fun w x y z D=>Fi r h [vL 1 [[L 5 [[N q,N s,B t,W u,W v]]],[L 5 [[N w,N x,B y,W z,W D]]]]] [])
 (aw (a==6) (vv 5 b a c d r h)
 (aw (a==4) (vv 3 b a c d r h)
 (vv a b a c d r h)))))):
  al 226 [.agg [N b,N a,U c,U d]] [] r h:=.of func226 ack H
def VB(H:Ks 287 [.agg [N b,N a,U c,U d],vB true,vN e] [] fun f g i j k=>Ks 287 [.agg [N b,N a,U c,U d],vB true,vN 1] [] fun l m n o p=>Ks 287 [.agg [N b,N a,U c,U d],vB false,vN a] [] fun q s t u v=>Fi r h [vL 1 [[L 5 [[N f,N g,B i,W j,W k]]],[L 5 [[N l,N m,B n,W o,W p],[N q,N s,B t,W u,W v]]]]] []):
  vv e b a c d r h:=yx.of ack H
def aiZ:bu:={}
def ai0(H:aw a (0<=(32:Int)/\0<=(32:Int)/\Fi r h [.agg [N b,N e,B a,W (wrap .u32 (fdiv c (2^(min (toNat 32) (IntKind.bits .u64))))),W (wrap .u32 (fdiv d (2^(min (toNat 32) (IntKind.bits .u64)))))]] [])
 (Fi r h [.agg [N b,N e,B a,W (wrap .u32 c),W (wrap .u32 d)]] [])):
  al 287 [.agg [N b,N f,U c,U d],vB a,vN e] [] r h:=.of func287 aiZ H
def ai1:bu:={an:=[(1,1,ah),(7,4,aa),(7,5,aa),(7,6,aa)]}
def ai2(H:cc 307 [.agg [N d,N a,B e,W c,W b]] [] fun f=>aw (!f) (Fi r h [vB true] [])
 (aw (a==1) (Fi r h [vB ((cH .andNot .u32 b c) !=0)] [])
 (aw (a==2) (Fi r h [vB (bif(c==0)then(b==0)else false)] [])
 (aw (a==3) (Fi r h [vB (b==0)] [])
 (aw (a==5) (Fi r h [vB (decide (c<=b))] [])
 (aw (a==6) (Fi r h [vB (decide (c<b))] [])
 (Fi r h [vB false] []))))))):
  al 288 [.agg [N d,N a,B e,W c,W b]] [] r h:=.of func288 ai1 H
def ai3:bu:={an:=[(1,1,ah),(5,4,aa),(5,5,aa),(5,6,aa)]}
def ai4(H:cc 307 [.agg [N d,N a,B e,W c,W b]] [] fun f=>aw (!f) (Fi r h [vB false] [])
 (aw (a==1) (Fi r h [vB (bif(c==0)then(b==0)else false)] [])
 (aw (a==2) (Fi r h [vB ((cH .andNot .u32 b c) !=0)] [])
 (aw (a==3) (Fi r h [vB (decide (c<b))] [])
 (aw (a==4) (Fi r h [vB (decide (c<=b))] [])
 (aw (a==6) (Fi r h [vB (b==0)] [])
 (Fi r h [vB false] []))))))):
  al 292 [.agg [N d,N a,B e,W c,W b]] [] r h:=.of func292 ai3 H
def ai5:bu:={an:=[(1,4,ah)]}
def ai6(H:cc 286 [vN a,vN b] [] fun f=>Fi r h [vB f] []):
  al 307 [.agg [N a,N b,B c,W d,W e]] [] r h:=.of func307 ai5 H
structure At where
 arg:Int
 op:Int
 mask:Int
 value:Int
def At.row(a:At):List PV:=[N a.arg,N a.op,U a.mask,U a.value]
structure Hf where
 arg:Int
 op:Int
 high:Bool
 mask:Int
 value:Int
 deriving DecidableEq
def Hf.row(h:Hf):List PV:=[N h.arg,N h.op,B h.high,W h.mask,W h.value]
abbrev VC(h:Hf):AV:=.agg [N h.arg,N h.op,B h.high,W h.mask,W h.value]
def atR(x:List At):List PV:=[L 4 (x.map At.row)]
def iV(l:List (List At)):Rw:=l.map atR
def hfR(x:List Hf):List PV:=[L 5 (x.map Hf.row)]
def cF(l:List (List Hf)):Rw:=l.map hfR
def fT{α:Type}(a b:List (List α)):List (List α):=a.flatMap fun x=>b.map fun y=>x++y
def lU{α:Type}(a b:List (List α)):List (List α)×Bool:=bif decide ((a.length:Int)*(b.length:Int)>256)then([],false)else(fT a b,true)
def ai7(x y:List At)(a:x.length<=2^40)(b:y.length<=2^40):al 358 [vL 1 [[L 4 (x.map At.row)],[L 4 (y.map At.row)]]] [] [vL 4 ((x++y).map At.row)] []:=by
 refine Go.Ac.al.soft (r:=[.own 0 0 4 _]) ?_ rfl;apply ae2;have c:(x.map At.row).length=x.length:=ao ..;have d:(y.map At.row).length=y.length:=ao ..;apply KQ;refine bt rfl ⟨x.map At.row,by omega,rfl,aC,aU (bV (by omega)) ⟨aC,?_⟩⟩
 apply KQ;refine bt rfl ⟨y.map At.row,by omega,rfl,aC,aU (bV (by omega)) ⟨aC,?_⟩⟩
 apply KQ;refine aU rfl ⟨_,aew _ (by omega),?_⟩
 apply KR;refine bt rfl ⟨x.map At.row,by omega,rfl,by simp;omega,aC,?_⟩
 apply KR;refine bt rfl ⟨y.map At.row,by omega,rfl,by simp;omega,aC,?_⟩
 apply KR;exact aU rfl (ai (by simp) rfl)
def ai8(a b:List (List At))(o:a.length<=2^20)(p:b.length<=2^20)(r:∀x∈a,x.length<=2^40)(D:∀x∈b,x.length<=2^40):
  al 335 [vL 1 (iV a),vL 1 (iV b)] [] [.own 0 0 1 (iV (lU a b).1),vB (lU a b).2] []:=by
 have w:(iV a).length=a.length:=ao ..;have lb:(iV b).length=b.length:=ao ..;have f:(a.length:Int)*(b.length:Int)=((a.length*b.length:Nat):Int):=by simp
 have K:a.length*b.length<=2^20*2^20:=ir o p;apply aiU;rw[w,lb,f];refine⟨aC,ad (fun h=>ai (by rw[lU,f,h];rfl) (by rfl)) fun h=>?_⟩
 have Q:=bI h;have M:fT a b=fT a b:=rfl;have key:∀(t:List (List At))(i:Nat)(c:List (List At)),a.drop i=t->c.length+t.length*b.length<=256 ->
   FG (iV b) (iV c) (iV a) a.length i [.own 0 0 1 (iV (c++fT t b)),vB true] []:=by
  intro t;induction t with
  |nil=>intro i c d _;apply S0;exact aP (l:=a) rfl d (ai (by simp[fT]) rfl)
  |cons x t u=>
   intro i c d I;obtain⟨k,n,H⟩:=drop_cons d;have q:=r x (aM k);have G:(x::t).length*b.length=b.length+t.length*b.length:=by rw[aE,bZ,cM,oJ]
   have inner:∀(s:List (List At))(j:Nat)(z:List (List At)),b.drop j=s->z.length+s.length+t.length*b.length<=256 ->
     FH (iV b) (iV z) (x.map At.row) (iV a) a.length i (iV b) b.length j [.own 0 0 1 (iV (z++(s.map fun y=>x++y)++fT t b)),vB true] []:=by
    intro s;induction s with
    |nil=>
     intro j z e g;apply S1;refine aP (l:=b) rfl e ⟨aC,?_⟩;simp only[cN]at g;have:=u (i+1) z n (by omega)
     rw[oI,fa];exact this
    |cons y s E=>
     intro j z e g;obtain⟨m,v,J⟩:=drop_cons e;simp only[aE]at g;apply S1;refine aK (l:=b) rfl e ⟨y.map At.row,by omega,aQ m,_,ai7 x y q (D y (aM m)),by simp[iV];omega,aC,?_⟩
     have:=E (j+1) (z++[x++y]) v (by simp;omega)
     rw[show iV (z++[x++y])=iV z++[[L 4 ((x++y).map At.row)]] by simp[iV,atR]]at this
     rw[show z++((y::s).map fun y=>x++y)++fT t b=z++[x++y]++(s.map fun y=>x++y)++fT t b by simp]
     exact this
   apply S0;refine aK (l:=a) rfl d ⟨x.map At.row,by omega,aQ k,?_⟩
   rw[lb];have:=inner b 0 c rfl (by omega)
   rw[show c++fT (x::t) b=c++(b.map fun y=>x++y)++fT t b by simp[fT]]
   exact this
 have:=key a 0 [] rfl (by simp;omega)
 rw[lU,f,h];exact this
def ai9(x y:List Hf)(a:x.length<=2^40)(b:y.length<=2^40):al 285 [vL 1 [[L 5 (x.map Hf.row)],[L 5 (y.map Hf.row)]]] [] [vL 5 ((x++y).map Hf.row)] []:=by
 refine Go.Ac.al.soft (r:=[.own 0 0 5 _]) ?_ rfl;apply aeG;have c:(x.map Hf.row).length=x.length:=ao ..;have d:(y.map Hf.row).length=y.length:=ao ..;apply KF;refine bt rfl ⟨x.map Hf.row,by omega,rfl,aC,aU (bV (by omega)) ⟨aC,?_⟩⟩
 apply KF;refine bt rfl ⟨y.map Hf.row,by omega,rfl,aC,aU (bV (by omega)) ⟨aC,?_⟩⟩
 apply KF;refine aU rfl ⟨_,aev _ (by omega),?_⟩
 apply KG;refine bt rfl ⟨x.map Hf.row,by omega,rfl,by simp;omega,aC,?_⟩
 apply KG;refine bt rfl ⟨y.map Hf.row,by omega,rfl,by simp;omega,aC,?_⟩
 apply KG;exact aU rfl (ai (by simp) rfl)
def aja(a b:List (List Hf))(o:a.length<=2^20)(p:b.length<=2^20)(r:∀x∈a,x.length<=2^40)(D:∀x∈b,x.length<=2^40):
  al 225 [vL 1 (cF a),vL 1 (cF b)] [] [.own 0 0 1 (cF (lU a b).1),vB (lU a b).2] []:=by
 have w:(cF a).length=a.length:=ao ..;have lb:(cF b).length=b.length:=ao ..;have f:(a.length:Int)*(b.length:Int)=((a.length*b.length:Nat):Int):=by simp
 have K:a.length*b.length<=2^20*2^20:=ir o p;apply aiR;rw[w,lb,f];refine⟨aC,ad (fun h=>ai (by rw[lU,f,h];rfl) (by rfl)) fun h=>?_⟩
 have Q:=bI h;have M:fT a b=fT a b:=rfl;have key:∀(t:List (List Hf))(i:Nat)(c:List (List Hf)),a.drop i=t->c.length+t.length*b.length<=256 ->
   FE (cF b) (cF c) (cF a) a.length i [.own 0 0 1 (cF (c++fT t b)),vB true] []:=by
  intro t;induction t with
  |nil=>intro i c d _;apply SY;exact aP (l:=a) rfl d (ai (by simp[fT]) rfl)
  |cons x t u=>
   intro i c d I;obtain⟨k,n,H⟩:=drop_cons d;have q:=r x (aM k);have G:(x::t).length*b.length=b.length+t.length*b.length:=by rw[aE,bZ,cM,oJ]
   have inner:∀(s:List (List Hf))(j:Nat)(z:List (List Hf)),b.drop j=s->z.length+s.length+t.length*b.length<=256 ->
     FF (cF b) (cF z) (x.map Hf.row) (cF a) a.length i (cF b) b.length j [.own 0 0 1 (cF (z++(s.map fun y=>x++y)++fT t b)),vB true] []:=by
    intro s;induction s with
    |nil=>
     intro j z e g;apply SZ;refine aP (l:=b) rfl e ⟨aC,?_⟩;simp only[cN]at g;have:=u (i+1) z n (by omega)
     rw[oI,fa];exact this
    |cons y s E=>
     intro j z e g;obtain⟨m,v,J⟩:=drop_cons e;simp only[aE]at g;apply SZ;refine aK (l:=b) rfl e ⟨y.map Hf.row,by omega,aQ m,_,ai9 x y q (D y (aM m)),by simp[cF];omega,aC,?_⟩
     have:=E (j+1) (z++[x++y]) v (by simp;omega)
     rw[show cF (z++[x++y])=cF z++[[L 5 ((x++y).map Hf.row)]] by simp[cF,hfR]]at this
     rw[show z++((y::s).map fun y=>x++y)++fT t b=z++[x++y]++(s.map fun y=>x++y)++fT t b by simp]
     exact this
   apply SY;refine aK (l:=a) rfl d ⟨x.map Hf.row,by omega,aQ k,?_⟩
   rw[lb];have:=inner b 0 c rfl (by omega)
   rw[show c++fT (x::t) b=c++(b.map fun y=>x++y)++fT t b by simp[fT]]
   exact this
 have:=key a 0 [] rfl (by simp;omega)
 rw[lU,f,h];exact this
def o7(k:Int)(a b:List (List At)):List (List At)×Bool:=bif k==3 then lU a b else(a++b,decide (((a++b).length:Int)<=256))
def ajb(k:Int)(a b:List (List At))(c:a.length<=2^20)(d:b.length<=2^20)(f:∀x∈a,x.length<=2^40)(g:∀x∈b,x.length<=2^40):
  al 282 [vN k,.own 0 0 1 (iV a),vL 1 (iV b)] [] [.own 0 0 1 (iV (o7 k a b).1),vB (o7 k a b).2] []:=by
 have e:iV a++iV b=iV (a++b):=by simp[iV]
 have le:(iV (a++b)).length=(a++b).length:=ao ..;apply aiT;rw[e,le];exact ad (fun h=>⟨_,_,ai8 a b c d f g,ai (by rw[o7,h];rfl) rfl⟩) fun h=>⟨by simp;omega,ai (by rw[o7,h];rfl) rfl⟩
mutual
def sR:Cn->List (List At)×Bool
 |.mk k a o m v l=>bif k==5 then([[⟨a,o,m,v⟩]],true)else MD k l (bif k==1 then[[]]else bif k==3 then[[]]else[])
def MD(k:Int):List Cn->List (List At)->List (List At)×Bool
 |[],b=>(b,true)
 |x::t,b=>bif !(sR x).2 then([],false)else bif !(o7 k b (sR x).1).2 then([],false)else MD k t (o7 k b (sR x).1).1
end
structure CL {α:Type} (n:Nat) (l:List (List α)):Prop where
 len:l.length<=256
 each:∀x∈l,x.length<=n
def As{a b:List (List α)}(d:∀x∈a,x.length<=n)(f:∀x∈b,x.length<=m):CL (n+m) (lU a b).1:=by
 unfold lU;cases hd:decide ((a.length:Int)*(b.length:Int)>256)
 .have e:(a.length:Int)*(b.length:Int)=((a.length*b.length:Nat):Int):=by simp
  have h:=bI hd;rw[e]at h;refine⟨?_,fun x c=>?_⟩
  .have:(fT a b).length=a.length*b.length:=by
    clear d hd e h;induction a with
    |nil=>simp[fT]
    |cons x a j=>
     rw[show fT (x::a) b=(b.map fun y=>x++y)++fT a b from rfl,dw,ao,j,aE,bZ,cM,oJ]
   show(fT a b).length<=256
   omega
  .obtain⟨y,g,c⟩:=eN.1 (show x∈fT a b from c)
   obtain⟨z,i,rfl⟩:=bh.1 c;have:=d y g;have:=f z i;simp;omega
 .exact⟨by simp,by simp⟩
def Ig(d:CL n a)(e:CL m b)(h:(o7 k a b).2=true):CL (n+m) (o7 k a b).1:=by
 unfold o7 at h⊢;cases hk:k==3<;>rw[hk]at h
 .have h:=aV h
  refine⟨by show(a++b).length<=256;omega,fun x c=>?_⟩
  rcases bn.1 (show x∈a++b from c)with c|c
  .have:=d.each x c;omega
  .have:=e.each x c;omega
 .exact As d.each e.each
mutual
theorem Lj:∀(c:Cn),CL (et c) (sR c).1
 |.mk k a o m v l=>by
  unfold sR;cases k==5
  .have:CL 1 (bif k==1 then[[]]else bif k==3 then[[]]else([]:List (List At))):=by cases k==1<;>cases k==3<;>exact⟨by simp,by simp⟩
   have:=S2 l k _ 1 this;simp only[af,et];rw[oJ];exact this
  .exact⟨by simp,by simp[et]⟩
theorem S2:∀(l:List Cn)(k:Int)(b:List (List At))(n:Nat),CL n b->CL (n+ek l) (MD k l b).1
 |[],k,b,n,h=>h
 |x::t,k,b,n,h=>by
  unfold MD;have d:=Lj x;cases hb:(sR x).2
  .exact⟨by simp,by simp⟩
  .cases hj:(o7 k b (sR x).1).2
   .exact⟨by simp,by simp⟩
   .have:=S2 t k _ _ (Ig h d hj)
    simp only[ek,ec,af];rw[<-gI];exact this
end
def ofR:List (List At)×Bool->List AV
 |(l,true)=>[.own 0 0 1 (iV l),vB true]
 |(_,false)=>[vL 1 [],vB false]
def VD:∀(c:Cn),(sR c).2=false->(sR c).1=[]
 |.mk k a o m v l,h=>by
  unfold sR at h⊢;have:∀(l:List Cn)(b:List (List At)),(MD k l b).2=false->(MD k l b).1=[]:=by
   intro l;induction l with
   |nil=>intro b h;simp[MD]at h
   |cons x t d=>
    intro b h;unfold MD at h⊢;cases hb:(sR x).2<;>rw[hb]at h
    .rfl
    .cases hj:(o7 k b (sR x).1).2<;>rw[hj]at h
     .rfl
     .exact d _ h
  cases hk:k==5<;>rw[hk]at h
  .exact this l _ h
  .simp at h
def acm:∀(d:Nat)(c:Cn),et c<=d->d<=2^40->al 223 [v7 c] [] [vL 1 (iV (sR c).1),vB (sR c).2] []
 |0,c,h,_=>by rw[kE]at h;omega
 |d+1,c,h,K=>by
  have H:=kE c;have E:=sQ c.kids;have J:∀x∈c.kids,al 223 [v7 x] [] [vL 1 (iV (sR x).1),vB (sR x).2] []:=fun x s=>acm d x (by have:=o5 s;omega) (by omega)
  have loop:∀(t:List Cn)(i:Nat)(f:List (List At))(n:Nat),c.kids.drop i=t->CL n f->n+ek t<=2^40+1 ->
    wV (iV f) (cZ c.kids) c.kids.length i c.kind c.arg c.op c.mask c.value (cZ c.kids) (ofR (MD c.kind t f)) []:=by
   intro t;induction t with
   |nil=>intro i f n q _ _;apply SX;exact aP (l:=c.kids) rfl q fi
   |cons x t I=>
    intro i f n q z G;obtain⟨b,e,g⟩:=drop_cons q;have s:=aM b;have u:=Lj x;simp only[ek]at G;have M:=o5 s;have Q:=kE x;apply SX;refine aK (l:=c.kids) rfl q ⟨x.kind,x.arg,x.op,x.mask,x.value,cZ x.kids,by omega,by rw[du,<-Cn.cp];exact aQ b,_,_,J x s,ad (fun j=>ai (by rw[MD,j];rfl) rfl) fun j=>
     ⟨_,_,ajb c.kind f (sR x).1 (by have:=z.len;omega) (by have:=u.len;omega) (fun y D=>by have:=z.each y D;omega) (fun y D=>by have:=u.each y D;omega),ad (fun p=>ai (by rw[MD,j,p];rfl) rfl) fun p=>⟨aC,?_⟩⟩⟩
    rw[MD,j,p];exact I (i+1) _ _ e (Ig z u (by simpa using p)) (by omega)
  have w:al 223 [v7 c] [] (bif c.kind==5 then[vL 1 (iV (sR c).1),vB (sR c).2]else ofR (sR c)) []:=by
   obtain⟨k,a,o,m,v,l⟩:=c;simp only[Cn.kind,Cn.arg,Cn.op,Cn.mask,Cn.value,Cn.kids]at loop H E;apply aiQ;have hlen:(cZ l).length=l.length:=by rw[du,ao]
   refine ad (fun b=>ai ?_ rfl) fun b=>?_
   .simp only[Cn.kind]at b⊢
    rw[sR,b];rfl
   .simp only[Cn.kind,Cn.kids]at b⊢
    rw[b,sR,b,hlen];refine ad (fun e=>?_) fun e=>ad (fun g=>?_) fun g=>?_
    .rw[e];exact loop l 0 [[]] 1 rfl ⟨by simp,by simp⟩ (by omega)
    .rw[e,g];exact loop l 0 [[]] 1 rfl ⟨by simp,by simp⟩ (by omega)
    .rw[e,g];exact loop l 0 [] 0 rfl ⟨by simp,by simp⟩ (by omega)
  cases hk:c.kind==5<;>rw[hk]at w
  .cases hb:(sR c).2
   .have r:sR c=([],false):=Prod.ext (VD c hb) hb
    rw[r]at w⊢;exact w
   .have r:sR c=((sR c).1,true):=Prod.ext rfl hb
    rw[r]at w;exact Go.Ac.al.soft w rfl
  .exact w
def fm(c:Cn):List (List At)×Int:=bif !(sR (o6 c)).2 then([],9)else((sR (o6 c)).1,0)
def ajc(c:Cn)(a:et c<=2^40):al 159 [v7 c] [] [vL 1 (iV (fm c).1),vN (fm c).2] []:=by
 have:=Ar c;apply aiP;exact⟨_,_,_,_,_,_,aiX c a,_,_,acm _ (o6 c) (ar _) (by omega),ad (fun h=>ai (by rw[fm,h];rfl) rfl) fun h=>ai (by rw[fm,h];rfl) rfl⟩
def lV(a:At)(high:Bool)(op:Int):Hf:=bif high then⟨a.arg,op,high,wrap .u32 (fdiv a.mask (2^(min (toNat 32) (IntKind.bits .u64)))),wrap .u32 (fdiv a.value (2^(min (toNat 32) (IntKind.bits .u64))))⟩else
 ⟨a.arg,op,high,wrap .u32 a.mask,wrap .u32 a.value⟩
def Ll(a:At)(high:Bool)(op:Int):al 287 [.agg [N a.arg,N a.op,U a.mask,U a.value],vB high,vN op] [] [VC (lV a high op)] []:=by
 apply ai0;exact ad (fun h=>⟨by omega,by omega,ai (by rw[lV,h];rfl) rfl⟩) fun h=>ai (by rw[lV,h];rfl) rfl
def kF(a:At)(strict:Int):List (List Hf):=[[lV a true strict],[lV a true 1,lV a false a.op]]
def dO(a:At):List (List Hf):=bif !rS a.arg a.op then[]else bif a.op==1 then[[lV a true 1,lV a false 1]]else bif a.op==2 then[[lV a true 2],[lV a false 2]]else
 bif a.op==6 then kF a 5 else bif a.op==4 then kF a 3 else kF a a.op
def ajd(a:At):al 226 [.agg [N a.arg,N a.op,U a.mask,U a.value]] [] [vL 1 (cF (dO a))] []:=by
 have j:∀(s:Int)(r:List (List Hf)),r=kF a s->vv s a.arg a.op a.mask a.value [vL 1 (cF r)] []:=by
  rintro s _ rfl;apply VB;exact⟨_,_,_,_,_,Ll a true s,_,_,_,_,_,Ll a true 1,_,_,_,_,_,Ll a false a.op,fi⟩
 apply aiY;exact⟨_,Zz _ _,ad (fun h=>ai (by rw[dO,h];rfl) rfl) fun b=>ad (fun h=>⟨_,_,_,_,_,Ll a true 1,_,_,_,_,_,Ll a false 1,ai (by rw[dO,b,h];rfl) rfl⟩) fun c=>
  ad (fun h=>⟨_,_,_,_,_,Ll a true 2,_,_,_,_,_,Ll a false 2,ai (by rw[dO,b,c,h];rfl) rfl⟩) fun d=>ad (fun h=>j 5 _ (by rw[dO,b,c,d,h];rfl)) fun e=>ad (fun h=>j 3 _ (by rw[dO,b,c,d,e,h];rfl)) fun h=>j a.op _ (by rw[dO,b,c,d,e,h];rfl)⟩
def ZA(h:Hf):al 307 [VC h] [] [vB (rS h.arg h.op)] []:=by apply ai6;exact⟨_,Zz _ _,fi⟩
def ma(h:Hf):Bool:=bif !rS h.arg h.op then true else bif h.op==1 then((cH .andNot .u32 h.value h.mask) !=0)else bif h.op==2 then(bif(h.mask==0)then(h.value==0)else false)else
 bif h.op==3 then(h.value==0)else bif h.op==5 then decide (h.mask<=h.value)else bif h.op==6 then decide (h.mask<h.value)else false
def aje(h:Hf):al 288 [VC h] [] [vB (ma h)] []:=by
 apply ai2;exact⟨_,ZA h,ad (fun e=>ai (by rw[ma,e];rfl) rfl) fun a=>ad (fun e=>ai (by rw[ma,a,e];rfl) rfl) fun b=>ad (fun e=>ai (by rw[ma,a,b,e];rfl) rfl) fun c=>ad (fun e=>ai (by rw[ma,a,b,c,e];rfl) rfl) fun d=>
  ad (fun e=>ai (by rw[ma,a,b,c,d,e];rfl) rfl) fun f=>ad (fun e=>ai (by rw[ma,a,b,c,d,f,e];rfl) rfl) fun e=>ai (by rw[ma,a,b,c,d,f,e];rfl) rfl⟩
def jC(h:Hf):Bool:=bif !rS h.arg h.op then false else bif h.op==1 then(bif(h.mask==0)then(h.value==0)else false)else bif h.op==2 then((cH .andNot .u32 h.value h.mask) !=0)else
 bif h.op==3 then decide (h.mask<h.value)else bif h.op==4 then decide (h.mask<=h.value)else bif h.op==6 then(h.value==0)else false
def ajf(h:Hf):al 292 [VC h] [] [vB (jC h)] []:=by
 apply ai4;exact⟨_,ZA h,ad (fun e=>ai (by rw[jC,e];rfl) rfl) fun a=>ad (fun e=>ai (by rw[jC,a,e];rfl) rfl) fun b=>ad (fun e=>ai (by rw[jC,a,b,e];rfl) rfl) fun c=>ad (fun e=>ai (by rw[jC,a,b,c,e];rfl) rfl) fun d=>
  ad (fun e=>ai (by rw[jC,a,b,c,d,e];rfl) rfl) fun f=>ad (fun e=>ai (by rw[jC,a,b,c,d,f,e];rfl) rfl) fun e=>ai (by rw[jC,a,b,c,d,f,e];rfl) rfl⟩
abbrev Au(a b:Rw)(c d:Int)r h:=Lp f161 0 ⟨aO 77 [(3,.own 0 0 1 a),(14,vL 1 b),(15,vN c),(16,vN d)],[some 0],[]⟩ 0 r h
abbrev Av(a b c:Rw)(d e:Int)r h:=Lp f161 1 ⟨aO 77 [(3,.own 0 0 1 a),(8,.own 1 0 1 b),(31,vL 1 c),(32,vN d),(33,vN e)],[some 0,some 0],[]⟩ 0 r h
abbrev wW(a b:Rw)(c:Int)(d:Rw)(e:Bool)(f:Rw)(g i:Int)(j:Rw)(k l:Int)r h:=Lp f161 2 ⟨aO 77 [(3,.own 0 0 1 a),(8,.own 1 0 1 b),(9,vN c),(10,vL 5 d),(11,vB e),(31,vL 1 f),(32,vN g),(33,vN i),(38,vL 1 j),(39,vN k),(40,vN l)],[some 0,some 0],[]⟩ 0 r h
def VE:bu:={an:=[(4,1,ah),(5,1,ah),(12,2,ah),(16,2,ah),(17,8,ah),(17,11,aa),(17,12,aa),(17,13,aa),(17,14,aa),(17,15,aa),(17,16,aa),(17,17,aa),(17,18,aa),(17,19,aa),(17,20,aa)],cut:=[(11,{bl:=[3,8,31,32,33],cW:=[(3,1),(8,1)],owns:=[3,8]}),(15,{bl:=[3,8,9,10,11,31,32,33,38,39,40],cW:=[(3,1),(8,1)],owns:=[3,8]}),(3,{bl:=[3,14,15,16],cW:=[(3,1)],owns:=[3]})]}
def ajg(H:Au [] a (a.length:Int) 0 r h):
  al 161 [vL 1 a] [] r h:=.of func161 VE H
def S3(a c:Rw)(H:aw (decide (b<d)) (wB c b fun g=>∃e f,al 227 [vL 5 g] [] [vL 5 e,vB f] []/\aw f ((a++([[L 5 e]]:Rw)).length*24<=2^47/\au (b+1)/\Au (a++([[L 5 e]]:Rw)) c d (b+1) r h)
 (au (b+1)/\Au a c d (b+1) r h))
 (Av a [] a (a.length:Int) 0 r h)):
  Au a c d b r h:=.of VE H
def S5(H:aw (decide (a<e)) (wB d a fun f=>wW b c a f false d e a b (b.length:Int) 0 r h)
 (Fi r h [.own 0 0 1 c] [])):
  Av b c d e a r h:=.of VE H
def S6(H:aw (decide (a<k)) (wB j a fun m=>aw l (au (a+1)/\wW f d e b true g i c j k (a+1) r h) (aw (a !=e) (cc 228 [vL 5 m,vL 5 b] [] fun n=>au (a+1)/\wW f d e b (bif n then(bif(decide ((m.length:Int)<(b.length:Int)))then true else(decide (a<e)))else false) g i c j k (a+1) r h) (au (a+1)/\wW f d e b (bif false then(bif(decide ((m.length:Int)<(b.length:Int)))then true else(decide (a<e)))else false) g i c j k (a+1) r h)))
 (aw (!l) ((d++([[L 5 b]]:Rw)).length*24<=2^47/\au (c+1)/\Av f (d++([[L 5 b]]:Rw)) g i (c+1) r h)
 (au (c+1)/\Av f d g i (c+1) r h))):
  wW f d e b l g i c j k a r h:=.of VE H
abbrev wX(a b:Rw)(c d:Int)r h:=Lp f227 0 ⟨aO 37 [(4,.own 0 0 5 a),(7,vL 5 b),(8,vN c),(9,vN d)],[some 0],[]⟩ 0 r h
def acn:bu:={an:=[(4,1,ah),(5,1,ah),(7,1,ah),(7,6,ah)],cut:=[(3,{bl:=[4,7,8,9],cW:=[(4,5)],owns:=[4]})]}
def ajh(H:wX [] a (a.length:Int) 0 r h):
  al 227 [vL 5 a] [] r h:=.of func227 acn H
def S7(H:aw (decide (a<j)) (n3 i a fun c d e f g=>cc 288 [.agg [N c,N d,B e,W f,W g]] [] fun k=>aw k (Fi r h [vL 5 [],vB false] []) (cc 289 [vL 5 b,.fn (.func 290) [] [.aB 0 0]] [.aH [vN c,vN d,vB e,vW f,vW g]] fun l=>aw l (Fi r h [vL 5 [],vB false] [])
 (cc 292 [.agg [N c,N d,B e,W f,W g]] [] fun m=>aw (!m) (cc 293 [vL 5 b,.agg [N c,N d,B e,W f,W g]] [] fun n=>aw (!n) ((b++([[N c,N d,B e,W f,W g]]:Rw)).length*32<=2^47/\au (a+1)/\wX (b++([[N c,N d,B e,W f,W g]]:Rw)) i j (a+1) r h)
 (au (a+1)/\wX b i j (a+1) r h)) (au (a+1)/\wX b i j (a+1) r h))))
 (Fi r h [.own 0 0 5 b,vB true] [])):
  wX b i j a r h:=.of acn H
def aji:bu:={}
def ajj(H:aw (decide ((a.length:Int)<=(b.length:Int))) (cc 289 [vL 5 a,.fn (.func 294) [] [.aB 0 0]] [.aH [vL 5 b]] fun c=>Fi r h [vB (!c)] []) (Fi r h [vB false] [])):
  al 228 [vL 5 a,vL 5 b] [] r h:=.of func228 aji H
def ajk:bu:={an:=[(1,2,ah)]}
def ajl(H:cc 291 [.agg [N f,N g,B i,W j,W k],.agg [N a,N b,B c,W d,W e]] [] fun l=>Fi r h [vB l] [.aH [vN a,vN b,vB c,vW d,vW e]]):
  al 290 [.agg [N f,N g,B i,W j,W k],.aB 0 0] [.aH [vN a,vN b,vB c,vW d,vW e]] r h:=.of func290 ajk H
def ajm:bu:={an:=[(1,4,aa),(1,5,aa),(1,6,aa),(1,9,aa),(1,10,aa),(1,11,aa),(1,12,aa),(1,13,aa),(1,16,aa),(1,17,aa),(1,18,aa),(1,19,aa),(1,20,aa),(1,23,aa),(1,24,aa),(1,25,aa),(1,26,aa),(1,27,aa),(1,30,aa),(1,31,aa),(1,32,aa),(1,33,aa),(1,34,aa)]}
def ajn(H:Fi r h [vB (bif(bif(bif(bif(bif(b==1)then(g==1)else false)then(a==f)else false)then(c==i)else false)then(d==j)else false)then(e !=k)else false)] []):
  al 291 [.agg [N a,N b,B c,W d,W e],.agg [N f,N g,B i,W j,W k]] [] r h:=.of func291 ajm H
def ajo:bu:={an:=[(1,2,ah)]}
def ajp(H:cc 293 [vL 5 a,.agg [N b,N c,B d,W e,W f]] [] fun g=>Fi r h [vB (!g)] [.aH [vL 5 a]]):
  al 294 [.agg [N b,N c,B d,W e,W f],.aB 0 0] [.aH [vL 5 a]] r h:=.of func294 ajo H
def nx(a b:Hf):Bool:=bif(bif(bif(bif(bif(a.op==1)then(b.op==1)else false)then(a.arg==b.arg)else false)then(a.high==b.high)else false)then(a.mask==b.mask)else false)then(a.value !=b.value)else false
def ajq(a b:Hf):al 291 [VC a,VC b] [] [vB (nx a b)] []:=by apply ajn;exact fi
abbrev hfB(h:Hf):Bx:=.aH [vN h.arg,vN h.op,vB h.high,vW h.mask,vW h.value]
def aco(l:List Hf)(h:Hf)(d:l.length<=2^40):al 289 [vL 5 (l.map Hf.row),.fn (.func 290) [] [.aB 0 0]] [hfB h] [vB (l.any fun x=>nx x h)] [hfB h]:=by
 apply Q4;refine⟨_,by
  apply Rm;exact eQ (Hd:=fun i=>pV _ _ i h.arg h.op h.high h.mask h.value) (p:=fun x=>nx x h) d fun i r e b c=>KL _ _ _ _ _ _ _ _ (eT (l:=l) (by simp) (fun x a=>⟨x.arg,x.op,x.high,x.mask,x.value,by omega,aQ a,_,by apply ajl;exact⟨_,ajq x h,fi⟩,b x a⟩) c),ai (by rw[mB]) rfl⟩
def tL(v x:Hf):Bool:=(((((true&&(v.arg==x.arg))&&(v.op==x.op))&&(v.high==x.high))&&(v.mask==x.mask))&&(v.value==x.value))
def acp(l:List Hf)(v:Hf)(d:l.length<=2^40):al 293 [vL 5 (l.map Hf.row),VC v] [] [vB (l.any (tL v))] []:=by
 apply aeI;refine⟨_,by
  apply aeS;exact eQ (Hd:=fun i=>E5 _ _ i v.arg v.op v.high v.mask v.value) (p:=tL v) d fun i r e b c=>Y0 _ _ _ _ _ _ _ _ (eT (l:=l) (by simp) (fun x a=>⟨x.arg,x.op,x.high,x.mask,x.value,by omega,aQ a,b x a⟩) c),ai (by rw[mB]) rfl⟩
def acq(l b:List Hf)(f:l.length<=2^40)(e:b.length<=2^40):al 289 [vL 5 (l.map Hf.row),.fn (.func 294) [] [.aB 0 0]] [.aH [vL 5 (b.map Hf.row)]] [vB (l.any fun h => !b.any (tL h))] [.aH [vL 5 (b.map Hf.row)]]:=by
 apply Q6;refine⟨_,by
  apply Rn;exact eQ (Hd:=fun i=>pW _ _ i _) (p:=fun h => !b.any (tL h)) f fun i r g c d=>KM _ _ _ _ (eT (l:=l) (by simp) (fun x a=>⟨x.arg,x.op,x.high,x.mask,x.value,by omega,aQ a,_,by apply ajp;exact⟨_,acp b x e,fi⟩,c x a⟩) d),ai (by rw[mB]) rfl⟩
def cB:List Hf->List Hf->List Hf×Bool
 |[],a=>(a,true)
 |h::t,a=>bif ma h then([],false)else bif a.any (fun x=>nx x h)then([],false)else bif !jC h then(bif !a.any (tL h)then cB t (a++[h])else cB t a)else cB t a
def rU:∀(l a:List Hf),(cB l a).1.length<=a.length+l.length
 |[],a=>ar _
 |h::t,a=>by
  have b:=rU t (a++[h]);have c:=rU t a;simp only[dw,aE,cN]at b⊢;unfold cB;cases ma h
  .cases a.any fun x=>nx x h
   .cases jC h
    .cases a.any (tL h)<;>simp only[aj,af,ec,kh]<;>omega
    .simp only[aj,af,ec];omega
   .simp
  .simp
def prR:List Hf×Bool->List AV
 |(l,true)=>[.own 0 0 5 (l.map Hf.row),vB true]
 |(_,false)=>[vL 5 [],vB false]
def og:∀(l a:List Hf),(cB l a).2=false->(cB l a).1=[]
 |[],a,h=>by simp[cB]at h
 |x::t,a,h=>by
  unfold cB at h⊢;cases h1:ma x<;>rw[h1]at h
  .cases h2:a.any (fun y=>nx y x)<;>rw[h2]at h
   .cases h3:jC x<;>rw[h3]at h
    .cases h4:a.any (tL x)<;>rw[h4]at h
     .exact og t _ h
     .exact og t _ h
    .exact og t _ h
   .rfl
  .rfl
def ajr(l:List Hf)(o:l.length<=2^40):al 227 [vL 5 (l.map Hf.row)] [] [vL 5 ((cB l []).1.map Hf.row),vB (cB l []).2] []:=by
 have key:∀(t:List Hf)(i:Nat)(a:List Hf),l.drop i=t->a.length<=i->wX (a.map Hf.row) (l.map Hf.row) l.length i (prR (cB t a)) []:=by
  intro t;induction t with
  |nil=>intro i a e _;apply S7;exact aP (l:=l) rfl e fi
  |cons x t k=>
   intro i a e p;obtain⟨m,f,n⟩:=drop_cons e;apply S7;refine aK (l:=l) rfl e ⟨x.arg,x.op,x.high,x.mask,x.value,by omega,aQ m,_,aje x,ad (fun b=>ai (by rw[cB,b];rfl) rfl) fun b=>⟨_,aco a x (by omega),ad (fun c=>ai (by rw[cB,b,c];rfl) rfl) fun c=>
    ⟨_,ajf x,ad (fun d=>⟨_,acp a x (by omega),ad (fun g=>⟨by simp;omega,aC,?_⟩) fun g=>⟨aC,?_⟩⟩) fun d=>⟨aC,?_⟩⟩⟩⟩
   .have:=k (i+1) (a++[x]) f (by simp;omega)
    rw[cB,b,c,d,g];rw[bM (l₁:=a) (l₂:=[x])]at this;exact this
   .rw[cB,b,c,d,g]
    exact k (i+1) a f (by omega)
   .rw[cB,b,c,d]
    exact k (i+1) a f (by omega)
 have w:al 227 [vL 5 (l.map Hf.row)] [] (prR (cB l [])) []:=by
  apply ajh;rw[ao];exact key l 0 [] rfl (by simp)
 cases hb:(cB l []).2
 .have j:cB l []=([],false):=Prod.ext (og l [] hb) hb
  rw[j]at w⊢;exact w
 .have j:cB l []=((cB l []).1,true):=Prod.ext rfl hb
  rw[j]at w;exact Go.Ac.al.soft w rfl
def yH(a b:List Hf):Bool:=bif decide ((a.length:Int)<=(b.length:Int))then !(a.any fun h => !b.any (tL h))else false
def ajs(a b:List Hf)(c:a.length<=2^40)(d:b.length<=2^40):al 228 [vL 5 (a.map Hf.row),vL 5 (b.map Hf.row)] [] [vB (yH a b)] []:=by
 have e:(a.map Hf.row).length=a.length:=ao ..;have lb:(b.map Hf.row).length=b.length:=ao ..;apply ajj;rw[e,lb];exact ad (fun h=>⟨_,acq a b c d,ai (by rw[yH,h];rfl) rfl⟩) fun h=>ai (by rw[yH,h];rfl) rfl
def gv:List (List Hf)->List (List Hf)
 |[]=>[]
 |x::t=>bif(cB x []).2 then(cB x []).1::gv t else gv t
def tM(x:List Hf)(i:Int):List (List Hf)->Int->Bool->Bool
 |[],_,g=>g
 |y::t,k,g=>tM x i t (k+1) (bif g then true else bif k !=i then(bif yH y x then(bif decide ((y.length:Int)<(x.length:Int))then true else decide (k<i))else false)else false)
def qA(left:List (List Hf)):List (List Hf)->Int->List (List Hf)
 |[],_=>[]
 |x::t,i=>bif !tM x i left 0 false then x::qA left t (i+1)else qA left t (i+1)
def tN(l:List (List Hf)):List (List Hf):=qA (gv l) (gv l) 0
def Aw:∀(l:List (List Hf)),(∀x∈l,x.length<=n)->(gv l).length<=l.length/\∀x∈gv l,x.length<=n
 |[],_=>⟨ar _,by simp[gv]⟩
 |x::t,h=>by
  obtain⟨d,b⟩:=Aw t fun y a=>h y (aW _ a)
  have e:=h x aX;have c:=rU x [];unfold gv;cases(cB x []).2
  .exact⟨by simp only[af,aE];omega,b⟩
  .refine⟨by simp only[aj,aE];omega,fun y a=>?_⟩
   rcases aZ.1 (show y∈(cB x []).1::gv t from a)with rfl|a
   .simp at c;omega
   .exact b y a
def vw:∀(l:List (List Hf))(i:Int),(qA left l i).length<=l.length/\∀x∈qA left l i,x∈l
 |[],i=>⟨ar _,by simp[qA]⟩
 |x::t,i=>by
  obtain⟨c,b⟩:=vw (left:=left) t (i+1);unfold qA;cases tM x i left 0 false
  .refine⟨by simp only[kh,aj,aE];omega,fun y a=>?_⟩
   rcases aZ.1 (show y∈x::qA left t (i+1)from a)with rfl|a
   .exact aX
   .exact aW _ (b y a)
  .exact⟨by simp only[ec,af,aE];omega,fun y a=>aW _ (b y a)⟩
def ajt(l:List (List Hf))(T:l.length<=2^40)(u:∀x∈l,x.length<=2^40):al 161 [vL 1 (cF l)] [] [vL 1 (cF (tN l))] []:=by
 obtain⟨Q,h⟩:=Aw l u;have p:∀z:List (List Hf),(cF z).length=z.length:=fun z=>ao ..
 have one:∀(z:List (List Hf))(x:List Hf),cF (z++[x])=cF z++[[L 5 (x.map Hf.row)]]:=fun z x=>by simp[cF,hfR]
 have H:∀(left:List (List Hf)),left.length<=2^40->(∀x∈left,x.length<=2^40)->∀(t:List (List Hf))(i:Nat)(a:List (List Hf)),left.drop i=t->a.length<=i ->
   Av (cF left) (cF a) (cF left) left.length i [.own 0 0 1 (cF (a++qA left t i))] []:=by
  intro left Y w t;induction t with
  |nil=>intro i a c _;apply S5;exact aP (l:=left) rfl c (ai (by simp[qA]) rfl)
  |cons x t f=>
   intro i a c E;obtain⟨d,e,D⟩:=drop_cons c;have K:=w x (aM d);have inner:∀(s:List (List Hf))(j:Nat)(g:Bool),left.drop j=s ->
     wW (cF left) (cF a) i (x.map Hf.row) g (cF left) left.length i (cF left) left.length j [.own 0 0 1 (cF (a++(bif !tM x i s j g then x::qA left t (i+1)else qA left t (i+1))))] []:=by
    intro s;induction s with
    |nil=>
     intro j g m;apply S6;refine aP (l:=left) rfl m (ad (fun b=>⟨by simp[cF];omega,aC,?_⟩) fun b=>⟨aC,?_⟩)
     .have:=f (i+1) (a++[x]) e (by simp;omega)
      rw[tM,b,aj];rw[one,bp]at this;exact this
     .rw[tM,b,af]
      exact f (i+1) a e (by omega)
    |cons y s q=>
     intro j g m;obtain⟨v,o,X⟩:=drop_cons m;have M:=w y (aM v);have J:(y.map Hf.row).length=y.length:=ao ..;have I:(x.map Hf.row).length=x.length:=ao ..;apply S6;rw[tM];refine aK (l:=left) rfl m ⟨y.map Hf.row,by omega,aQ v,?_⟩
     simp only[J,I];refine ad (fun b=>⟨aC,?_⟩) fun b=>ad (fun n=>⟨_,ajs y x M K,aC,?_⟩) fun n=>⟨aC,?_⟩
     .rw[b];exact q (j+1) _ o
     .rw[b,n];exact q (j+1) _ o
     .rw[b,n];exact q (j+1) _ o
   apply S5;refine aK (l:=left) rfl c ⟨x.map Hf.row,by omega,aQ d,?_⟩
   rw[p];exact inner left 0 false rfl
 have G:∀(t:List (List Hf))(i:Nat)(a:List (List Hf)),l.drop i=t->a.length<=i->gv l=a++gv t->Au (cF a) (cF l) l.length i [.own 0 0 1 (cF (tN l))] []:=by
  intro t;induction t with
  |nil=>
   intro i a c _ k;simp only[gv,fa]at k;subst k;apply S3;refine aP (l:=l) rfl c ?_;rw[p];exact H (gv l) (by omega) h (gv l) 0 [] rfl (by simp)
  |cons x t f=>
   intro i a c E k;obtain⟨d,e,D⟩:=drop_cons c;apply S3;refine aK (l:=l) rfl c ⟨x.map Hf.row,by omega,aQ d,_,_,ajr x (u x (aM d)),ad (fun b=>⟨by simp[cF];omega,aC,?_⟩) fun b=>⟨aC,?_⟩⟩
   .have:=f (i+1) (a++[(cB x []).1]) e (by simp;omega) (by rw[k,gv,b,aj,bp];rfl)
    rw[one]at this;exact this
   .exact f (i+1) a e (by omega) (by rw[k,gv,b,af])
 refine Go.Ac.al.soft (r:=[.own 0 0 1 _]) ?_ rfl;apply ajg;rw[p];exact G l 0 [] rfl (by simp) rfl
def Ih(a:Rw)(b c:Int)(d:List (PV×AV)):St:=⟨aO 69 [(4,.mp 0),(15,vL 9 a),(16,vN b),(17,vN c)],[],[.map 209 d]⟩
def Ii(a b:Rw)(c d:Int)(e:List (PV×AV)):St:=⟨aO 69 [(4,.mp 0),(11,.own 0 0 2 a),(53,vL 1 b),(54,vN c),(55,vN d)],[some 0],[.map 209 e]⟩
def A80:bu:={an:=[(4,1,ah),(5,2,ah),(8,2,ah),(11,2,fh),(11,5,fh),(11,6,je),(11,9,fh),(11,11,{fz:=true,bD:=true,cons:=[0]}),(11,12,je),(14,1,{fn:=165}),(16,1,ah)],cut:=[(15,{bl:=[4,11,53,54,55],cW:=[(11,2)],owns:=[11]}),(3,{bl:=[4,15,16,17]})]}
def W80(H:Lp f80 0 (Ih a (a.length:Int) 0 []) 0 r h):
  al 80 [vL 9 a] [] r h:=.of func80 A80 H
def Xj(a:List (PV×AV))(H:aw (decide (b<e)) (vb d b fun c k l q s t u w x=>∃p m,al 106 [.agg [N k,N l]] [] [vW p,vB m] []/\aw (!m) (Fi r h [vL 2 [],vN 1] [])
 (∃f g,al 107 [.agg [N q,N s,N t,U u,U w,L 6 x]] [] [vL 1 f,vN g] []/\aw (g !=0) (Fi r h [vL 2 [],vN g] [])
 (((cE a (W c)=none/\∃n,al 108 [.own 0 0 3 [],.agg [L 1 f,N k,N l]] [] [.own 0 0 3 n] []/\au (b+1)/\Lp f80 0 (Ih d e (b+1) (cw a (W c) (O 3 n))) 0 r h)\/(∃i,cE a (W c)=some (O 3 i)/\∃o,al 108 [.own 0 0 3 i,.agg [L 1 f,N k,N l]] [] [.own 0 0 3 o] []/\au (b+1)/\Lp f80 0 (Ih d e (b+1) (cw (cw a (W c) (.v (.sl 3 i))) (W c) (O 3 o))) 0 r h)))))
 (al 110 [.mp 0] [.map 209 a] [.fn (.func 165) [] [.aB 1 0]] [.map 209 a,.aH [.mp 0]]/\∃j,al 109 [.fn (.func 165) [] [.aB 0 0]] [.aH [.mp 1],.map 209 a] [vL 1 j] [.aH [.mp 1],.map 209 a]/\Lp f80 1 (Ii [] j (j.length:Int) 0 a) 0 r h)):
  Lp f80 0 (Ih d e b a) 0 r h:=.of A80 H
def Xk(b e:Rw)(d:List (PV×AV))(H:aw (decide (a<f)) (Rdw e a fun c=>((cE d (W c)=none/\(b++([[W c,L 3 []]]:Rw)).length*32<=2^47/\au (a+1)/\Lp f80 1 (Ii (b++([[W c,L 3 []]]:Rw)) e f (a+1) d) 0 r h)\/(∃g,cE d (W c)=some (O 3 g)/\(b++([[W c,L 3 g]]:Rw)).length*32<=2^47/\au (a+1)/\Lp f80 1 (Ii (b++([[W c,L 3 g]]:Rw)) e f (a+1) d) 0 r h)))
 (Fi r h [.own 0 0 2 b,vN 0] [])):
  Lp f80 1 (Ii b e f a d) 0 r h:=.of A80 H
abbrev FI(a b:Rw)(c d:Int)r h:=Lp f107 0 ⟨aO 43 [(6,.own 0 0 1 a),(19,vL 1 b),(20,vN c),(21,vN d)],[some 0],[]⟩ 0 r h
def acr:bu:={an:=[(1,1,ah),(7,1,ah),(8,1,ah),(10,3,aa),(10,4,aa),(10,5,aa),(13,1,ah)],cut:=[(6,{bl:=[6,19,20,21],cW:=[(6,1)],owns:=[6]})]}
def ajv(H:∃a b,al 159 [.agg [N c,N d,N e,U f,U g,L 6 i]] [] [vL 1 a,vN b] []/\aw (b !=0) (Fi r h [vL 1 [],vN b] [])
 (FI [] a (a.length:Int) 0 r h)):
  al 107 [.agg [N c,N d,N e,U f,U g,L 6 i]] [] r h:=.of func107 acr H
def S8(H:aw (decide (b<e)) (Qt d b fun i=>∃c f,al 160 [vL 4 i] [] [vL 1 c,vB f] []/\(a++c).length*24<=2^47/\aw (bif(!f)then true else(decide (((a++c).length:Int)>256))) (Fi r h [vL 1 [],vN 9] [])
 (au (b+1)/\FI (a++c) d e (b+1) r h))
 (∃g,al 161 [vL 1 a] [] [vL 1 g] []/\Fi r h [vL 1 g,vN 0] [])):
  FI a d e b r h:=.of acr H
def ajw:bu:={an:=[(1,14,ah),(1,15,ah)]}
def ajx(a b:Rw)(H:aw ((b.length:Int)==0) (Fi r h [.own 0 0 3 a] []) (aw (decide ((a.length:Int)>0)) (au ((a.length:Int)-1)/\rG a ((a.length:Int)-1) fun e f g=>cc 162 [.agg [L 1 e,N f,N g]] [] fun i=>aw i (Fi r h [.own 0 0 3 a] [])
 ((a++([[L 1 b,N c,N d]]:Rw)).length*40<=2^47/\Fi r h [.own 0 0 3 (a++([[L 1 b,N c,N d]]:Rw))] [])) ((a++([[L 1 b,N c,N d]]:Rw)).length*40<=2^47/\Fi r h [.own 0 0 3 (a++([[L 1 b,N c,N d]]:Rw))] []))):
  al 108 [.own 0 0 3 a,.agg [L 1 b,N c,N d]] [] r h:=.of func108 ajw H
abbrev FJ(a b:Rw)(c d:Int)r h:=Lp f160 0 ⟨aO 26 [(4,vL 1 a),(9,vL 4 b),(10,vN c),(11,vN d)],[],[]⟩ 0 r h
def acs:bu:={an:=[(4,1,ah),(6,2,ah),(6,3,ah)],cut:=[(3,{bl:=[4,9,10,11]})]}
def ajy(H:FJ [[L 5 []]] a (a.length:Int) 0 r h):
  al 160 [vL 4 a] [] r h:=.of func160 acs H
def S9(H:aw (decide (a<d)) (YA c a fun e f g i=>Hn 226 [.agg [N e,N f,U g,U i]] [] fun j=>qZ8 225 [vL 1 b,vL 1 j] [] fun k l=>aw (!l) (Fi r h [vL 1 [],vB false] [])
 (au (a+1)/\FJ k c d (a+1) r h))
 (Fi r h [vL 1 b,vB true] [])):
  FJ b c d a r h:=.of acs H
def ajz:bu:={}
def ajA(H:cc 229 [vL 1 a,.fn (.func 230) [] []] [] fun d=>Fi r h [vB d] []):
  al 162 [.agg [L 1 a,N b,N c]] [] r h:=.of func162 ajz H
def ajB:bu:={}
def ajC(H:Fi r h [vB ((a.length:Int)==0)] []):
  al 230 [vL 5 a] [] r h:=.of func230 ajB H
def cX:List At->List (List Hf)->List (List Hf)×Bool
 |[],b=>(b,true)
 |a::t,b=>bif !(lU b (dO a)).2 then([],false)else cX t (lU b (dO a)).1
def Ax(a:At):CL 2 (dO a):=by
 unfold dO kF;cases !rS a.arg a.op
 .cases a.op==1
  .cases a.op==2
   .cases a.op==6
    .cases a.op==4<;>exact⟨by simp,by simp⟩
    .exact⟨by simp,by simp⟩
   .exact⟨by simp,by simp⟩
  .exact⟨by simp,by simp⟩
 .exact⟨by simp,by simp⟩
def tO:∀(l:List At)(b:List (List Hf))(n:Nat),CL n b->CL (n+2*l.length) (cX l b).1
 |[],b,n,h=>h
 |a::t,b,n,h=>by
  unfold cX;have c:=As h.each (Ax a).each;cases(lU b (dO a)).2
  .exact⟨by simp,by simp⟩
  .have:=tO t _ _ c
   rw[show n+2+2*t.length=n+2*(a::t).length by simp;omega]at this
   exact this
def ajD(l:List At)(p:l.length<=2^38):al 160 [vL 4 (l.map At.row)] [] [vL 1 (cF (cX l [[]]).1),vB (cX l [[]]).2] []:=by
 have key:∀(t:List At)(i:Nat)(b:List (List Hf))(n:Nat),l.drop i=t->CL n b->n<=2*i+1->FJ (cF b) (l.map At.row) l.length i [vL 1 (cF (cX t b).1),vB (cX t b).2] []:=by
  intro t;induction t with
  |nil=>intro i b n c _ _;apply S9;exact aP (l:=l) rfl c fi
  |cons a t m=>
   intro i b n c f q;obtain⟨j,k,o⟩:=drop_cons c;have e:=Ax a;apply S9;refine aK (l:=l) rfl c ⟨a.arg,a.op,a.mask,a.value,by omega,aQ j,_,ajd a,_,_,Go.Ac.al.soft (aja b (dO a) (by have:=f.len;omega) (by have:=e.len;omega) (fun x g=>by have:=f.each x g;omega) (fun x g=>by have:=e.each x g;omega)) rfl,
    ad (fun d=>ai (by rw[cX,d];rfl) rfl) fun d=>⟨aC,?_⟩⟩
   rw[cX,d];exact m (i+1) _ _ k (As f.each e.each) (by omega)
 apply ajy;rw[ao];exact key l 0 [[]] 0 rfl ⟨by simp,by simp⟩ (by omega)
def mb:List (List At)->List (List Hf)->List (List Hf)×Int
 |[],a=>(tN a,0)
 |x::t,a=>bif(bif !(cX x [[]]).2 then true else decide (((a++(cX x [[]]).1).length:Int)>256))then([],9)else mb t (a++(cX x [[]]).1)
def cv(c:Cn):List (List Hf)×Int:=bif(fm c).2 !=0 then([],(fm c).2)else mb (fm c).1 []
def xH(c:Cn):CL (et c) (fm c).1:=by
 have h:=Lj (o6 c);have a:=Ar c;unfold fm;cases(sR (o6 c)).2
 .exact⟨by simp,by simp⟩
 .exact⟨h.len,fun x b=>dR (h.each x b) a⟩
def ajE(c:Cn)(u:et c<=2^38):al 107 [v7 c] [] [vL 1 (cF (cv c).1),vN (cv c).2] []:=by
 have j:=xH c;generalize o:(fm c).1=l at j;have key:∀(t:List (List At))(i:Nat)(a:List (List Hf)),l.drop i=t->CL (2^40) a->FI (cF a) (iV l) l.length i [vL 1 (cF (mb t a).1),vN (mb t a).2] []:=by
  intro t;induction t with
  |nil=>intro i a g d;apply S8;exact aP (l:=l) rfl g ⟨_,ajt a (by have:=d.len;omega) d.each,fi⟩
  |cons x t p=>
   intro i a g d;obtain⟨k,n,q⟩:=drop_cons g;have v:=j.each x (aM k);have m:=tO x [[]] 0 ⟨by simp,by simp⟩
   have e:cF a++cF (cX x [[]]).1=cF (a++(cX x [[]]).1):=by simp[cF]
   have le:(cF (a++(cX x [[]]).1)).length=(a++(cX x [[]]).1).length:=ao ..;have w:=d.len;have z:=m.len;have r:=j.len;apply S8;refine aK (l:=l) rfl g ⟨x.map At.row,by omega,aQ k,_,_,ajD x (by omega),?_⟩
   rw[e,le];refine⟨by simp;omega,ad (fun b=>ai (by rw[mb,b];rfl) rfl) fun b=>⟨aC,?_⟩⟩
   rw[mb,b];have s:¬(((a++(cX x [[]]).1).length:Int)>256):=by
    cases hb : !(cX x [[]]).2<;>rw[hb]at b
    .exact bI b
    .simp at b
   refine p (i+1) _ n ⟨by omega,fun y f=>?_⟩
   rcases bn.1 f with f|f
   .exact d.each y f
   .have:=m.each y f;omega
 apply ajv;refine⟨_,_,ajc c (by omega),ad (fun h=>ai (by rw[cv,h];rfl) rfl) fun h=>?_⟩
 rw[cv,h,o,show(iV l).length=l.length from ao ..]
 exact key l 0 [] rfl ⟨by simp,by simp⟩
structure Sp where
 cl:List (List Hf)
 act:Act
def Sp.row(s:Sp):List PV:=[L 1 (cF s.cl),N s.act.kind,N s.act.data]
abbrev spA(s:Sp):AV:=.agg [L 1 (cF s.cl),N s.act.kind,N s.act.data]
def oh(a:List (List Hf)):Bool:=a.any fun l=>(l.length:Int)==0
def acu(s:Sp)(d:s.cl.length<=2^40):al 162 [spA s] [] [vB (oh s.cl)] []:=by
 apply ajA;refine⟨_,by
  apply QT;refine⟨_,by
   apply Q7;exact eQ (Hd:=fun i=>pR _ _ i) (p:=fun l:List Hf=>(l.length:Int)==0) d fun i r e b c=>KH _ _ _ (eT (l:=s.cl) (by simp[cF]) (fun x a=>⟨x.map Hf.row,by omega,aQ a,_,by apply ajC;rw[ao];exact fi,b x a⟩) c),ai (by rw[mB];rfl) rfl⟩,fi⟩
def ny(l:List Sp)(s:Sp):List Sp:=bif(s.cl.length:Int)==0 then l else bif decide ((l.length:Int)>0)then(bif oh (l.getLastD ⟨[],⟨0,0⟩⟩).cl then l else l++[s])else l++[s]
def acv(l:List Sp)(s:Sp)(k:l.length<=2^40)(g:∀x∈l,x.cl.length<=2^40):al 108 [.own 0 0 3 (l.map Sp.row),spA s] [] [.own 0 0 3 ((ny l s).map Sp.row)] []:=by
 have i:(cF s.cl).length=s.cl.length:=ao ..;have j:(l.map Sp.row).length=l.length:=ao ..;have e:l.map Sp.row++([[L 1 (cF s.cl),N s.act.kind,N s.act.data]]:Rw)=(l++[s]).map Sp.row:=by simp[Sp.row]
 apply ajx;rw[i,e,j];refine ad (fun h=>ai (by rw[ny,h];rfl) rfl) fun h=>ad (fun a=>?_) fun a=>⟨by simp;omega,ai (by rw[ny,h,a];rfl) rfl⟩
 have c:=aV a;have d:l≠[]:=by intro h;rw[h]at c;simp at c
 have f:l.getLast?=some (l.getLastD ⟨[],⟨0,0⟩⟩):=by rw[jF d,km,jF d];rfl
 refine⟨aC,cF (l.getLastD ⟨[],⟨0,0⟩⟩).cl,(l.getLastD ⟨[],⟨0,0⟩⟩).act.kind,(l.getLastD ⟨[],⟨0,0⟩⟩).act.data,by omega,?_,_,acu (l.getLastD ⟨[],⟨0,0⟩⟩) (g _ (uz f)),ad (fun b=>ai (by rw[ny,h,a];simp only[aj,af,b]) rfl) fun b=>⟨by simp;omega,ai (by rw[ny,h,a];simp only[aj,af,b]) rfl⟩⟩
 rw[show toNat ((l.length:Int)-1)=l.length-1 by omega,bw,<-yq,f]
 rfl
abbrev Mk:=Int×List Sp
def VF(l:List Mk):List (PV×AV):=l.map fun x=>(W x.1,O 3 (x.2.map Sp.row))
def gG(l:List Mk)(k:Int):Option Mk:=l.find? fun x=>k==x.1
def o8(x:Mk):List Mk->List Mk
 |[]=>[x]
 |y::l=>bif x.1==y.1 then x::l else y::o8 x l
def FK(a b:Int):l0 (W a) (W b)=(a==b):=rfl
def yI(k:Int):∀(l:List Mk),cE (VF l) (W k)=(gG l k).map fun x=>O 3 (x.2.map Sp.row)
 |[]=>rfl
 |x::l=>by
  have a:=yI k l;unfold VF gG at a⊢;rw[bH,cE,FK,cj];cases k==x.1
  .exact a
  .rfl
def ME(x:Mk):∀(l:List Mk),cw (VF l) (W x.1) (O 3 (x.2.map Sp.row))=VF (o8 x l)
 |[]=>rfl
 |y::l=>by
  have a:=ME x l;unfold VF at a⊢;rw[bH,cw,FK,o8];cases x.1==y.1
  .rw[aN (by decide),a];rfl
  .rfl
def MF(k:Int)(a b:AV):∀(c:List (PV×AV)),cw (cw c (W k) a) (W k) b=cw c (W k) b
 |[]=>by simp only[cw,FK,beq_self_eq_true];rfl
 |y::c=>by
  rw[cw];split
  .rename_i h
   rw[cw,FK,beq_self_eq_true,aJ rfl];rw[cw,aJ h]
  .rename_i h
   rw[cw,aN h,MF k a b c];rw[cw,aN h]
structure Ch where
 nr:Int
 steps:List Sp
def Ch.row(c:Ch):List PV:=[W c.nr,L 3 (c.steps.map Sp.row)]
def cS:List Bd->List Mk->Except Int (List Mk)
 |[],m=>.ok m
 |b::t,m=>bif !(cd b.act).2 then .error 1 else bif(cv b.cond).2 !=0 then .error (cv b.cond).2 else cS t (o8 (b.nr,ny (((gG m b.nr).map (·.2)).getD []) ⟨(cv b.cond).1,b.act⟩) m)
def bY(m:List Mk):List Ch:=(gR (m.map (·.1))).map fun k=>⟨k,((gG m k).map (·.2)).getD []⟩
def qi(l:List Bd):Except Int (List Ch):=match cS l []with
 |.error e=>.error e
 |.ok m=>.ok (bY m)
def chR:Except Int (List Ch)->List AV
 |.error e=>[vL 2 [],vN e]
 |.ok l=>[.own 0 0 2 (l.map Ch.row),vN 0]
def chV:Except Int (List Ch)->List AV
 |.error e=>[vL 2 [],vN e]
 |.ok l=>[vL 2 (l.map Ch.row),vN 0]
structure ZB (n:Nat) (m:List Mk):Prop where
 nodup:(m.map (·.1)).Nodup
 len:m.length<=n
 steps:∀x∈m,x.2.length<=n/\∀s∈x.2,s.cl.length<=256
def lW:∀{l:List Mk}{y:Mk},y∈o8 x l->y=x\/y∈l
 |[],y,h=>by simp[o8]at h;exact .inl h
 |z::l,y,h=>by
  unfold o8 at h;cases hk:x.1==z.1<;>rw[hk]at h
  .rw[af]at h
   rcases aZ.1 h with rfl|h
   .exact .inr aX
   .rcases lW h with h|h
    .exact .inl h
    .exact .inr (aW _ h)
  .rw[aj]at h
   rcases aZ.1 h with rfl|h
   .exact .inl rfl
   .exact .inr (aW _ h)
def Ay(x:Mk):∀(l:List Mk),(o8 x l).length<=l.length+1
 |[]=>ar _
 |z::l=>by
  have:=Ay x l;unfold o8;cases x.1==z.1<;>simp only[aj,af,aE]<;>omega
def tP:∀{l:List Mk},(l.map (·.1)).Nodup->((o8 x l).map (·.1)).Nodup
 |[],_=>by simp[o8]
 |z::l,h=>by
  rw[bH,iu]at h;unfold o8;cases hk:x.1==z.1
  .rw[af,bH,iu]
   refine⟨fun c=>?_,tP h.2⟩
   obtain⟨y,a,b⟩:=bh.1 c;rcases lW a with rfl|a
   .exact gJ hk b
   .exact h.1 (bh.2 ⟨y,a,b⟩)
  .rw[aj,bH,iu,eq_of_beq hk]
   exact h
def CP:∀(l:List (List Hf)),(gv l).length<=l.length
 |[]=>ar _
 |x::t=>by
  have:=CP t;unfold gv;cases(cB x []).2<;>simp only[aj,af,aE]<;>omega
def ZB.mono(h:ZB n l)(b:n<=m):ZB m l:=⟨h.nodup,by have:=h.len;omega,fun x a=>⟨by have:=(h.steps x a).1;omega,(h.steps x a).2⟩⟩
def Az:∀(l:List (List At))(a:List (List Hf)),a.length<=256->(mb l a).1.length<=256
 |[],a,h=>by
  have b:=(vw (left:=gv a) (gv a) 0).1;have c:=CP a;show(tN a).length<=256
  unfold tN;omega
 |x::t,a,h=>by
  unfold mb;cases hb:(bif !(cX x [[]]).2 then true else decide (((a++(cX x [[]]).1).length:Int)>256))
  .refine Az t _ ?_
   cases hc : !(cX x [[]]).2<;>rw[hc]at hb
   .have:=bI (show decide (((a++(cX x [[]]).1).length:Int)>256)=false from hb)
    omega
   .simp at hb
  .simp
def rV(c:Cn):(cv c).1.length<=256:=by
 unfold cv;cases(fm c).2 !=0
 .exact Az _ _ (by simp)
 .simp
def VG(h:l.length<=n/\∀x∈l,x.cl.length<=256)(d:s.cl.length<=256):(ny l s).length<=n+1/\∀x∈ny l s,x.cl.length<=256:=by
 have a:(l++[s]).length<=n+1/\∀x∈l++[s],x.cl.length<=256:=by
  refine⟨by simp;omega,fun x c=>?_⟩
  rcases bn.1 c with c|c
  .exact h.2 x c
  .rw[cJ.1 c];exact d
 have b:l.length<=n+1/\∀x∈l,x.cl.length<=256:=⟨by omega,h.2⟩
 unfold ny;cases(s.cl.length:Int)==0
 .cases decide ((l.length:Int)>0)
  .exact a
  .cases oh (l.getLastD ⟨[],⟨0,0⟩⟩).cl
   .exact a
   .exact b
 .exact b
def lX(h:gG l k=some x):x∈l/\k=x.1:=by
 unfold gG at h;exact⟨lx h,by have:=qP h;exact eq_of_beq this⟩
def step_ok{b:Bd}(h:ZB n m):ZB (n+1) (o8 (b.nr,ny (((gG m b.nr).map (·.2)).getD []) ⟨(cv b.cond).1,b.act⟩) m):=by
 have a:(((gG m b.nr).map (·.2)).getD []).length<=n/\∀x∈((gG m b.nr).map (·.2)).getD [],x.cl.length<=256:=by
  cases a:gG m b.nr with
  |none=>exact⟨by simp,by simp⟩
  |some x=>exact h.steps x (lX a).1
 refine⟨tP h.nodup,?_,fun x c=>?_⟩
 .have:=Ay (b.nr,ny (((gG m b.nr).map (·.2)).getD []) ⟨(cv b.cond).1,b.act⟩) m
  have:=h.len;omega
 .rcases lW c with rfl|c
  .exact VG a (rV _)
  .have:=h.steps x c
   exact⟨by omega,this.2⟩
def sS:∀(l:List Int)(k:Int),k∈gR l<->k∈l:=by
 have b:∀(n:Int)(l:List Int)(k:Int),k∈nQ n l<->k=n\/k∈l:=by
  intro n l;induction l with
  |nil=>intro k;simp[nQ]
  |cons m l a=>
   intro k;unfold nQ;cases decide (n<=m)
   .simp only[af,aZ,a]
    constructor
    .rintro(h|h|h)<;>simp[h]
    .rintro(h|h|h)<;>simp[h]
   .simp
 intro l;induction l with
 |nil=>intro k;simp[gR]
 |cons n l a=>intro k;rw[gR,b,a];simp
def wY:∀(l:List Int),(gR l).length=l.length:=by
 have b:∀(n:Int)(l:List Int),(nQ n l).length=l.length+1:=by
  intro n l;induction l with
  |nil=>rfl
  |cons m l a=>unfold nQ;cases decide (n<=m)<;>simp[a]
 intro l;induction l with
 |nil=>rfl
 |cons n l a=>rw[gR,b,a];simp
def C80(l:List Bd)(Z:l.length<=2^20)(K:∀b∈l,et b.cond<=2^38)(J:∀b∈l,0<=b.nr/\b.nr<4294967296):al 80 [vL 9 (l.map Bd.row)] [] (chV (qi l)) []:=by
 have Q:∀(m:List Mk),ZB (2^20) m->∀(t:List Int)(i:Nat)(n:List Ch),(gR (m.map (·.1))).drop i=t->n.length<=i ->
   Lp f80 1 (Ii (n.map Ch.row) ((gR (m.map (·.1))).map fun k=>[W k]) (gR (m.map (·.1))).length i (VF m)) 0 [.own 0 0 2 ((n++t.map fun k=>(⟨k,((gG m k).map (·.2)).getD []⟩:Ch)).map Ch.row),vN 0] []:=by
  intro m c t;have D:=c.len;have X:=wY (m.map (·.1))
  rw[ao]at X;induction t with
  |nil=>intro i n g _;apply Xk;exact aP (l:=gR (m.map (·.1))) rfl g (ai (by simp) rfl)
  |cons k t j=>
   intro i n g F;obtain⟨o,s,E⟩:=drop_cons g;have v:k∈m.map (·.1):=(sS _ _).1 (aM o)
   have d:∃x,gG m k=some x:=by
    cases d:gG m k with
    |some x=>exact⟨x,rfl⟩
    |none=>
     obtain⟨y,h,H⟩:=bh.1 v;have:=List.find?_eq_none.1 d y h;simp[H]at this
   obtain⟨x,a⟩:=d;apply Xk;refine aK (l:=gR (m.map (·.1))) rfl g ⟨k,by omega,aQ (f:=fun k=>[W k]) o,.inr ⟨x.2.map Sp.row,by rw[yI,a];rfl,by simp;omega,aC,?_⟩⟩
   have:=j (i+1) (n++[⟨k,x.2⟩]) s (by simp;omega)
   rw[bM (l₁:=n) (l₂:=[_]),bp]at this;rw[bH,a];exact this
 have M:∀(t:List Bd)(i:Nat)(m:List Mk),l.drop i=t->i+t.length=l.length->ZB i m->(∀x∈m,0<=x.1/\x.1<4294967296)->Lp f80 0 (Ih (l.map Bd.row) l.length i (VF m)) 0 (chR (match cS t m with|.error e=>.error e|.ok m=>.ok (bY m))) []:=by
  intro t;induction t with
  |nil=>
   intro i m g r c z;simp only[cN]at r;have c:=c.mono (m:=2^20) (by omega)
   have D:=c.len;apply Xj;have Y:=afo (VF m) (m.map (·.1)) (by simp[VF,Function.comp_def]) c.nodup (fun k v=>by obtain⟨x,a,rfl⟩:=bh.1 v;exact z x a) (by simpa using D)
   refine aP (l:=l) rfl g ⟨afn _,_,Y,?_⟩;have:=Q m c (gR (m.map (·.1))) 0 [] rfl (by simp)
   rw[ao];exact this
  |cons b t j=>
   intro i m g r c z;simp only[aE]at r;obtain⟨o,s,E⟩:=drop_cons g;have G:=K b (aM o);have T:=step_ok (b:=b) c;apply Xj;rw[cS];refine aK (l:=l) rfl g ⟨b.nr,b.act.kind,b.act.data,b.cond.kind,b.cond.arg,b.cond.op,b.cond.mask,b.cond.value,cZ b.cond.kids,by omega,(aQ o).trans (by rw[Bd.row,Cn.cp]),_,_,Vv b.act,ad (fun q=>ai (by rw[q];rfl) rfl) fun q=>
    ⟨_,_,ajE b.cond G,ad (fun u=>ai (by rw[q,u];rfl) rfl) fun u=>?_⟩⟩
   rw[q,u];have j:=j (i+1) _ s (by omega) T fun x a=>(lW a).elim (fun e=>e▸J b (aM o)) fun a=>z x a
   have I:=ME (b.nr,ny (((gG m b.nr).map (·.2)).getD []) ⟨(cv b.cond).1,b.act⟩) m
   rw[<-I]at j;cases d:gG m b.nr with
   |none=>
    rw[d]at j;exact .inl ⟨by rw[yI,d];rfl,_,acv [] ⟨(cv b.cond).1,b.act⟩ (by simp) (by simp),aC,j⟩
   |some x=>
    have a:=c.steps x (lX d).1;rw[d]at j;exact .inr ⟨x.2.map Sp.row,by rw[yI,d];rfl,_,acv x.2 ⟨(cv b.cond).1,b.act⟩ (by omega) (fun y h=>by have:=a.2 y h;omega),aC,by rw[MF];exact j⟩
 have w:al 80 [vL 9 (l.map Bd.row)] [] (chR (qi l)) []:=by
  apply W80;rw[ao];exact M l 0 [] rfl (by simp) ⟨by simp,by simp,by simp⟩ (fun x a=>by simp at a)
 cases ht:qi l with
 |error p=>rw[ht]at w;exact w
 |ok p=>rw[ht]at w;exact Go.Ac.al.soft w rfl
abbrev Ij(a:Int)(b:Rw)(c d e f:Int)(g:Rw)r h:=Lp f83 0 ⟨aO 51 [(3,.aB 0 0),(5,.bA 1),(6,vN a),(10,vL 2 b),(11,vN c),(12,vN d)],[],[.aH [vN e,vN f],.bk 5 g]⟩ 0 r h
def A83:bu:={an:=[(5,1,ah),(10,8,aY),(11,3,ah),(11,4,aY),(15,5,aY)],mod:=[(10,8,[(0,[999])]),(11,4,[(0,[999])]),(15,5,[(0,[999])])],cut:=[(4,{bl:=[3,5,6,10,11,12],iQ:=[(5,5)]})],rf:=true}
def W83(H:Ij 0 a (a.length:Int) 0 b c [] r h):
  al 83 [vL 2 a,.agg [N b,N c]] [] r h:=.of func83 A83 H
def Xl(f:Rw)(H:aw (decide (b<i)) (aaF g b fun a y=>aw (decide ((wrap .i64 a)<e)) (Fi r h [.own 0 0 5 []] [])
 (aw (decide ((wrap .i64 a)>e)) (∃j,al 117 [.bA 0,.agg [W (wrap .u32 e),W (wrap .u32 (a-1)),L 3 [],N c,N d]] [.bk 5 f] [.bA 1] [.dead,.bk 5 j]/\∃k l m n o,al 118 [.agg [W a,L 3 y],.agg [N c,N d]] [] [.agg [W k,W l,L 3 m,N n,N o]] []/\∃p,al 117 [.bA 0,.agg [W k,W l,L 3 m,N n,N o]] [.bk 5 j] [.bA 1] [.dead,.bk 5 p]/\au ((wrap .i64 a)+1)/\au (b+1)/\Ij ((wrap .i64 a)+1) g i (b+1) c d p r h)
 (∃q s t u v,al 118 [.agg [W a,L 3 y],.agg [N c,N d]] [] [.agg [W q,W s,L 3 t,N u,N v]] []/\∃w,al 117 [.bA 0,.agg [W q,W s,L 3 t,N u,N v]] [.bk 5 f] [.bA 1] [.dead,.bk 5 w]/\au ((wrap .i64 a)+1)/\au (b+1)/\Ij ((wrap .i64 a)+1) g i (b+1) c d w r h)))
 (aw (decide (e<=4294967295)) (∃x,al 117 [.bA 0,.agg [W (wrap .u32 e),W 4294967295,L 3 [],N c,N d]] [.bk 5 f] [.bA 1] [.dead,.bk 5 x]/\Fi r h [vL 5 x] [])
 (Fi r h [vL 5 f] []))):
  Ij e g i b c d f r h:=.of A83 H
def ajF:bu:={an:=[(1,1,aY),(2,5,aY),(2,8,ah),(3,4,aY),(5,3,aY)]}
def ajG(H:au ((a.length:Int)-1)/\aw (decide (((a.length:Int)-1)>=0)) ((0<=((a.length:Int)-1)/\((a.length:Int)-1)<(a.length:Int))/\Qu a ((a.length:Int)-1) fun g i j k l=>cc 168 [.agg [W g,W i,L 3 j,N k,N l],.agg [W c,W b,L 3 d,N e,N f]] [] fun m=>aw m ((0<=((a.length:Int)-1)/\((a.length:Int)-1)<(a.length:Int))/\1+1<=5/\Fi r h [.bA 1] [.dead,.bk 5 (setRow a (toNat ((a.length:Int)-1)) 1 [W b])])
 ((a++([[W c,W b,L 3 d,N e,N f]]:Rw)).length*48<=2^47/\Fi r h [.bA 1] [.dead,.bk 5 (a++([[W c,W b,L 3 d,N e,N f]]:Rw))])) ((a++([[W c,W b,L 3 d,N e,N f]]:Rw)).length*48<=2^47/\Fi r h [.bA 1] [.dead,.bk 5 (a++([[W c,W b,L 3 d,N e,N f]]:Rw))])):
  al 117 [.bA 0,.agg [W c,W b,L 3 d,N e,N f]] [.bk 5 a] r h:=.of func117 ajF H
def ajH:bu:={an:=[(1,1,fg),(1,3,fg),(1,5,fg),(1,6,ah),(1,7,fh),(1,10,{fb:=some [3]}),(3,7,ah),(3,8,ah),(4,5,ah)]}
def ajI(H:∃a,al 169 [vL 3 e] [] [vL 3 a] []/\au ((a.length:Int)-1)/\aw (decide (((a.length:Int)-1)>=0)) (rG a ((a.length:Int)-1) fun f g i=>cc 162 [.agg [L 1 f,N g,N i]] [] fun j=>aw j (rG a ((a.length:Int)-1) fun m k l=>(0<=(0:Int)/\(0:Int)<=((a.length:Int)-1)/\((a.length:Int)-1)<=(a.length:Int))/\Fi r h [.agg [W b,W b,L 3 (drop 0 (take (toNat ((a.length:Int)-1)) a)),N k,N l]] [])
 (Fi r h [.agg [W b,W b,L 3 a,N c,N d]] [])) (Fi r h [.agg [W b,W b,L 3 a,N c,N d]] [])):
  al 118 [.agg [W b,L 3 e],.agg [N c,N d]] [] r h:=.of func118 ajH H
def ajJ:bu:={}
def ajK(H:aw ((true&&(b==e))&&(c==f)) (cc 237 [vL 3 a,vL 3 d,.fn (.func 238) [] []] [] fun l=>Fi r h [vB l] []) (Fi r h [vB false] [])):
  al 168 [.agg [W g,W i,L 3 a,N b,N c],.agg [W j,W k,L 3 d,N e,N f]] [] r h:=.of func168 ajJ H
abbrev FL(a b:Rw)(c d:Int)r h:=Lp f169 0 ⟨aO 39 [(3,.own 0 0 3 a),(9,vL 3 b),(10,vN c),(11,vN d)],[some 0],[]⟩ 0 r h
abbrev FM(a b:Rw)(c d:Int)(e:Rw)(f g:Int)(i:Rw)(j k:Int)r h:=Lp f169 1 ⟨aO 39 [(3,.own 0 0 3 a),(6,.aB 0 0),(9,vL 3 b),(10,vN c),(11,vN d),(19,vL 1 e),(20,vN f),(21,vN g)],[some 0],[.aH [O 1 i,vN j,vN k]]⟩ 0 r h
def ZC:bu:={an:=[(4,1,ah),(8,1,ah),(9,1,{take:=true}),(9,3,ah),(9,7,{take:=true})],cut:=[(3,{bl:=[3,9,10,11],cW:=[(3,3)],owns:=[3]}),(7,{bl:=[3,6,9,10,11,19,20,21],cW:=[(3,3)],owns:=[3]})]}
def ajL(H:FL [] a (a.length:Int) 0 r h):
  al 169 [vL 3 a] [] r h:=.of func169 ZC H
def Ta(H:aw (decide (a<d)) (rG c a fun e f g=>FM b c d a e (e.length:Int) 0 [] f g r h)
 (Fi r h [.own 0 0 3 b] [])):
  FL b c d a r h:=.of ZC H
def Tb(b:Rw)(H:aw (decide (a<k)) (wB j a fun m=>Kq 239 [vL 5 m] [] fun l=>(b++([[L 5 l]]:Rw)).length*24<=2^47/\au (a+1)/\FM c g i d j k (a+1) (b++([[L 5 l]]:Rw)) e f r h)
 ((c++([[L 1 b,N e,N f]]:Rw)).length*40<=2^47/\au (d+1)/\FL (c++([[L 1 b,N e,N f]]:Rw)) g i (d+1) r h)):
  FM c g i d j k a b e f r h:=.of ZC H
def ajM:bu:={}
def ajN(H:aw ((true&&(b==e))&&(c==f)) (cc 309 [vL 1 a,vL 1 d,.fn (.func 310) [] []] [] fun g=>Fi r h [vB g] []) (Fi r h [vB false] [])):
  al 238 [.agg [L 1 a,N b,N c],.agg [L 1 d,N e,N f]] [] r h:=.of func238 ajM H
def ajO:bu:={an:=[(1,2,ah)]}
def ajP(H:cc 311 [vL 5 a,vL 5 b] [] fun c=>Fi r h [vB c] []):
  al 310 [vL 5 a,vL 5 b] [] r h:=.of func310 ajO H
def Ik{α:Type}(f:α->α->Bool):List α->List α->Bool
 |x::s,y::t=>bif !f x y then false else Ik f s t
 |_,_=>true
def JA{α:Type}(f:α->α->Bool)(a b:List α):Bool:=bif(a.length:Int) !=(b.length:Int)then false else Ik f a b
def FN{Hd:Int->St}{f:α->α->Bool}{a b:List α}(G:a.length=b.length)(w:a.length<=2^40)(step:∀(i:Nat)(r:List AV)(h:List Bx),(∀x y,a[i]?=some x->b[i]?=some y->aw (!f x y) (Fi r h [vB false] e) (au ((i:Int)+1)/\mI fn j (Hd ((i:Int)+1)) g r h))->(a[i]?=none->Fi r h [vB true] e)->mI fn j (Hd i) g r h):
  mI fn j (Hd 0) g [vB (Ik f a b)] e:=by
 have key:∀(s:List α)(i:Nat)(t:List α),a.drop i=s->b.drop i=t->mI fn j (Hd i) g [vB (Ik f s t)] e:=by
  intro s;induction s with
  |nil=>
   intro i t k c;have:=drop_nil k;exact step i _ _ (fun x y d _=>by rw[eE this]at d;simp at d) fun _=>ai (by cases t<;>rfl) rfl
  |cons x s p=>
   intro i t k c;obtain⟨l,o,v⟩:=drop_cons k;match t,c with
   |[],c=>have:=drop_nil c;omega
   |y::t,c=>
    obtain⟨q,u,z⟩:=drop_cons c;refine step i _ _ (fun D E d n=>?_) fun m=>by rw[l]at m;simp at m
    rw[l]at d;rw[q]at n;obtain rfl:=ax d;obtain rfl:=ax n;refine ad (fun h=>ai (by rw[Ik,h];rfl) rfl) fun h=>⟨aC,?_⟩
    rw[Ik,h];exact p (i+1) t o u
 exact key a 0 b rfl rfl
def ajQ(a b:List Hf)(g:a.length<=2^40):al 311 [vL 5 (a.map Hf.row),vL 5 (b.map Hf.row)] [] [vB (JA tL a b)] []:=by
 apply aeR;rw[ao,ao];refine ad (fun h=>ai (by rw[JA,h];rfl) rfl) fun h=>?_
 have k:a.length=b.length:=by simp at h;omega
 rw[JA,h];exact FN (Hd:=fun i=>E4 _ _ _ i) k g fun i r m e f=>YZ _ _ _ _ (eT (l:=a) rfl (fun x c=>by
  have j:i<b.length:=by have:=(aG.1 c).1;omega
  have d:=bo j;exact⟨_,_,_,_,_,by omega,aQ c,_,_,_,_,_,by omega,aQ d,e x _ c d⟩) f)
def ajR(a b:List Hf)(c:a.length<=2^40):al 310 [vL 5 (a.map Hf.row),vL 5 (b.map Hf.row)] [] [vB (JA tL a b)] []:=by apply ajP;exact⟨_,ajQ a b c,fi⟩
def Il(s:Sp):Prop:=s.cl.length<=2^40/\∀l∈s.cl,l.length<=2^40
def ajS(a b:List (List Hf))(g:a.length<=2^40)(m:∀l∈a,l.length<=2^40):al 309 [vL 1 (cF a),vL 1 (cF b),.fn (.func 310) [] []] [] [vB (JA (JA tL) a b)] []:=by
 have n:(cF a).length=a.length:=ao ..;have lb:(cF b).length=b.length:=ao ..;apply Rg;rw[n,lb];refine ad (fun h=>ai (by rw[JA,h];rfl) rfl) fun h=>?_
 have k:a.length=b.length:=by simp at h;omega
 rw[JA,h];exact FN (Hd:=fun i=>pT _ _ _ i) k g fun i r o e f=>KJ _ _ _ _ (eT (l:=a) rfl (fun x c=>by
  have j:i<b.length:=by have:=(aG.1 c).1;omega
  have d:=bo j;exact⟨_,by omega,aQ c,_,by omega,aQ d,_,ajR x _ (m x (aM c)),e x _ c d⟩) f)
def AA(a b:Sp):Bool:=bif((true&&(a.act.kind==b.act.kind))&&(a.act.data==b.act.data))then JA (JA tL) a.cl b.cl else false
def ajT(a b:Sp)(c:Il a):al 238 [spA a,spA b] [] [vB (AA a b)] []:=by
 apply ajN;exact ad (fun h=>⟨_,ajS a.cl b.cl c.1 c.2,ai (by rw[AA,h];rfl) rfl⟩) fun h=>ai (by rw[AA,h];rfl) rfl
def ajU(a b:List Sp)(g:a.length<=2^40)(m:∀s∈a,Il s):al 237 [vL 3 (a.map Sp.row),vL 3 (b.map Sp.row),.fn (.func 238) [] []] [] [vB (JA AA a b)] []:=by
 apply QW;rw[ao,ao];refine ad (fun h=>ai (by rw[JA,h];rfl) rfl) fun h=>?_
 have k:a.length=b.length:=by simp at h;omega
 rw[JA,h];exact FN (Hd:=fun i=>pM _ _ _ i) k g fun i r n e f=>Ky _ _ _ _ (eT (l:=a) rfl (fun x c=>by
  have j:i<b.length:=by have:=(aG.1 c).1;omega
  have d:=bo j;exact⟨_,_,_,by omega,aQ c,_,_,_,by omega,aQ d,_,ajT x _ (m x (aM c)),e x _ c d⟩) f)
structure Sn where
 lo:Int
 hi:Int
 steps:List Sp
 act:Act
def Sn.row(s:Sn):List PV:=[W s.lo,W s.hi,L 3 (s.steps.map Sp.row),N s.act.kind,N s.act.data]
abbrev snA(s:Sn):AV:=.agg [W s.lo,W s.hi,L 3 (s.steps.map Sp.row),N s.act.kind,N s.act.data]
def wZ(s:Sn):Prop:=s.steps.length<=2^40/\∀x∈s.steps,Il x
def oC(a b:Sn):Bool:=bif((true&&(a.act.kind==b.act.kind))&&(a.act.data==b.act.data))then JA AA a.steps b.steps else false
def ajV(a b:Sn)(c:wZ a):al 168 [snA a,snA b] [] [vB (oC a b)] []:=by
 apply ajK;exact ad (fun h=>⟨_,ajU a.steps b.steps c.1 c.2,ai (by rw[oC,h];rfl) rfl⟩) fun h=>ai (by rw[oC,h];rfl) rfl
def gO:Sn:=⟨0,0,[],⟨0,0⟩⟩
def addN(l:List Sn)(x:Sn):List Sn:=bif decide ((l.length:Int)-1>=0)then(bif oC (l.getLastD gO) x then l.dropLast++[{l.getLastD gO with hi:=x.hi}]else l++[x])else l++[x]
def xI(f:α->α)(v:α):∀(u:List α),(u++[v]).modify u.length f=u++[f v]
 |[]=>rfl
 |a::u=>by
  have:=xI f v u;show(a::(u++[v])).modify (u.length+1) f=a::(u++[f v])
  rw[List.modify_succ_cons,this]
def modify_last(a:l≠[])(n:Int):setRow (l.map Sn.row) (l.length-1) 1 [W n]=(l.dropLast++[{l.getLastD gO with hi:=n}]).map Sn.row:=by
 obtain⟨i,y,rfl⟩:∃i y,l=i++[y]:=⟨l.dropLast,l.getLast a,(yO a).symm⟩;have b:(i++[y]).getLastD gO=y:=by simp[km]
 rw[b,List.dropLast_concat,bM,bM];unfold setRow;rw[show(i++[y]).length-1=(i.map Sn.row).length by simp,bH,oI,xI]
 rfl
def VH(l:List Sn)(x:Sn)(k:l.length<=2^40)(i:∀s∈l,wZ s):al 117 [.bA 0,snA x] [.bk 5 (l.map Sn.row)] [.bA 1] [.dead,.bk 5 ((addN l x).map Sn.row)]:=by
 have j:(l.map Sn.row).length=l.length:=ao ..;have e:l.map Sn.row++([[W x.lo,W x.hi,L 3 (x.steps.map Sp.row),N x.act.kind,N x.act.data]]:Rw)=(l++[x]).map Sn.row:=by simp[Sn.row]
 apply ajG;rw[e,j];refine⟨aC,ad (fun h=>?_) fun h=>⟨by simp;omega,ai rfl (by rw[addN,h];rfl)⟩⟩
 have c:=aV h;have b:l≠[]:=by intro f;rw[f]at c;simp at c
 have d:l.getLast?=some (l.getLastD gO):=by rw[jF b,km,jF b];rfl
 have g:(l.map Sn.row)[toNat ((l.length:Int)-1)]?=some [W (l.getLastD gO).lo,W (l.getLastD gO).hi,L 3 ((l.getLastD gO).steps.map Sp.row),N (l.getLastD gO).act.kind,N (l.getLastD gO).act.data]:=by
  rw[show toNat ((l.length:Int)-1)=l.length-1 by omega,bw,<-yq,d]
  rfl
 refine⟨⟨by omega,by omega⟩,_,_,_,_,_,g,_,ajV (l.getLastD gO) x (i _ (uz d)),ad (fun a=>⟨⟨by omega,by omega⟩,by omega,ai rfl ?_⟩) fun a=>⟨by simp;omega,ai rfl (by rw[addN,h,a];rfl)⟩⟩
 rw[addN,h,a,show toNat ((l.length:Int)-1)=l.length-1 by omega,modify_last b]
 rfl
def rW(a : -9223372036854775808<=n)(b:n<=9223372036854775807):wrap .i64 n=n:=qX (aC a b)
def AB(a:0<=n)(b:n<4294967296):wrap .u32 n=n:=by simp[wrap,IntKind.signed,IntKind.bits];omega
def ajW(l:List Sp)(h:l.length<=2^40)(m:∀s∈l,Il s):al 169 [vL 3 (l.map Sp.row)] [] [vL 3 (l.map Sp.row)] []:=by
 have key:∀(t:List Sp)(i:Nat)(a:List Sp),l.drop i=t->a=l.take i->FL (a.map Sp.row) (l.map Sp.row) l.length i [.own 0 0 3 (l.map Sp.row)] []:=by
  intro t;induction t with
  |nil=>
   intro i a b d;rw[dH (drop_nil b)]at d;rw[d];apply Ta;exact aP (l:=l) rfl b fi
  |cons x t n=>
   intro i a b d;obtain⟨f,k,w⟩:=drop_cons b;obtain⟨E,q⟩:=m x (aM f);have G:a.length<=i:=by rw[d];simp;omega
   have inner:∀(s:List (List Hf))(j:Nat)(z:List (List Hf)),x.cl.drop j=s->z=x.cl.take j->FM (a.map Sp.row) (l.map Sp.row) l.length i (cF x.cl) x.cl.length j (cF z) x.act.kind x.act.data [.own 0 0 3 (l.map Sp.row)] []:=by
    intro s;induction s with
    |nil=>
     intro j z c e;rw[dH (drop_nil c)]at e;subst e;apply Tb;refine aP (l:=x.cl) rfl c ⟨by simp;omega,aC,?_⟩
     have:=n (i+1) (a++[x]) k (by rw[d,eO,f];rfl)
     rw[bM (l₁:=a) (l₂:=[x])]at this;exact this
    |cons y s v=>
     intro j z c e;obtain⟨g,o,D⟩:=drop_cons c;have u:=q y (aM g);have H:z.length<=j:=by rw[e];simp;omega
     apply Tb;refine aK (l:=x.cl) rfl c ⟨y.map Hf.row,by omega,aQ g,_,Go.Ac.al.soft (aex (y.map Hf.row) (by simpa using u)) rfl,by simp[cF];omega,aC,?_⟩
     have:=v (j+1) (z++[y]) o (by rw[e,eO,g];rfl)
     rw[show cF (z++[y])=cF z++[[L 5 (y.map Hf.row)]] by simp[cF,hfR]]at this
     exact this
   apply Ta;refine aK (l:=l) rfl b ⟨cF x.cl,x.act.kind,x.act.data,by omega,aQ f,?_⟩
   have p:(cF x.cl).length=x.cl.length:=ao ..;simp only[p];exact inner x.cl 0 [] rfl rfl
 refine Go.Ac.al.soft (r:=[.own 0 0 3 _]) ?_ rfl;apply ajL;rw[ao];exact key l 0 [] rfl rfl
def tQ:Sp:=⟨[],⟨0,0⟩⟩
def ij(c:Ch)(d:Act):Sn:=bif decide ((c.steps.length:Int)-1>=0)then(bif oh (c.steps.getLastD tQ).cl then⟨c.nr,c.nr,c.steps.dropLast,(c.steps.getLastD tQ).act⟩else⟨c.nr,c.nr,c.steps,d⟩)else⟨c.nr,c.nr,c.steps,d⟩
def VI(c:Ch):Prop:=c.steps.length<=2^40/\∀s∈c.steps,Il s
def ajX(c:Ch)(d:Act)(j:VI c):al 118 [.agg [W c.nr,L 3 (c.steps.map Sp.row)],zW d] [] [snA (ij c d)] []:=by
 obtain⟨l,f⟩:=j;apply ajI;refine⟨_,ajW c.steps l f,?_⟩;rw[ao];refine⟨aC,ad (fun h=>?_) fun h=>ai (by rw[ij,h];rfl) rfl⟩
 have b:=aV h;have g:c.steps≠[]:=by intro k;rw[k]at b;simp at b
 have i:c.steps.getLast?=some (c.steps.getLastD tQ):=by rw[jF g,km,jF g];rfl
 have e:(c.steps.map Sp.row)[toNat ((c.steps.length:Int)-1)]?=some [L 1 (cF (c.steps.getLastD tQ).cl),N (c.steps.getLastD tQ).act.kind,N (c.steps.getLastD tQ).act.data]:=by
  rw[show toNat ((c.steps.length:Int)-1)=c.steps.length-1 by omega,bw,<-yq,i]
  rfl
 refine⟨_,_,_,by omega,e,_,acu _ (f _ (uz i)).1,ad (fun a=>⟨_,_,_,by omega,e,⟨by omega,by omega,by omega⟩,ai ?_ rfl⟩) fun a=>ai (by rw[ij,h];simp only[aj,a,af]) rfl⟩
 rw[ij,h];simp only[aj,a];rw[gh,show toNat ((c.steps.length:Int)-1)=c.steps.length-1 by omega,<-iq,<-D4]
def Lm:Int->List Ch->Prop
 |n,[]=>0<=n/\n<=4294967296
 |n,c::t=>0<=n/\n<=c.nr/\c.nr<4294967296/\Lm (c.nr+1) t
def x6(d:Act):List Ch->Int->List Sn->List Sn
 |[],n,a=>bif decide (n<=4294967295)then addN a ⟨n,4294967295,[],d⟩else a
 |c::t,n,a=>bif decide (c.nr>n)then x6 d t (c.nr+1) (addN (addN a ⟨n,c.nr-1,[],d⟩) (ij c d))else x6 d t (c.nr+1) (addN a (ij c d))
def cA(l:List Ch)(d:Act):List Sn:=x6 d l 0 []
def FO(h:∀s∈l,wZ s)(f:wZ x):(addN l x).length<=l.length+1/\∀s∈addN l x,wZ s:=by
 have a:(l++[x]).length<=l.length+1/\∀s∈l++[x],wZ s:=by
  refine⟨by simp,fun s b=>?_⟩
  rcases bn.1 b with b|b
  .exact h s b
  .rw[cJ.1 b];exact f
 unfold addN;cases hd:decide ((l.length:Int)-1>=0)
 .exact a
 .have c:=aV hd
  have d:l≠[]:=by intro e;rw[e]at c;simp at c
  have g:l.getLast?=some (l.getLastD gO):=by rw[jF d,km,jF d];rfl
  cases oC (l.getLastD gO) x
  .exact a
  .refine⟨by simp,fun s b=>?_⟩
   rcases bn.1 (show s∈l.dropLast++[{l.getLastD gO with hi:=x.hi}]from b)with b|b
   .exact h s (uy l b)
   .rw[cJ.1 b]
    have:=h _ (uz g);exact this
def MG(h:VI c):wZ (ij c d):=by
 unfold ij;cases decide ((c.steps.length:Int)-1>=0)
 .exact h
 .cases oh (c.steps.getLastD tQ).cl
  .exact h
  .exact⟨by have:=h.1;show c.steps.dropLast.length<=_;simp;omega,fun s a=>h.2 s (uy _ a)⟩
def C83(l:List Ch)(d:Act)(X:l.length<=2^30)(H:∀c∈l,VI c)(G:Lm 0 l):al 83 [vL 2 (l.map Ch.row),zW d] [] [vL 5 ((cA l d).map Sn.row)] []:=by
 have M:∀a b,wZ ⟨a,b,[],d⟩:=fun a b=>⟨by simp,by simp⟩
 have key:∀(t:List Ch)(i:Nat)(n:Int)(e:List Sn),l.drop i=t->i+t.length=l.length->Lm n t->e.length<=2*i->(∀s∈e,wZ s)->
   Ij n (l.map Ch.row) l.length i d.kind d.data (e.map Sn.row) [vL 5 ((x6 d t n e).map Sn.row)] []:=by
  intro t;induction t with
  |nil=>
   intro i n e g o k I f;simp only[cN]at o;apply Xl;refine aP (l:=l) rfl g (ad (fun h=>?_) fun h=>ai (by rw[x6,h];rfl) rfl)
   have j:=aV h;have K:=k.1;have c:=VH e ⟨n,4294967295,[],d⟩ (by omega) f
   rw[AB K (by omega)]
   exact⟨_,c,ai (by rw[x6,h];rfl) rfl⟩
  |cons c t u=>
   intro i n e g o k I f;simp only[aE]at o;obtain⟨j,q,Q⟩:=drop_cons g;obtain⟨J,Y,Z,v⟩:=k;have m:=H c (aM j);have w:=ajX c d m;have p:=FO (x:=⟨n,c.nr-1,[],d⟩) f (M _ _);have y:=FO (x:=ij c d) f (MG m);have z:=FO (x:=ij c d) p.2 (MG m);have r:=VH e ⟨n,c.nr-1,[],d⟩ (by omega) f
   have D:=VH e (ij c d) (by omega) f
   have E:=VH (addN e ⟨n,c.nr-1,[],d⟩) (ij c d) (by omega) p.2
   apply Xl;refine aK (l:=l) rfl g ⟨c.nr,c.steps.map Sp.row,by omega,aQ j,?_⟩
   simp only;rw[rW (n:=c.nr) (by omega) (by omega),AB (n:=n) J (by omega)]
   refine aU (bV (by omega)) (ad (fun h=>?_) fun h=>⟨_,_,_,_,_,w,_,D,aC,aC,?_⟩)
   .have T:=aV h
    rw[AB (n:=c.nr-1) (by omega) (by omega)]
    refine⟨_,r,_,_,_,_,_,w,_,E,aC,aC,?_⟩;rw[x6,h];exact u (i+1) _ _ q (by omega) v (by omega) z.2
   .rw[x6,h]
    exact u (i+1) _ _ q (by omega) v (by omega) y.2
 apply W83;rw[ao];exact key l 0 0 [] rfl (by simp) G (by simp) (by simp)
def A82:bu:={an:=[(1,1,ah)],mod:=[(4,1,[(0,[1])]),(5,2,[(0,[0,2])]),(6,4,[(0,[0,2])]),(7,2,[(0,[0,2])]),(8,2,[(0,[0,2])]),(9,2,[(0,[0,2])]),(10,2,[(0,[0,1,2])])]}
def W82(H:cc 111 [vL 5 b] [] fun t=>aw (!t) (Fi r h [vL 5 [],vN 1] [])
 (∃c a,al 112 [.aB 0 0] [.aH [O 5 [],vN 0,vN 0]] [vN c] [.aH [O 5 [],vN a,vN 0]]/\∃e f,al 113 [.aB 0 0,.agg [N 0,N 0,N 0,N 32,W 4]] [.aH [O 5 [],vN a,vN 0]] [] [.aH [O 5 e,vN a,vN f]]/\∃g i,al 113 [.aB 0 0,.agg [N 0,N c,N 0,N 21,W d]] [.aH [O 5 e,vN a,vN f]] [] [.aH [O 5 g,vN a,vN i]]/\∃j k,al 114 [.aB 0 0,.agg [N 1,N 0]] [.aH [O 5 g,vN a,vN i]] [] [.aH [O 5 j,vN a,vN k]]/\∃l m,al 115 [.aB 0 0,vN c] [.aH [O 5 j,vN a,vN k]] [] [.aH [O 5 l,vN a,vN m]]/\∃n o,al 113 [.aB 0 0,.agg [N 0,N 0,N 0,N 32,W 0]] [.aH [O 5 l,vN a,vN m]] [] [.aH [O 5 n,vN a,vN o]]/\∃p q s,al 116 [.aB 0 0,vL 5 b] [.aH [O 5 n,vN a,vN o]] [] [.aH [O 5 p,vN q,vN s]]/\Fi r h [vL 5 p,vN 0] [])):
  al 82 [vW d,vL 5 b] [] r h:=.of func82 A82 H
abbrev FP(a:Int)(b:Rw)(c d:Int)r h:=Lp f111 0 ⟨aO 36 [(3,vN a),(6,vL 5 b),(7,vN c),(8,vN d)],[],[]⟩ 0 r h
def acw:bu:={an:=[(4,1,ah),(5,6,aa),(5,7,aa),(5,8,aa),(5,9,aa),(5,10,aa),(5,14,ah)],cut:=[(3,{bl:=[3,6,7,8]})]}
def ajY(H:FP 0 a (a.length:Int) 0 r h):
  al 111 [vL 5 a] [] r h:=.of func111 acw H
def Tc(H:aw (decide (a<e)) (zz d a fun f b g i j=>aw (bif((wrap .i64 f) !=c)then true else(decide (b<f))) (Fi r h [vB false] []) (cc 166 [.agg [W f,W b,L 3 g,N i,N j]] [] fun k=>aw (!k) (Fi r h [vB false] [])
 (au ((wrap .i64 b)+1)/\au (a+1)/\FP ((wrap .i64 b)+1) d e (a+1) r h)))
 (Fi r h [vB (c==4294967296)] [])):
  FP c d e a r h:=.of acw H
def ajZ:bu:={}
def aj0(H:au (a+1)/\Fi r h [vN (a+1)] [.aH [O 5 b,vN (a+1),vN c]]):
  al 112 [.aB 0 0] [.aH [O 5 b,vN a,vN c]] r h:=.of func112 ajZ H
def aj1:bu:={an:=[(2,4,je),(2,5,fh),(2,10,je)]}
def aj2(a:Rw)(H:(a++([[N b,N c,N d,N e,W f]]:Rw)).length*40<=2^47/\Fi r h [] [.aH [O 5 (a++([[N b,N c,N d,N e,W f]]:Rw)),vN g,vN 0]]):
  al 113 [.aB 0 0,.agg [N i,N c,N d,N e,W f]] [.aH [O 5 a,vN g,vN b]] r h:=.of func113 aj1 H
def aj3:bu:={an:=[(1,1,ah)],mod:=[(2,3,[(0,[0,2])])]}
def aj4(H:Gw 106 [.agg [N d,N e]] [] fun i j=>∃f g,al 113 [.aB 0 0,.agg [N 0,N 0,N 0,N 6,W i]] [.aH [O 5 b,vN a,vN c]] [] [.aH [O 5 f,vN a,vN g]]/\Fi r h [] [.aH [O 5 f,vN a,vN g]]):
  al 114 [.aB 0 0,.agg [N d,N e]] [.aH [O 5 b,vN a,vN c]] r h:=.of func114 aj3 H
def aj5:bu:={mod:=[(1,2,[(0,[0,2])])]}
def aj6(H:aw (c !=0) (∃e f,al 113 [.aB 0 0,.agg [N 0,N 0,N 0,N 135,W 0]] [.aH [O 5 b,vN a,vN c]] [] [.aH [O 5 e,vN a,vN f]]/\Fi r h [] [.aH [O 5 e,vN a,vN d]])
 (Fi r h [] [.aH [O 5 b,vN a,vN d]])):
  al 115 [.aB 0 0,vN d] [.aH [O 5 b,vN a,vN c]] r h:=.of func115 aj5 H
def aj7:bu:={an:=[(1,3,ah),(4,5,ah)],mod:=[(1,4,[(0,[0,1,2])]),(3,1,[(0,[1])]),(4,8,[(0,[0,2])]),(5,4,[(0,[0,1,2])]),(6,2,[(0,[0,2])]),(7,4,[(0,[0,1,2])])]}
def aj8(H:aw ((a.length:Int)==1) (zz a 0 fun v w x y z=>∃i j k,al 167 [.aB 0 0,.agg [W v,W w,L 3 x,N y,N z]] [.aH [O 5 b,vN f,vN c]] [] [.aH [O 5 i,vN j,vN k]]/\Fi r h [] [.aH [O 5 i,vN j,vN k]])
 ((2:Int)≠0/\∃g d,al 112 [.aB 0 0] [.aH [O 5 b,vN f,vN c]] [vN g] [.aH [O 5 b,vN d,vN c]]/\zz a (wrap .i64 (tdiv (a.length:Int) 2)) fun D E G I J=>∃l m,al 113 [.aB 0 0,.agg [N 0,N g,N 0,N 53,W D]] [.aH [O 5 b,vN d,vN c]] [] [.aH [O 5 l,vN d,vN m]]/\(0<=(0:Int)/\(0:Int)<=(wrap .i64 (tdiv (a.length:Int) 2))/\(wrap .i64 (tdiv (a.length:Int) 2))<=(a.length:Int))/\∃n e o,al 116 [.aB 0 0,vL 5 (drop 0 (take (toNat (wrap .i64 (tdiv (a.length:Int) 2))) a))] [.aH [O 5 l,vN d,vN m]] [] [.aH [O 5 n,vN e,vN o]]/\∃p q,al 115 [.aB 0 0,vN g] [.aH [O 5 n,vN e,vN o]] [] [.aH [O 5 p,vN e,vN q]]/\(0<=(wrap .i64 (tdiv (a.length:Int) 2))/\(wrap .i64 (tdiv (a.length:Int) 2))<=(a.length:Int)/\(a.length:Int)<=(a.length:Int))/\∃s t u,al 116 [.aB 0 0,vL 5 (drop (toNat (wrap .i64 (tdiv (a.length:Int) 2))) (take a.length a))] [.aH [O 5 p,vN e,vN q]] [] [.aH [O 5 s,vN t,vN u]]/\Fi r h [] [.aH [O 5 s,vN t,vN u]])):
  al 116 [.aB 0 0,vL 5 a] [.aH [O 5 b,vN f,vN c]] r h:=.of func116 aj7 H
abbrev FQ(a:Rw)(b c d e:Int)(f:Rw)(g i:Int)r h:=Lp f166 0 ⟨aO 19 [(1,.aB 0 0),(6,vL 3 a),(7,vN b),(8,vN c)],[],[.aH [vW d,vW e,vL 3 f,vN g,vN i]]⟩ 0 r h
def acx:bu:={an:=[(3,1,ah),(4,1,ah),(7,2,ah)],cut:=[(2,{bl:=[1,6,7,8]})]}
def aj9(H:FQ a (a.length:Int) 0 b c a d e r h):
  al 166 [.agg [W b,W c,L 3 a,N d,N e]] [] r h:=.of func166 acx H
def Td(H:aw (decide (a<c)) (rG b a fun j k l=>cc 234 [.agg [L 1 j,N k,N l]] [] fun m=>aw (!m) (Fi r h [vB false] [])
 (au (a+1)/\FQ b c (a+1) f g i d e r h))
 (cc 235 [.agg [N d,N e]] [] fun n=>Fi r h [vB n] [])):
  FQ b c a f g i d e r h:=.of acx H
abbrev FR(a:Rw)(b c:Int)(d:Rw)(e f g i:Int)(j:Rw)(k l:Int)r h:=Lp f167 0 ⟨aO 21 [(0,.aB 0 0),(3,.aB 1 0),(7,vL 3 a),(8,vN b),(9,vN c)],[],[.aH [O 5 d,vN e,vN f],.aH [vW g,vW i,vL 3 j,vN k,vN l]]⟩ 1 r h
def acy:bu:={an:=[(3,1,ah)],mod:=[(4,2,[(0,[0,1,2])]),(6,3,[(0,[0,2])])],cut:=[(2,{bl:=[0,3,7,8,9]})]}
def aka(H:FR a (a.length:Int) 0 b c d e f a g i r h):
  al 167 [.aB 0 0,.agg [W e,W f,L 3 a,N g,N i]] [.aH [O 5 b,vN c,vN d]] r h:=.of func167 acy H
def Te(H:aw (decide (a<d)) (rG c a fun s t u=>∃m n o,al 236 [.aB 0 0,.agg [L 1 s,N t,N u]] [.aH [O 5 e,vN b,vN f]] [] [.aH [O 5 m,vN n,vN o]]/\au (a+1)/\FR c d (a+1) m n o j k l g i r h)
 (∃p q,al 114 [.aB 0 0,.agg [N g,N i]] [.aH [O 5 e,vN b,vN f]] [] [.aH [O 5 p,vN b,vN q]]/\Fi r h [] [.aH [O 5 p,vN b,vN q]])):
  FR c d a e b f j k l g i r h:=.of acy H
abbrev FT(a:Rw)(b c:Int)(d:Rw)(e f:Int)r h:=Lp f234 0 ⟨aO 28 [(1,.aB 0 0),(8,vL 1 a),(9,vN b),(10,vN c)],[],[.aH [vL 1 d,vN e,vN f]]⟩ 0 r h
abbrev FU(a:Rw)(b c:Int)(d:Rw)(e f:Int)(g:Rw)(i j:Int)r h:=Lp f234 1 ⟨aO 28 [(1,.aB 0 0),(8,vL 1 a),(9,vN b),(10,vN c),(14,vL 5 d),(15,vN e),(16,vN f)],[],[.aH [vL 1 g,vN i,vN j]]⟩ 0 r h
def ZD:bu:={an:=[(3,1,ah),(6,1,ah),(7,1,ah),(11,2,ah)],cut:=[(2,{bl:=[1,8,9,10]}),(5,{bl:=[1,8,9,10,14,15,16]})]}
def akb(H:FT a (a.length:Int) 0 a b c r h):
  al 234 [.agg [L 1 a,N b,N c]] [] r h:=.of func234 ZD H
def Tf(H:aw (decide (a<c)) (wB b a fun g=>FU b c a g (g.length:Int) 0 f d e r h)
 (cc 235 [.agg [N d,N e]] [] fun i=>Fi r h [vB i] [])):
  FT b c a f d e r h:=.of ZD H
def Tg(H:aw (decide (a<f)) (n3 e a fun k l m n o=>cc 307 [.agg [N k,N l,B m,W n,W o]] [] fun p=>aw (!p) (Fi r h [vB false] [])
 (au (a+1)/\FU c d b e f (a+1) g i j r h))
 (au (b+1)/\FT c d (b+1) g i j r h)):
  FU c d b e f a g i j r h:=.of ZD H
def akc:bu:={an:=[(1,1,ah)]}
def akd(H:Gw 106 [.agg [N a,N b]] [] fun d c=>Fi r h [vB c] []):
  al 235 [.agg [N a,N b]] [] r h:=.of func235 akc H
abbrev FV(a b:Int)(c:Rw)(d e:Int)(f:Rw)(g i:Int)(j:Rw)(k l:Int)r h:=Lp f236 0 ⟨aO 57 [(0,.aB 0 0),(3,.aB 1 0),(4,vN a),(5,vN b),(14,vL 1 c),(15,vN d),(16,vN e)],[],[.aH [O 5 f,vN g,vN i],.aH [vL 1 j,vN k,vN l]]⟩ 1 r h
def acz:bu:={an:=[(4,2,ah)],mod:=[(1,1,[(0,[1])]),(1,3,[(0,[1])]),(5,1,[(0,[1])]),(7,3,[(0,[0,2])]),(8,5,[(0,[0,2])]),(9,2,[(0,[0,2])]),(12,2,[(0,[0,2])]),(13,3,[(0,[0,2])]),(14,2,[(0,[0,2])])],cut:=[(3,{bl:=[0,3,4,5,14,15,16]})]}
def ake(H:∃g i,al 112 [.aB 0 0] [.aH [O 5 a,vN d,vN b]] [vN g] [.aH [O 5 a,vN i,vN b]]/\∃j k,al 112 [.aB 0 0] [.aH [O 5 a,vN i,vN b]] [vN j] [.aH [O 5 a,vN k,vN b]]/\FV g j c (c.length:Int) 0 a k b c e f r h):
  al 236 [.aB 0 0,.agg [L 1 c,N e,N f]] [.aH [O 5 a,vN d,vN b]] r h:=.of func236 acz H
def Th(H:aw (decide (f<n)) (wB m f fun Z=>∃l a,al 112 [.aB 0 0] [.aH [O 5 d,vN b,vN e]] [vN l] [.aH [O 5 d,vN a,vN e]]/\au ((g.length:Int)-1)/\aw (f==((g.length:Int)-1)) (∃o p,al 308 [.aB 0 0,vL 5 Z,vN 0,vN c,vN 0] [.aH [O 5 d,vN a,vN e]] [] [.aH [O 5 o,vN a,vN p]]/\aw (decide ((g.length:Int)>0)) (∃q s,al 115 [.aB 0 0,vN i] [.aH [O 5 o,vN a,vN p]] [] [.aH [O 5 q,vN a,vN s]]/\∃t u,al 114 [.aB 0 0,.agg [N j,N k]] [.aH [O 5 q,vN a,vN s]] [] [.aH [O 5 t,vN a,vN u]]/\∃v w,al 115 [.aB 0 0,vN c] [.aH [O 5 t,vN a,vN u]] [] [.aH [O 5 v,vN a,vN w]]/\Fi r h [] [.aH [O 5 v,vN a,vN w]])
 (∃x y,al 115 [.aB 0 0,vN c] [.aH [O 5 o,vN a,vN p]] [] [.aH [O 5 x,vN a,vN y]]/\Fi r h [] [.aH [O 5 x,vN a,vN y]]))
 (∃z D,al 308 [.aB 0 0,vL 5 Z,vN i,vN l,vN l] [.aH [O 5 d,vN a,vN e]] [] [.aH [O 5 z,vN a,vN D]]/\∃E G,al 115 [.aB 0 0,vN l] [.aH [O 5 z,vN a,vN D]] [] [.aH [O 5 E,vN a,vN G]]/\au (f+1)/\FV i c m n (f+1) E a G g j k r h))
 (aw (decide ((g.length:Int)>0)) (∃I J,al 115 [.aB 0 0,vN i] [.aH [O 5 d,vN b,vN e]] [] [.aH [O 5 I,vN b,vN J]]/\∃K M,al 114 [.aB 0 0,.agg [N j,N k]] [.aH [O 5 I,vN b,vN J]] [] [.aH [O 5 K,vN b,vN M]]/\∃Q T,al 115 [.aB 0 0,vN c] [.aH [O 5 K,vN b,vN M]] [] [.aH [O 5 Q,vN b,vN T]]/\Fi r h [] [.aH [O 5 Q,vN b,vN T]])
 (∃X Y,al 115 [.aB 0 0,vN c] [.aH [O 5 d,vN b,vN e]] [] [.aH [O 5 X,vN b,vN Y]]/\Fi r h [] [.aH [O 5 X,vN b,vN Y]]))):
  FV i c m n f d b e g j k r h:=.of acz H
abbrev tR(a:Rw)(b c d:Int)(e:Rw)(f g:Int)(i:Rw)(j k:Int)r h:=Lp f308 0 ⟨aO 54 [(0,.aB 0 0),(1,vL 5 a),(2,vN b),(3,vN c),(4,vN d),(23,vL 5 e),(24,vN f),(25,vN g)],[],[.aH [O 5 i,vN j,vN k]]⟩ 1 r h
def acA:bu:={an:=[(0,4,aa),(0,5,aa),(4,2,ah)],mod:=[(1,3,[(0,[0,2])]),(5,4,[(0,[0,2])]),(7,3,[(0,[0,2])]),(9,3,[(0,[0,2])])],cut:=[(3,{bl:=[0,1,2,3,4,23,24,25]})]}
def akf(H:aw (bif((a.length:Int)==0)then(c !=0)else false) (∃i j,al 113 [.aB 0 0,.agg [N 0,N c,N 0,N 5,W 0]] [.aH [O 5 d,vN b,vN e]] [] [.aH [O 5 i,vN b,vN j]]/\tR a c f g a (a.length:Int) 0 i b j r h)
 (tR a c f g a (a.length:Int) 0 d b e r h)):
  al 308 [.aB 0 0,vL 5 a,vN c,vN f,vN g] [.aH [O 5 d,vN b,vN e]] r h:=.of func308 acA H
def Ti(H:aw (decide (b<i)) (n3 g b fun l m n o p=>au ((d.length:Int)-1)/\aw (decide (b<((d.length:Int)-1))) (∃q s,al 350 [.aB 0 0,.agg [N l,N m,B n,W o,W p],vN 0,vN c] [.aH [O 5 j,vN a,vN k]] [] [.aH [O 5 q,vN a,vN s]]/\au (b+1)/\tR d e c f g i (b+1) q a s r h)
 (aw (c==f) (∃t u,al 350 [.aB 0 0,.agg [N l,N m,B n,W o,W p],vN e,vN 0] [.aH [O 5 j,vN a,vN k]] [] [.aH [O 5 t,vN a,vN u]]/\au (b+1)/\tR d e c f g i (b+1) t a u r h)
 (∃v w,al 350 [.aB 0 0,.agg [N l,N m,B n,W o,W p],vN e,vN c] [.aH [O 5 j,vN a,vN k]] [] [.aH [O 5 v,vN a,vN w]]/\au (b+1)/\tR d e c f g i (b+1) v a w r h)))
 (Fi r h [] [.aH [O 5 j,vN a,vN k]])):
  tR d e c f g i b j a k r h:=.of acA H
abbrev FX(a b c:Int)(d:Rw)(e f g i:Int)(j:Bool)(k l:Int)r h:=Rp f350 4 ⟨aO 69 [(0,.aB 0 0),(2,vN a),(3,vN b),(5,.aB 1 0),(8,vN c)],[],[.aH [O 5 d,vN e,vN f],.aH [vN g,vN i,vB j,vW k,vW l]]⟩ 1 r h
abbrev FY(a b:Int)(c:Rw)(d e f g:Int)(i:Bool)(j k:Int)r h:=Rp f350 7 ⟨aO 69 [(0,.aB 0 0),(2,vN a),(3,vN b),(5,.aB 1 0)],[],[.aH [O 5 c,vN d,vN e],.aH [vN f,vN g,vB i,vW j,vW k]]⟩ 1 r h
abbrev qj(a:Rw)(b c d e:Int)(f:Bool)(g i j k l m n:Int)r h:=Rp f350 16 ⟨aO 69 [(0,.aB 0 0),(5,.aB 1 0),(9,.aB 2 0)],[],[.aH [O 5 a,vN b,vN c],.aH [vN d,vN e,vB f,vW g,vW i],.aH [vN j,vN k,vN l,vN m,vW n]]⟩ 1 r h
def VJ:bu:={an:=[(16,4,aa),(16,5,aa),(16,6,aa),(16,9,aa),(16,10,aa),(16,11,aa)],mod:=[(4,4,[(0,[0,2])]),(6,4,[(0,[0,2])]),(18,2,[(0,[0,2])])],join:=[(16,{bl:=[0,5,9]}),(4,{bl:=[0,2,3,5,8]}),(7,{bl:=[0,2,3,5]})]}
def akg(H:au ((8:Int)*a)/\au ((16:Int)+((8:Int)*a))/\aw b (au (((16:Int)+((8:Int)*a))+4)/\FX j k (((16:Int)+((8:Int)*a))+4) c d e a f b g i r h)
 (FX j k ((16:Int)+((8:Int)*a)) c d e a f b g i r h)):
  al 350 [.aB 0 0,.agg [N a,N f,B b,W g,W i],vN j,vN k] [.aH [O 5 c,vN d,vN e]] r h:=.of func350 VJ H
def ZE(H:∃j k,al 113 [.aB 0 0,.agg [N 0,N 0,N 0,N 32,W (wrap .u32 l)]] [.aH [O 5 m,vN a,vN n]] [] [.aH [O 5 j,vN a,vN k]]/\aw (b !=4294967295) (∃o p,al 113 [.aB 0 0,.agg [N 0,N 0,N 0,N 84,W b]] [.aH [O 5 j,vN a,vN k]] [] [.aH [O 5 o,vN a,vN p]]/\FY c d o a p e f g b i r h)
 (FY c d j a k e f g b i r h)):
  FX c d l m a n e f g b i r h:=yx.of VJ H
def ZF(H:aw (b==1) (qj e f g i b j k a 0 c d 21 a r h)
 (aw (b==2) (qj e f g i b j k a 0 c d 21 a r h)
 (aw (b==5) (qj e f g i b j k a 0 c d 37 a r h)
 (aw (b==4) (qj e f g i b j k a 0 c d 37 a r h)
 (qj e f g i b j k a 0 c d 53 a r h))))):
  FY c d e f g i b j k a r h:=yx.of VJ H
def VK(H:aw (bif(bif(b==2)then true else(b==4))then true else(b==3)) (∃k l,al 113 [.aB 0 0,.agg [N e,N g,N f,N i,W j]] [.aH [O 5 c,vN a,vN d]] [] [.aH [O 5 k,vN a,vN l]]/\Fi r h [] [.aH [O 5 k,vN a,vN l]])
 (∃m n,al 113 [.aB 0 0,.agg [N e,N f,N g,N i,W j]] [.aH [O 5 c,vN a,vN d]] [] [.aH [O 5 m,vN a,vN n]]/\Fi r h [] [.aH [O 5 m,vN a,vN n]])):
  qj c a d o b p q s e f g i j r h:=yx.of VJ H
section
def vx(l:List Hf):Bool:=l.all fun h=>rS h.arg h.op
def CQ(s:Sp):Bool:=bif s.cl.all vx then(cd s.act).2 else false
def CR(x:Sn):Bool:=bif x.steps.all CQ then(cd x.act).2 else false
def gb:List Sn->Int->Bool
 |[],n=>n==4294967296
 |x::t,n=>bif(bif x.lo !=n then true else decide (x.hi<x.lo))then false else bif !CR x then false else gb t (x.hi+1)
def acB(a:Act):al 235 [zW a] [] [vB (cd a).2] []:=by apply akd;exact⟨_,_,Vv a,fi⟩
def akh(s:Sp)(h:Il s):al 234 [spA s] [] [vB (CQ s)] []:=by
 obtain⟨q,f⟩:=h;have key:∀(t:List (List Hf))(i:Nat),s.cl.drop i=t->FT (cF s.cl) s.cl.length i (cF s.cl) s.act.kind s.act.data [vB (bif t.all vx then(cd s.act).2 else false)] []:=by
  intro t;induction t with
  |nil=>intro i a;apply Tf;exact aP (l:=s.cl) rfl a ⟨_,acB s.act,fi⟩
  |cons x t g=>
   intro i a;obtain⟨d,e,p⟩:=drop_cons a;have z:=f x (aM d);have inner:∀(u:List Hf)(j:Nat),x.drop j=u->FU (cF s.cl) s.cl.length i (x.map Hf.row) x.length j (cF s.cl) s.act.kind s.act.data [vB (bif vx u&&t.all vx then(cd s.act).2 else false)] []:=by
    intro u;induction u with
    |nil=>intro j b;apply Tg;exact aP (l:=x) rfl b ⟨aC,g (i+1) e⟩
    |cons y u o=>
     intro j b;obtain⟨k,m,v⟩:=drop_cons b;apply Tg;refine aK (l:=x) rfl b ⟨_,_,_,_,_,by omega,aQ k,_,ZA y,ad (fun c=>ai ?_ rfl) fun c=>⟨aC,?_⟩⟩
     .rw[show vx (y::u)=(rS y.arg y.op&&vx u)from rfl,show rS y.arg y.op=false by simpa using c];rfl
     .rw[show vx (y::u)=(rS y.arg y.op&&vx u)from rfl,show rS y.arg y.op=true by simpa using c]
      exact o (j+1) m
   apply Tf;refine aK (l:=s.cl) rfl a ⟨x.map Hf.row,by omega,aQ d,?_⟩
   simp only[ao];exact inner x 0 rfl
 apply akb;rw[show(cF s.cl).length=s.cl.length from ao ..]
 exact key s.cl 0 rfl
def aki(x:Sn)(h:wZ x):al 166 [snA x] [] [vB (CR x)] []:=by
 obtain⟨j,e⟩:=h;have key:∀(t:List Sp)(i:Nat),x.steps.drop i=t->FQ (x.steps.map Sp.row) x.steps.length i x.lo x.hi (x.steps.map Sp.row) x.act.kind x.act.data [vB (bif t.all CQ then(cd x.act).2 else false)] []:=by
  intro t;induction t with
  |nil=>intro i a;apply Td;exact aP (l:=x.steps) rfl a ⟨_,acB x.act,fi⟩
  |cons s t f=>
   intro i a;obtain⟨c,d,g⟩:=drop_cons a;apply Td;refine aK (l:=x.steps) rfl a ⟨cF s.cl,s.act.kind,s.act.data,by omega,aQ c,_,akh s (e s (aM c)),ad (fun b=>ai ?_ rfl) fun b=>⟨aC,?_⟩⟩
   .rw[bG,show CQ s=false by simpa using b];rfl
   .rw[bG,show CQ s=true by simpa using b]
    exact f (i+1) d
 apply aj9;rw[ao];exact key x.steps 0 rfl
def akj(l:List Sn)(o:l.length<=2^40)(j:∀x∈l,wZ x)(g:∀x∈l,0<=x.lo/\x.lo<4294967296/\0<=x.hi/\x.hi<4294967296):al 111 [vL 5 (l.map Sn.row)] [] [vB (gb l 0)] []:=by
 have key:∀(t:List Sn)(i:Nat)(n:Int),l.drop i=t->FP n (l.map Sn.row) l.length i [vB (gb t n)] []:=by
  intro t;induction t with
  |nil=>intro i n b;apply Tc;exact aP (l:=l) rfl b fi
  |cons x t k=>
   intro i n b;obtain⟨d,f,m⟩:=drop_cons b;have e:=aM d;obtain⟨p,q,s,u⟩:=g x e;apply Tc;refine aK (l:=l) rfl b ⟨x.lo,x.hi,x.steps.map Sp.row,x.act.kind,x.act.data,by omega,aQ d,?_⟩
   simp only;rw[rW (n:=x.lo) (by omega) (by omega),rW (n:=x.hi) (by omega) (by omega)]
   exact ad (fun a=>ai (by rw[gb,a];rfl) rfl) fun a=>⟨_,aki x (j x e),ad (fun c=>ai (by rw[gb,a,c];rfl) rfl) fun c=>⟨aC,aC,by rw[gb,a,c];exact k (i+1) _ f⟩⟩
 apply ajY;rw[ao];exact key l 0 0 rfl
structure Sy where
 label:Int
 t:Int
 f:Int
 code:Int
 k:Int
def Sy.row(s:Sy):List PV:=[N s.label,N s.t,N s.f,N s.code,W s.k]
structure Wr where
 l:List Sy
 aD:Int
 label:Int
abbrev wb(w:Wr):Bx:=.aH [O 5 (w.l.map Sy.row),vN w.aD,vN w.label]
def fo(w:Wr)(t f code k:Int):Wr:={w with l:=w.l++[⟨w.label,t,f,code,k⟩],label:=0}
def dE(w:Wr):Wr:={w with aD:=w.aD+1}
def cD(w:Wr)(cn:Int):Wr:={(bif w.label !=0 then fo w 0 0 135 0 else w)with label:=cn}
def nS(w:Wr)(a:Act):Wr:=fo w 0 0 6 (cd a).1
def ya(h:Hf):Int:=bif h.high then 16+8*h.arg+4 else 16+8*h.arg
def js(w:Wr)(h:Hf):Wr:=bif h.mask !=4294967295 then fo (fo w 0 0 32 (wrap .u32 (ya h))) 0 0 84 h.mask else fo w 0 0 32 (wrap .u32 (ya h))
def iI(op:Int):Int:=bif op==1 then 21 else bif op==2 then 21 else bif op==5 then 37 else bif op==4 then 37 else 53
def qB(op:Int):Bool:=bif(bif(op==2)then true else(op==4))then true else(op==3)
def testW(w:Wr)(h:Hf)(yes no:Int):Wr:=bif qB h.op then fo (js w h) no yes (iI h.op) h.value else fo (js w h) yes no (iI h.op) h.value
def tS(n yes no next:Int):List Hf->Int->Wr->Wr
 |[],_,w=>w
 |h::t,i,w=>tS n yes no next t (i+1) (bif decide (i<n-1)then testW w h 0 no else bif no==next then testW w h yes 0 else testW w h yes no)
def dA(w:Wr)(l:List Hf)(yes no next:Int):Wr:=
 tS l.length yes no next l 0 (bif(bif(l.length:Int)==0 then yes !=0 else false)then fo w yes 0 5 0 else w)
def AD(s:Sp)(b a:Int)(w:Wr):Wr:=bif decide ((s.cl.length:Int)>0)then cD (nS (cD w b) s.act) a else cD w a
def w6(s:Sp)(b a:Int):List (List Hf)->Int->Wr->Wr
 |[],_,w=>AD s b a w
 |x::t,i,w=>bif i==(s.cl.length:Int)-1 then AD s b a (dA (dE w) x 0 a 0)else
  w6 s b a t (i+1) (cD (dA (dE w) x b (w.aD+1) (w.aD+1)) (w.aD+1))
def CS(w:Wr)(s:Sp):Wr:=w6 s (w.aD+1) (w.aD+1+1) s.cl 0 (dE (dE w))
def rZ(a:Act):List Sp->Wr->Wr
 |[],w=>nS w a
 |s::t,w=>rZ a t (CS w s)
def Xm(w:Wr)(x:Sn):Wr:=rZ x.act x.steps w
def fx:Nat->List Sn->Wr->Wr
 |0,_,w=>w
 |n+1,l,w=>bif(l.length:Int)==1 then Xm w (l.getD 0 gO)else
  fx n (l.drop (l.length/2)) (cD (fx n (l.take (l.length/2)) (fo (dE w) (w.aD+1) 0 53 (l.getD (l.length/2) gO).lo)) (w.aD+1))
def fB(aq:Int)(l:List Sn):List Sy×Int:=bif !gb l 0 then([],1)else
 ((fx l.length l (fo (cD (nS (fo (fo (dE ⟨[],0,0⟩) 0 0 32 4) 1 0 21 aq) ⟨1,0⟩) 1) 0 0 32 0)).l,0)
structure WB (w:Wr) (n:Nat):Prop where
 l:w.l.length<=n
 lo:0<=w.aD
 hi:w.aD<=n
variable {w:Wr} {n:Nat}
def WB.mono(h:WB w n)(a:n<=m):WB w m:=⟨by have:=h.l;omega,h.lo,by have:=h.hi;omega⟩
def jO(h:WB w n)(t f c k:Int):WB (fo w t f c k) (n+1):=⟨by have:=h.l;simp[fo];omega,h.lo,by have:=h.hi;simp only[fo];omega⟩
def jP(h:WB w n):WB (dE w) (n+1):=⟨by have:=h.l;simp only[dE];omega,by have:=h.lo;simp only[dE];omega,by have:=h.hi;simp only[dE];omega⟩
def lD(h:WB w n)(cn:Int):WB (cD w cn) (n+1):=by
 unfold cD;cases w.label !=0
 .exact⟨(h.mono (jj n)).l,h.lo,(h.mono (jj n)).hi⟩
 .exact⟨(jO h 0 0 135 0).l,h.lo,(h.mono (jj n)).hi⟩
def FZ(h:WB w n)(a:Act):WB (nS w a) (n+1):=jO h _ _ _ _
def yJ(h:WB w n)(x:Hf):WB (js w x) (n+2):=by
 unfold js;cases x.mask !=4294967295
 .exact(jO h _ _ _ _).mono (by omega)
 .exact jO (jO h _ _ _ _) _ _ _ _
def sT(h:WB w n)(x:Hf)(y z:Int):WB (testW w x y z) (n+3):=by
 unfold testW;cases qB x.op
 .exact jO (yJ h x) _ _ _ _
 .exact jO (yJ h x) _ _ _ _
def Tj(m yes no next:Int):∀(t:List Hf)(i:Int)(w:Wr)(n:Nat),WB w n->WB (tS m yes no next t i w) (n+3*t.length)
 |[],i,w,n,h=>h
 |x::t,i,w,n,h=>by
  unfold tS;have e:n+3*(x::t).length=n+3+3*t.length:=by simp;omega
  rw[e];refine Tj m yes no next t _ _ _ ?_;cases decide (i<m-1)
  .cases no==next
   .exact sT h _ _ _
   .exact sT h _ _ _
  .exact sT h _ _ _
def sU(h:WB w n)(l:List Hf)(yes no next:Int):WB (dA w l yes no next) (n+(3*l.length+1)):=by
 unfold dA;rw[show n+(3*l.length+1)=n+1+3*l.length by omega]
 refine Tj _ _ _ _ _ _ _ _ ?_;cases(bif(l.length:Int)==0 then yes !=0 else false)
 .exact h.mono (jj n)
 .exact jO h _ _ _ _
def Tk(h:WB w n)(s:Sp)(a e:Int):WB (AD s a e w) (n+3):=by
 unfold AD;cases decide ((s.cl.length:Int)>0)
 .exact(lD h _).mono (by omega)
 .exact lD (FZ (lD h _) _) _
def nz:List (List Hf)->Nat
 |[]=>0
 |x::t=>3*x.length+3+nz t
def Tl(s:Sp)(a e:Int):∀(t:List (List Hf))(i:Int)(w:Wr)(n:Nat),WB w n->WB (w6 s a e t i w) (n+nz t+3)
 |[],i,w,n,h=>Tk h s a e
 |x::t,i,w,n,h=>by
  unfold w6;have b:=sU (jP h) x 0 e 0;have c:=sU (jP h) x a (w.aD+1) (w.aD+1);cases i==(s.cl.length:Int)-1
  .exact(Tl s a e t _ _ _ (lD c _)).mono (by simp only[nz];omega)
  .exact(Tk b s a e).mono (by simp only[nz];omega)
def MH(h:WB w n)(s:Sp):WB (CS w s) (n+(nz s.cl+5)):=(Tl s _ _ s.cl 0 _ _ (jP (jP h))).mono (by omega)
def gw:List Sp->Nat
 |[]=>1
 |s::t=>nz s.cl+5+gw t
def Im(a:Act):∀(t:List Sp)(w:Wr)(n:Nat),WB w n->WB (rZ a t w) (n+gw t)
 |[],w,n,h=>FZ h a
 |s::t,w,n,h=>by
  unfold rZ;exact(Im a t _ _ (MH h s)).mono (by simp only[gw];omega)
def ic:List Sn->Nat
 |[]=>0
 |x::t=>gw x.steps+3+ic t
def mL:∀(a b:List Sn),ic (a++b)=ic a+ic b
 |[],b=>by simp[ic]
 |x::a,b=>by simp only[dm,ic];rw[mL a b];omega
def sV:∀(m:Nat)(l:List Sn)(w:Wr)(n:Nat),l.length<=m->1<=l.length->WB w n->WB (fx m l w) (n+ic l+3*(l.length-1))
 |0,l,w,n,h,c,_=>by omega
 |m+1,l,w,n,g,c,h=>by
  unfold fx;cases hd:(l.length:Int)==1
  .have i:=gJ hd
   have d:(l.drop (l.length/2)).length=l.length-l.length/2:=iv ..;have f:(l.take (l.length/2)).length=l.length/2:=by simp;omega
   have e:=mL (l.take (l.length/2)) (l.drop (l.length/2));rw[uB]at e;have a:=sV m (l.take (l.length/2)) _ _ (by omega) (by omega) (jO (jP h) (w.aD+1) 0 53 (l.getD (l.length/2) gO).lo)
   have b:=sV m (l.drop (l.length/2)) _ _ (by omega) (by omega) (lD a (w.aD+1))
   exact b.mono (by omega)
  .match l,eq_of_beq hd with
   |[x],_=>exact(Im x.act x.steps w n h).mono (by simp only[ic,aE,cN];omega)
end
def Tm(w:Wr)(n:Nat)(h:WB w n)(a:n<=2^40):al 112 [.aB 0 0] [wb w] [vN (w.aD+1)] [wb (dE w)]:=by
 have:=h.lo;have:=h.hi;apply aj0;exact⟨aC,fi⟩
def AE(w:Wr)(n:Nat)(h:WB w n)(a:n<=2^40)(z t f c k:Int):al 113 [.aB 0 0,.agg [N z,N t,N f,N c,W k]] [wb w] [] [wb (fo w t f c k)]:=by
 have:=h.l;apply aj2;exact⟨by simp;omega,ai rfl (by simp[fo,Sy.row])⟩
def OR(w:Wr)(n:Nat)(h:WB w n)(a:n<=2^40)(cn:Int):al 115 [.aB 0 0,vN cn] [wb w] [] [wb (cD w cn)]:=by
 apply aj6;exact ad (fun e=>⟨_,_,AE w n h a 0 0 0 135 0,ai rfl (by rw[cD,e];rfl)⟩) fun e=>ai rfl (by rw[cD,e];rfl)
def ZG(w:Wr)(n:Nat)(h:WB w n)(b:n<=2^40)(a:Act):al 114 [.aB 0 0,zW a] [wb w] [] [wb (nS w a)]:=by
 apply aj4;exact⟨_,_,Vv a,_,_,AE w n h b 0 0 0 6 _,fi⟩
def akk(w:Wr)(n:Nat)(c:WB w n)(l:n+3<=2^40)(h:Hf)(yes no:Int)(k:0<=h.arg/\h.arg<=5):al 350 [.aB 0 0,VC h,vN yes,vN no] [wb w] [] [wb (testW w h yes no)]:=by
 have a:qj ((js w h).l.map Sy.row) (js w h).aD (js w h).label h.arg h.op h.high h.mask h.value 0 yes no (iI h.op) h.value [] [wb (testW w h yes no)]:=by
  apply VK;exact ad (fun e=>⟨_,_,AE (js w h) _ (yJ c h) (by omega) 0 no yes (iI h.op) h.value,ai rfl (by rw[testW,show qB h.op=true from e];rfl)⟩)
   fun e=>⟨_,_,AE (js w h) _ (yJ c h) (by omega) 0 yes no (iI h.op) h.value,ai rfl (by rw[testW,show qB h.op=false from e];rfl)⟩
 have f:FY yes no ((js w h).l.map Sy.row) (js w h).aD (js w h).label h.arg h.op h.high h.mask h.value [] [wb (testW w h yes no)]:=by
  apply ZF;refine ad (fun e=>?_) fun b=>ad (fun e=>?_) fun g=>ad (fun e=>?_) fun i=>ad (fun e=>?_) fun e=>?_
  .rw[show iI h.op=21 by rw[iI,e];rfl]at a;exact a
  .rw[show iI h.op=21 by rw[iI,b,e];rfl]at a;exact a
  .rw[show iI h.op=37 by rw[iI,b,g,e];rfl]at a;exact a
  .rw[show iI h.op=37 by rw[iI,b,g,i,e];rfl]at a;exact a
  .rw[show iI h.op=53 by rw[iI,b,g,i,e];rfl]at a;exact a
 have d:FX yes no (ya h) (w.l.map Sy.row) w.aD w.label h.arg h.op h.high h.mask h.value [] [wb (testW w h yes no)]:=by
  apply ZE;have j:=jO c 0 0 32 (wrap .u32 (ya h));refine⟨_,_,AE w n c (by omega) 0 0 0 32 _,ad (fun e=>⟨_,_,AE _ _ j (by omega) 0 0 0 84 h.mask,?_⟩) fun e=>?_⟩
  .rw[show js w h=fo (fo w 0 0 32 (wrap .u32 (ya h))) 0 0 84 h.mask by rw[js,e];rfl]at f;exact f
  .rw[show js w h=fo w 0 0 32 (wrap .u32 (ya h)) by rw[js,e];rfl]at f;exact f
 apply akg;refine⟨aC,aC,ad (fun e=>⟨aC,?_⟩) fun e=>?_⟩
 .rw[show ya h=16+8*h.arg+4 by rw[ya,e];rfl]at d;exact d
 .rw[show ya h=16+8*h.arg by rw[ya,e];rfl]at d;exact d
def sW(w:Wr)(h:Hf)(a b:Int):(testW w h a b).aD=w.aD:=by
 unfold testW js;cases qB h.op<;>cases h.mask !=4294967295<;>rfl
abbrev wbL(w:Wr)(n:Int):Bx:=.aH [O 5 (w.l.map Sy.row),vN n,vN w.label]
def Xn(h:w.aD=n):wb w=wbL w n:=by rw[<-h]
def Tn(w:Wr)(n:Nat)(b:WB w n)(c:n+3<=2^40)(h:Hf)(yes no:Int)(a:0<=h.arg/\h.arg<=5):al 350 [.aB 0 0,VC h,vN yes,vN no] [wb w] [] [wbL (testW w h yes no) w.aD]:=by
 rw[<-Xn (sW w h yes no)];exact akk w n b c h yes no a
def VL{h:Hf}(d:rS h.arg h.op=true):0<=h.arg/\h.arg<=5:=by
 obtain⟨a,-⟩:=cg (b:=(bif(bif(decide (h.arg>=0))then(decide (h.arg<=5))else false)then(decide (h.op>=1))else false)) d;obtain⟨a,-⟩:=cg a;obtain⟨a,c⟩:=cg a;exact⟨aV a,aV c⟩
def acC(w:Wr)(n:Nat)(j:WB w n)(l:List Hf)(yes no next:Int)(o:n+(3*l.length+1)<=2^40)(p:vx l=true):
  al 308 [.aB 0 0,vL 5 (l.map Hf.row),vN yes,vN no,vN next] [wb w] [] [wb (dA w l yes no next)]:=by
 have hlen:(l.map Hf.row).length=l.length:=ao ..;have key:∀(t:List Hf)(i:Nat)(w:Wr)(n:Nat),l.drop i=t->WB w n->n+3*t.length<=2^40->tR (l.map Hf.row) yes no next (l.map Hf.row) l.length i (w.l.map Sy.row) w.aD w.label [] [wb (tS l.length yes no next t i w)]:=by
  intro t;induction t with
  |nil=>intro i w n d _ _;apply Ti;exact aP (l:=l) rfl d fi
  |cons x t k=>
   intro i w n d b o;obtain⟨m,e,q⟩:=drop_cons d;have g:=VL (bf.1 p x (aM m));simp only[aE]at o;apply Ti;refine aK (l:=l) rfl d ⟨x.arg,x.op,x.high,x.mask,x.value,by omega,aQ m,?_⟩
   rw[hlen];refine⟨aC,ad (fun c=>⟨_,_,Tn w n b (by omega) x 0 no g,aC,?_⟩) fun c=>ad (fun f=>⟨_,_,Tn w n b (by omega) x yes 0 g,aC,?_⟩) fun f=>⟨_,_,Tn w n b (by omega) x yes no g,aC,?_⟩⟩
   .have a:=k (i+1) _ _ e (sT b x 0 no) (by omega);rw[sW]at a;rw[tS,c];exact a
   .have a:=k (i+1) _ _ e (sT b x yes 0) (by omega);rw[sW]at a;rw[tS,c,f];exact a
   .have a:=k (i+1) _ _ e (sT b x yes no) (by omega);rw[sW]at a;rw[tS,c,f];exact a
 apply akf;rw[hlen];refine ad (fun h=>⟨_,_,AE w n j (by omega) 0 yes 0 5 0,?_⟩) fun h=>?_
 .rw[dA,h];exact key l 0 _ _ rfl (jO j yes 0 5 0) (by omega)
 .rw[dA,h];exact key l 0 _ _ rfl j (by omega)
def akl(w:Wr)(n:Nat)(y:WB w n)(s:Sp)(k:n+(nz s.cl+5)<=2^40)(R:s.cl.all vx=true):al 236 [.aB 0 0,spA s] [wb w] [] [wb (CS w s)]:=by
 have hlen:(cF s.cl).length=s.cl.length:=ao ..;have a0:∀l:List (List Hf),l.length<=nz l:=by
  intro l;induction l with
  |nil=>simp
  |cons x l q=>simp only[nz,aE];omega
 have a1:=a0 s.cl;have fin:∀(a e:Int)(w:Wr)(n:Nat),WB w n->n+3<=2^40->aw (decide (((cF s.cl).length:Int)>0)) (∃M T,al 115 [.aB 0 0,vN a] [.aH [O 5 (w.l.map Sy.row),vN w.aD,vN w.label]] [] [.aH [O 5 M,vN w.aD,vN T]]/\∃K Q,al 114 [.aB 0 0,.agg [N s.act.kind,N s.act.data]] [.aH [O 5 M,vN w.aD,vN T]] [] [.aH [O 5 K,vN w.aD,vN Q]]/\∃X Y,al 115 [.aB 0 0,vN e] [.aH [O 5 K,vN w.aD,vN Q]] [] [.aH [O 5 X,vN w.aD,vN Y]]/\Fi [] [wb (AD s a e w)] [] [.aH [O 5 X,vN w.aD,vN Y]])
   (∃Z F,al 115 [.aB 0 0,vN e] [.aH [O 5 (w.l.map Sy.row),vN w.aD,vN w.label]] [] [.aH [O 5 Z,vN w.aD,vN F]]/\Fi [] [wb (AD s a e w)] [] [.aH [O 5 Z,vN w.aD,vN F]]):=by
  intro a e w n d k;rw[hlen];have cn:∀(w:Wr)(x:Int),(cD w x).aD=w.aD:=by intro w x;unfold cD;cases w.label !=0<;>rfl
  refine ad (fun h=>?_) fun h=>?_
  .have g:=OR w n d (by omega) a
   have j:=ZG (cD w a) _ (lD d a) (by omega) s.act
   have u:=OR (nS (cD w a) s.act) _ (FZ (lD d a) s.act) (by omega) e
   have o:(nS (cD w a) s.act).aD=w.aD:=cn w a;have I:(cD (nS (cD w a) s.act) e).aD=w.aD:=(cn _ _).trans o;rw[show wb (cD w a)=.aH [O 5 ((cD w a).l.map Sy.row),vN w.aD,vN (cD w a).label] by rw[<-cn w a]]at g j
   rw[show wb (nS (cD w a) s.act)=.aH [O 5 ((nS (cD w a) s.act).l.map Sy.row),vN w.aD,vN (nS (cD w a) s.act).label] by rw[<-o]]at j u
   rw[show wb (cD (nS (cD w a) s.act) e)=.aH [O 5 ((cD (nS (cD w a) s.act) e).l.map Sy.row),vN w.aD,vN (cD (nS (cD w a) s.act) e).label] by rw[<-I]]at u
   exact⟨_,_,g,_,_,j,_,_,u,ai rfl (by rw[AD,h];simp only[aj,wb];rw[I])⟩
  .have g:=OR w n d (by omega) e
   rw[show wb (cD w e)=.aH [O 5 ((cD w e).l.map Sy.row),vN w.aD,vN (cD w e).label] by rw[<-cn w e]]at g
   exact⟨_,_,g,ai rfl (by rw[AD,h];simp only[af,wb];rw[cn])⟩
 have z:∀(w:Wr)(l:List Hf)(a b c:Int),(dA w l a b c).aD=w.aD:=by
  intro w l a b c;have J:∀(w:Wr)(h:Hf)(a b:Int),(testW w h a b).aD=w.aD:=by
   intro w h a b;unfold testW js;cases qB h.op<;>cases h.mask !=4294967295<;>rfl
  have t2:∀(t:List Hf)(m i:Int)(w:Wr),(tS m a b c t i w).aD=w.aD:=by
   intro t;induction t with
   |nil=>intro m i w;rfl
   |cons x t q=>
    intro m i w;rw[tS,q];cases decide (i<m-1)
    .cases b==c<;>exact J _ _ _ _
    .exact J _ _ _ _
  rw[dA,t2];cases(bif(l.length:Int)==0 then a !=0 else false)<;>rfl
 have cn:∀(w:Wr)(x:Int),(cD w x).aD=w.aD:=by intro w x;unfold cD;cases w.label !=0<;>rfl
 have key:∀(a e:Int)(t:List (List Hf))(i:Nat)(w:Wr)(n:Nat),s.cl.drop i=t->WB w n->n+nz t+3<=2^40->FV a e (cF s.cl) s.cl.length i (w.l.map Sy.row) w.aD w.label (cF s.cl) s.act.kind s.act.data [] [wb (w6 s a e t i w)]:=by
  intro a e t;induction t with
  |nil=>intro i w n p d k;apply Th;exact aP (l:=s.cl) rfl p (fin a e w n d (by simp only[nz]at k;omega))
  |cons x t q=>
   intro i w n p d k;obtain⟨D,A,h3⟩:=drop_cons p;have E:=bf.1 R x (aM D);simp only[nz]at k;apply Th;refine aK (l:=s.cl) rfl p ⟨x.map Hf.row,by omega,aQ D,_,_,Tm w n d (by omega),?_⟩
   rw[hlen];refine⟨aC,ad (fun v=>?_) fun v=>?_⟩
   .have g:=acC (dE w) _ (jP d) x 0 e 0 (by omega) E
    have f:=fin a e (dA (dE w) x 0 e 0) _ (sU (jP d) x 0 e 0) (by omega)
    rw[z,hlen]at f;rw[show wb (dA (dE w) x 0 e 0)=.aH [O 5 ((dA (dE w) x 0 e 0).l.map Sy.row),vN (dE w).aD,vN (dA (dE w) x 0 e 0).label] by rw[<-z (dE w) x 0 e 0]]at g
    rw[w6,v];exact⟨_,_,g,f⟩
   .have g:=acC (dE w) _ (jP d) x a (w.aD+1) (w.aD+1) (by omega) E
    have r:=sU (jP d) x a (w.aD+1) (w.aD+1);have j:=OR (dA (dE w) x a (w.aD+1) (w.aD+1)) _ r (by omega) (w.aD+1)
    have G:=q (i+1) _ _ A (lD r (w.aD+1)) (by omega)
    have H:=z (dE w) x a (w.aD+1) (w.aD+1);have o:=(cn (dA (dE w) x a (w.aD+1) (w.aD+1)) (w.aD+1)).trans H;rw[show wb (dA (dE w) x a (w.aD+1) (w.aD+1))=.aH [O 5 ((dA (dE w) x a (w.aD+1) (w.aD+1)).l.map Sy.row),vN (dE w).aD,vN (dA (dE w) x a (w.aD+1) (w.aD+1)).label] by rw[<-H]]at g j
    rw[show wb (cD (dA (dE w) x a (w.aD+1) (w.aD+1)) (w.aD+1))=.aH [O 5 ((cD (dA (dE w) x a (w.aD+1) (w.aD+1)) (w.aD+1)).l.map Sy.row),vN (dE w).aD,vN (cD (dA (dE w) x a (w.aD+1) (w.aD+1)) (w.aD+1)).label] by rw[<-o]]at j
    rw[o]at G;rw[w6,v];exact⟨_,_,g,_,_,j,aC,G⟩
 apply ake;rw[hlen];exact⟨_,_,Tm w n y (by omega),_,_,Tm (dE w) _ (jP y) (by omega),key _ _ s.cl 0 _ _ rfl (jP (jP y)) (by omega)⟩
def akm(w:Wr)(n:Nat)(g:WB w n)(x:Sn)(b:n+gw x.steps<=2^40)(j:∀s∈x.steps,s.cl.all vx=true):al 167 [.aB 0 0,snA x] [wb w] [] [wb (Xm w x)]:=by
 have k:∀l:List Sp,l.length<=gw l:=by
  intro l;induction l with
  |nil=>simp
  |cons x l e=>simp only[gw,aE];omega
 have o:=k x.steps;have key:∀(t:List Sp)(i:Nat)(w:Wr)(n:Nat),x.steps.drop i=t->WB w n->n+gw t<=2^40->FR (x.steps.map Sp.row) x.steps.length i (w.l.map Sy.row) w.aD w.label x.lo x.hi (x.steps.map Sp.row) x.act.kind x.act.data [] [wb (rZ x.act t w)]:=by
  intro t;induction t with
  |nil=>intro i w n a c b;apply Te;exact aP (l:=x.steps) rfl a ⟨_,_,ZG w n c (by omega) x.act,fi⟩
  |cons s t e=>
   intro i w n a c b;obtain⟨d,f,m⟩:=drop_cons a;simp only[gw]at b;apply Te;refine aK (l:=x.steps) rfl a ⟨cF s.cl,s.act.kind,s.act.data,by omega,aQ d,_,_,_,akl w n c s (by omega) (j s (aM d)),aC,?_⟩
   exact e (i+1) _ _ f (MH c s) (by omega)
 apply aka;rw[ao];exact key x.steps 0 w n rfl g b
def ZH:∀(m:Nat)(l:List Sn)(w:Wr)(n:Nat),l.length<=m->1<=l.length->WB w n->n+ic l+3*l.length<=2^40->(∀x∈l,∀s∈x.steps,s.cl.all vx=true)->al 116 [.aB 0 0,vL 5 (l.map Sn.row)] [wb w] [] [wb (fx m l w)]
 |0,l,w,n,h,q,_,_,_=>by omega
 |m+1,l,w,n,E,q,a,t,d=>by
  have hlen:(l.map Sn.row).length=l.length:=ao ..;have z:wrap .i64 (tdiv (l.length:Int) 2)=((l.length/2:Nat):Int):=by
   rw[show tdiv (l.length:Int) 2=((l.length/2:Nat):Int) by rw[yu (by omega)];omega]
   exact rW (by omega) (by omega)
  apply aj8;rw[hlen];refine ad (fun h=>?_) fun h=>?_
  .match l,eq_of_beq h with
   |[x],_=>
    simp only[ic,aE,cN]at t;refine⟨x.lo,x.hi,x.steps.map Sp.row,x.act.kind,x.act.data,by omega,rfl,_,_,_,akm w n a x (by omega) (d x aX),ai rfl (by rw[fx,h];rfl)⟩
  .have G:=gJ h
   have r:(l.drop (l.length/2)).length=l.length-l.length/2:=iv ..;have D:(l.take (l.length/2)).length=l.length/2:=by simp;omega
   have e:=mL (l.take (l.length/2)) (l.drop (l.length/2));rw[uB]at e;have y:l.length/2<l.length:=by omega
   have k:=bo y;have o:l.getD (l.length/2) gO=l[l.length/2]:=by rw[bW,k];rfl
   have pb:=jO (jP a) (w.aD+1) 0 53 (l.getD (l.length/2) gO).lo;have j:=ZH m (l.take (l.length/2)) _ _ (by omega) (by omega) pb (by omega) fun x f=>d x (sr f)
   have g:=sV m (l.take (l.length/2)) _ _ (by omega) (by omega) pb
   have b:=OR _ _ g (by omega) (w.aD+1)
   have p:=lD g (w.aD+1);have c:=ZH m (l.drop (l.length/2)) _ _ (by omega) (by omega) p (by omega) fun x f=>d x (uA f)
   have cn:∀(w:Wr)(x:Int),(cD w x).aD=w.aD:=by intro w x;unfold cD;cases w.label !=0<;>rfl
   have u:=cn (fx m (l.take (l.length/2)) (fo (dE w) (w.aD+1) 0 53 (l.getD (l.length/2) gO).lo)) (w.aD+1);rw[show wb (cD (fx m (l.take (l.length/2)) (fo (dE w) (w.aD+1) 0 53 (l.getD (l.length/2) gO).lo)) (w.aD+1))=.aH [O 5 ((cD (fx m (l.take (l.length/2)) (fo (dE w) (w.aD+1) 0 53 (l.getD (l.length/2) gO).lo)) (w.aD+1)).l.map Sy.row),vN (fx m (l.take (l.length/2)) (fo (dE w) (w.aD+1) 0 53 (l.getD (l.length/2) gO).lo)).aD,vN (cD (fx m (l.take (l.length/2)) (fo (dE w) (w.aD+1) 0 53 (l.getD (l.length/2) gO).lo)) (w.aD+1)).label] by rw[<-u]]at b c
   rw[z];have v:drop 0 (take (toNat ((l.length/2:Nat):Int)) (l.map Sn.row))=(l.take (l.length/2)).map Sn.row:=by rw[gh,toNat_cast,iq]
   have t2:drop (toNat ((l.length/2:Nat):Int)) (take l.length (l.map Sn.row))=(l.drop (l.length/2)).map Sn.row:=by rw[toNat_cast,dH (by omega),mR]
   rw[v,t2];have i:=AE (dE w) _ (jP a) (by omega) 0 (w.aD+1) 0 53 (l.getD (l.length/2) gO).lo
   rw[o]at i j b c;refine⟨by omega,_,_,Tm w n a (by omega),l[l.length/2].lo,l[l.length/2].hi,l[l.length/2].steps.map Sp.row,l[l.length/2].act.kind,l[l.length/2].act.data,by omega,by rw[toNat_cast,bw,k];rfl,_,_,i,⟨by omega,by omega,by omega⟩,_,_,_,j,_,_,b,⟨by omega,by omega,by omega⟩,_,_,_,c,ai rfl ?_⟩
   rw[fx,h,o];rfl
def AF:∀(l:List Sn)(n:Int),gb l n=true->∀x∈l,CR x=true
 |[],_,_,x,a=>by simp at a
 |y::t,n,h,x,a=>by
  unfold gb at h;cases h1:(bif y.lo !=n then true else decide (y.hi<y.lo))<;>rw[h1]at h
  .cases h2:CR y<;>rw[h2]at h
   .simp at h
   .rcases aZ.1 a with rfl|a
    .exact h2
    .exact AF t _ h x a
  .simp at h
def To(h:CR x=true):∀s∈x.steps,s.cl.all vx=true:=fun s a=>(cg (b:=s.cl.all vx) (bf.1 (cg (b:=x.steps.all CQ) h).1 s a)).1
def C82(aq:Int)(l:List Sn)(m:l.length<=2^40)(a:∀x∈l,wZ x)(n:∀x∈l,0<=x.lo/\x.lo<4294967296/\0<=x.hi/\x.hi<4294967296)(p:ic l+3*l.length+20<=2^40):
  al 82 [vW aq,vL 5 (l.map Sn.row)] [] [vL 5 ((fB aq l).1.map Sy.row),vN (fB aq l).2] []:=by
 apply W82;refine⟨_,akj l m a n,ad (fun h=>ai (by rw[fB,h];rfl) rfl) fun h=>?_⟩
 have j:gb l 0=true:=by simpa using h
 have o:1<=l.length:=by
  cases l with
  |nil=>simp[gb]at j
  |cons=>simp
 have b:WB (⟨[],0,0⟩:Wr) 0:=⟨by simp,by simp,by simp⟩
 have c:=jP b;have d:=jO c 0 0 32 4;have e:=jO d 1 0 21 aq;have f:=FZ e ⟨1,0⟩;have g:=lD f 1;have k:=jO g 0 0 32 0;have i:=OR (nS (fo (fo (dE ⟨[],0,0⟩) 0 0 32 4) 1 0 21 aq) ⟨1,0⟩) _ f (by omega) 1
 rw[Xn (show(cD (nS (fo (fo (dE ⟨[],0,0⟩) 0 0 32 4) 1 0 21 aq) ⟨1,0⟩) 1).aD=(dE ⟨[],0,0⟩).aD from rfl)]at i
 exact⟨_,_,Tm ⟨[],0,0⟩ 0 b (by omega),_,_,AE _ _ c (by omega) 0 0 0 32 4,_,_,AE _ _ d (by omega) 0 1 0 21 aq,_,_,ZG _ _ e (by omega) ⟨1,0⟩,_,_,i,_,_,AE _ _ g (by omega) 0 0 0 32 0,
  _,_,_,ZH l.length l _ _ (ar _) o k (by omega) (fun x a=>To (AF l 0 j x a)),ai (by rw[fB,h];rfl) rfl⟩
def MI(a b:Rw)(c:List (PV×AV))(d e:Rw):St:=⟨aO 40 [(0,vL 5 a),(4,.aB 0 0)],[],[.aH [vL 5 b,.mp 1,.bA 2,.bA 3],.map 239 c,.bk 1 d,.bk 2 e]⟩
def MJ(a:Rw)(b c:Int)(d:Rw)(e:List (PV×AV))(f g:Rw):St:=⟨aO 40 [(4,.aB 0 0),(5,.own 0 0 4 a),(26,vN b),(27,vN c)],[some 0],[.aH [vL 5 d,.mp 1,.bA 2,.bA 3],.map 239 e,.bk 1 f,.bk 2 g]⟩
def A84:bu:={mod:=[(2,1,[(1,[])]),(6,1,[(2,[]),(3,[])])],cut:=[(6,{bl:=[0,4]}),(9,{bl:=[4,5,26,27],cW:=[(5,4)],owns:=[5]})]}
def W84(H:(a.length:Int)=(a.length:Int)/\0<=(a.length:Int)/\(a.length:Int)*(8:Nat)<=2^47/\(a.length:Int)=(a.length:Int)/\0<=(a.length:Int)/\(a.length:Int)*(2:Nat)<=2^47/\∃b c,al 119 [.aB 0 0] [.aH [vL 5 a,.mp 1,.bA 2,.bA 3],.map 239 [],.bk 1 (replicate (toNat (a.length:Int)) [N 0]:Rw),.bk 2 (replicate (toNat (a.length:Int)) [B false,B false]:Rw)] [vB b] [.aH [vL 5 a,.mp 1,.bA 2,.bA 3],.map 239 c,.bk 1 (replicate (toNat (a.length:Int)) [N 0]:Rw),.bk 2 (replicate (toNat (a.length:Int)) [B false,B false]:Rw)]/\aw (!b) (Fi r h [vL 4 [],vN 1] [])
 (aw (decide ((a.length:Int)>4096)) (Fi r h [vL 4 [],vN 9] [])
 (Lp f84 0 (MI a a c (replicate (toNat (a.length:Int)) [N 0]:Rw) (replicate (toNat (a.length:Int)) [B false,B false]:Rw)) 0 r h))):
  al 84 [vL 5 a] [] r h:=.of func84 A84 H
def acD(b:List (PV×AV))(f g:Rw)(H:∃i d e,al 120 [.aB 0 0] [.aH [vL 5 a,.mp 1,.bA 2,.bA 3],.map 239 b,.bk 1 f,.bk 2 g] [vB i] [.aH [vL 5 a,.mp 1,.bA 2,.bA 3],.map 239 b,.bk 1 d,.bk 2 e]/\aw i (Lp f84 0 (MI c a b d e) 0 r h)
 (Lp f84 1 (MJ [] (c.length:Int) 0 a b d e) 0 r h)):
  Lp f84 0 (MI c a b f g) 0 r h:=.of A84 H
def Xo(d:List (PV×AV))(e f:Rw)(H:aw (decide (b<g)) (∃i,al 121 [.aB 0 0,vN b] [.aH [vL 5 c,.mp 1,.bA 2,.bA 3],.map 239 d,.bk 1 e,.bk 2 f] [vL 4 i] [.aH [vL 5 c,.mp 1,.bA 2,.bA 3],.map 239 d,.bk 1 e,.bk 2 f]/\(a++i).length*32<=2^47/\au (b+1)/\Lp f84 1 (MJ (a++i) g (b+1) c d e f) 0 r h)
 (aw (decide ((a.length:Int)>4096)) (Fi r h [vL 4 [],vN 9] [])
 (Fi r h [.own 0 0 4 a,vN 0] []))):
  Lp f84 1 (MJ a g b c d e f) 0 r h:=.of A84 H
def tT(a:Rw)(b c:Int)(d:Rw)(e:List (PV×AV))(f g:Rw):St:=⟨aO 64 [(0,.aB 0 0),(11,vL 5 a),(12,vN b),(13,vN c)],[],[.aH [vL 5 d,.mp 1,.bA 2,.bA 3],.map 239 e,.bk 1 f,.bk 2 g]⟩
def F0(a b:Int)(c:Rw)(d:List (PV×AV))(e f:Rw):St:=⟨aO 64 [(0,.aB 0 0),(49,vN a),(50,vN b)],[],[.aH [vL 5 c,.mp 1,.bA 2,.bA 3],.map 239 d,.bk 1 e,.bk 2 f]⟩
def ZI:bu:={an:=[(3,2,ah),(5,4,aa)],cut:=[(11,{bl:=[0,49,50]}),(2,{bl:=[0,11,12,13]})]}
def ako(b:List (PV×AV))(H:Lp f119 0 (tT a (a.length:Int) 0 a b c d) 4 r h):
  al 119 [.aB 0 0] [.aH [vL 5 a,.mp 1,.bA 2,.bA 3],.map 239 b,.bk 1 c,.bk 2 d] r h:=.of func119 ZI H
def Tp(b:List (PV×AV))(d e:Rw)(H:aw (decide (a<i)) (pI g a fun f k l m n=>((cE b (N f)=none/\aw (bif(decide (f<0))then true else false) (Fi r h [vB false] [.aH [vL 5 c,.mp 1,.bA 2,.bA 3],.map 239 b,.bk 1 d,.bk 2 e])
 (aw (decide (f>0)) (au (a+1)/\Lp f119 0 (tT g i (a+1) c (cw b (N f) (vN a)) d e) 4 r h)
 (au (a+1)/\Lp f119 0 (tT g i (a+1) c b d e) 4 r h)))\/(∃j,cE b (N f)=some (vN j)/\aw (bif(decide (f<0))then true else true) (Fi r h [vB false] [.aH [vL 5 c,.mp 1,.bA 2,.bA 3],.map 239 b,.bk 1 d,.bk 2 e])
 (aw (decide (f>0)) (au (a+1)/\Lp f119 0 (tT g i (a+1) c (cw b (N f) (vN a)) d e) 4 r h)
 (au (a+1)/\Lp f119 0 (tT g i (a+1) c b d e) 4 r h)))))
 (Lp f119 1 (F0 (c.length:Int) 0 c b d e) 4 r h)):
  Lp f119 0 (tT g i a c b d e) 4 r h:=.of ZI H
def Tq(c:List (PV×AV))(d e:Rw)(H:aw (decide (b<f)) (cc 170 [.aB 0 0,vN b] [.aH [vL 5 a,.mp 1,.bA 2,.bA 3],.map 239 c,.bk 1 d,.bk 2 e] fun g=>aw (!g) (Fi r h [vB false] [.aH [vL 5 a,.mp 1,.bA 2,.bA 3],.map 239 c,.bk 1 d,.bk 2 e])
 (au (b+1)/\Lp f119 1 (F0 f (b+1) a c d e) 4 r h))
 (Fi r h [vB (decide ((a.length:Int)>0))] [.aH [vL 5 a,.mp 1,.bA 2,.bA 3],.map 239 c,.bk 1 d,.bk 2 e])):
  Lp f119 1 (F0 f b a c d e) 4 r h:=.of ZI H
def AG(a:Bool)(b:Rw)(c d:Int)(e:Rw)(f:List (PV×AV))(g i:Rw):St:=⟨aO 65 [(0,.aB 0 0),(3,vB a),(13,vL 5 b),(14,vN c),(15,vN d)],[],[.aH [vL 5 e,.mp 1,.bA 2,.bA 3],.map 239 f,.bk 1 g,.bk 2 i]⟩
def tU(a:Bool)(b:Int)(c:Rw)(d e f g i:Int)(j:Rw)(k:List (PV×AV))(l m:Rw):St:=⟨aO 65 [(0,.aB 0 0),(3,vB a),(4,vN b),(13,vL 5 c),(14,vN d),(15,vN e),(26,.agg [N f,N g]),(27,vN i)],[],[.aH [vL 5 j,.mp 1,.bA 2,.bA 3],.map 239 k,.bk 1 l,.bk 2 m]⟩
def ZJ:bu:={an:=[(5,2,ah),(6,2,ah),(10,6,aY),(10,17,aY),(11,6,aY)],mod:=[(2,1,[(2,[])])],cut:=[(4,{bl:=[0,3,13,14,15]}),(8,{bl:=[0,3,4,13,14,15,26,27]})]}
def akp(b:List (PV×AV))(d c:Rw)(H:∃e,al 171 [.aB 0 0] [.aH [vL 5 a,.mp 1,.bA 2,.bA 3],.map 239 b,.bk 1 d,.bk 2 c] [] [.aH [vL 5 a,.mp 1,.bA 2,.bA 3],.map 239 b,.bk 1 e,.bk 2 c]/\Lp f120 0 (AG false a (a.length:Int) 0 a b e c) 4 r h):
  al 120 [.aB 0 0] [.aH [vL 5 a,.mp 1,.bA 2,.bA 3],.map 239 b,.bk 1 d,.bk 2 c] r h:=.of func120 ZJ H
def Tr(c:List (PV×AV))(H:aw (decide (a<i)) (pI g a fun n o p j q=>cc 125 [vN j] [] fun k=>aw (!k) (au (a+1)/\Lp f120 0 (AG f g i (a+1) b c d e) 4 r h)
 (Oz 172 [.aB 0 0,vN a] [.aH [vL 5 b,.mp 1,.bA 2,.bA 3],.map 239 c,.bk 1 d,.bk 2 e] fun l m=>Lp f120 1 (tU f a g i a l m 0 b c d e) 4 r h))
 (Fi r h [vB f] [.aH [vL 5 b,.mp 1,.bA 2,.bA 3],.map 239 c,.bk 1 d,.bk 2 e])):
  Lp f120 0 (AG f g i a b c d e) 4 r h:=.of ZJ H
def Ts(l:List (PV×AV))(d c:Rw)(H:aw (decide (a<2)) (∃n,(0<=a/\a<2)/\([N i,N j]:List PV)[toNat a]?=some (N n)/\(0<=b/\b<(c.length:Int))/\(0<=a/\a<2)/\∃p,(c[toNat b]?).bind (·[(0+toNat a*1)]?)=some (B p)/\aw (!p) ((0<=b/\b<(d.length:Int))/\∃o,(d[toNat b]?).bind (·[0]?)=some (N o)/\au (n-o)/\au ((n-o)-1)/\aw (decide (((n-o)-1)>255)) ((0<=b/\b<(c.length:Int))/\(0<=a/\a<2)/\(0+toNat a*1)+1<=2/\au (a+1)/\Lp f120 1 (tU true b f g e i j (a+1) k l d (setRow c (toNat b) (0+toNat a*1) [B true])) 4 r h)
 (au (a+1)/\Lp f120 1 (tU m b f g e i j (a+1) k l d c) 4 r h)) (au (a+1)/\Lp f120 1 (tU m b f g e i j (a+1) k l d c) 4 r h))
 (au (e+1)/\Lp f120 0 (AG m f g (e+1) k l d c) 4 r h)):
  Lp f120 1 (tU m b f g e i j a k l d c) 4 r h:=.of ZJ H
def akq:bu:={an:=[(1,6,ah),(2,2,ah),(5,2,{fb:=some [0,1,2,3]}),(5,7,fg),(5,9,{vec:=true,fb:=some [2]}),(5,10,iC)]}
def akr(d:List (PV×AV))(a e:Rw)(H:pI c b fun E G I o q=>cc 125 [vN o] [] fun s=>aw s (∃p,al 173 [.aB 0 0,vN b] [.aH [vL 5 c,.mp 1,.bA 2,.bA 3],.map 239 d,.bk 1 a,.bk 2 e] [vL 4 p] [.aH [vL 5 c,.mp 1,.bA 2,.bA 3],.map 239 d,.bk 1 a,.bk 2 e]/\Fi r h [vL 4 p] [.aH [vL 5 c,.mp 1,.bA 2,.bA 3],.map 239 d,.bk 1 a,.bk 2 e])
 (aw (o==5) ((Oz 172 [.aB 0 0,vN b] [.aH [vL 5 c,.mp 1,.bA 2,.bA 3],.map 239 d,.bk 1 a,.bk 2 e] fun t u=>∃f,(0<=(0:Int)/\(0:Int)<2)/\([N t,N u]:List PV)[toNat 0]?=some (N f)/\(0<=b/\b<(a.length:Int))/\∃g,(a[toNat b]?).bind (·[0]?)=some (N g)/\au (f-g)/\au ((f-g)-1)/\Fi r h [vL 4 [[N 5,N 0,N 0,W (wrap .u32 ((f-g)-1))]]] [.aH [vL 5 c,.mp 1,.bA 2,.bA 3],.map 239 d,.bk 1 a,.bk 2 e])/\((Oz 172 [.aB 0 0,vN b] [.aH [vL 5 c,.mp 1,.bA 2,.bA 3],.map 239 d,.bk 1 a,.bk 2 e] fun v w=>∃i,(0<=(0:Int)/\(0:Int)<2)/\([N v,N w]:List PV)[toNat 0]?=some (N i)/\(0<=b/\b<(a.length:Int))/\∃j,(a[toNat b]?).bind (·[0]?)=some (N j)/\au (i-j)/\au ((i-j)-1)/\Fi r h [vL 4 [[N 5,N 0,N 0,W (wrap .u32 ((i-j)-1))]]] [.aH [vL 5 c,.mp 1,.bA 2,.bA 3],.map 239 d,.bk 1 a,.bk 2 e])/\((0<=b/\b<(a.length:Int))/\(Oz 172 [.aB 0 0,vN b] [.aH [vL 5 c,.mp 1,.bA 2,.bA 3],.map 239 d,.bk 1 a,.bk 2 e] fun x y=>∃k,(0<=(0:Int)/\(0:Int)<2)/\([N x,N y]:List PV)[toNat 0]?=some (N k)/\∃l,(a[toNat b]?).bind (·[0]?)=some (N l)/\au (k-l)/\au ((k-l)-1)/\Fi r h [vL 4 [[N 5,N 0,N 0,W (wrap .u32 ((k-l)-1))]]] [.aH [vL 5 c,.mp 1,.bA 2,.bA 3],.map 239 d,.bk 1 a,.bk 2 e])/\(∃m,(a[toNat b]?).bind (·[0]?)=some (N m)/\Oz 172 [.aB 0 0,vN b] [.aH [vL 5 c,.mp 1,.bA 2,.bA 3],.map 239 d,.bk 1 a,.bk 2 e] fun z D=>∃n,(0<=(0:Int)/\(0:Int)<2)/\([N z,N D]:List PV)[toNat 0]?=some (N n)/\au (n-m)/\au ((n-m)-1)/\Fi r h [vL 4 [[N 5,N 0,N 0,W (wrap .u32 ((n-m)-1))]]] [.aH [vL 5 c,.mp 1,.bA 2,.bA 3],.map 239 d,.bk 1 a,.bk 2 e]))))
 (Fi r h [vL 4 [[N o,N 0,N 0,W q]]] [.aH [vL 5 c,.mp 1,.bA 2,.bA 3],.map 239 d,.bk 1 a,.bk 2 e]))):
  al 121 [.aB 0 0,vN b] [.aH [vL 5 c,.mp 1,.bA 2,.bA 3],.map 239 d,.bk 1 a,.bk 2 e] r h:=.of func121 akq H
def aks:bu:={an:=[(1,6,ah),(2,2,ah),(3,14,ah),(8,4,aa),(9,2,ah),(10,2,aa)]}
def akt(b:List (PV×AV))(c d:Rw)(H:pI a e fun s g i f t=>WN 122 [vN f] [] fun u l=>aw (!l) (Fi r h [vB false] [.aH [vL 5 a,.mp 1,.bA 2,.bA 3],.map 239 b,.bk 1 c,.bk 2 d]) (au ((a.length:Int)-1)/\aw (e==((a.length:Int)-1)) (cc 124 [vN f] [] fun m=>aw (!m) (Fi r h [vB false] [.aH [vL 5 a,.mp 1,.bA 2,.bA 3],.map 239 b,.bk 1 c,.bk 2 d])
 (L4 240 [.aB 0 0,vN e,vN g] [.aH [vL 5 a,.mp 1,.bA 2,.bA 3],.map 239 b,.bk 1 c,.bk 2 d] fun v j=>L4 240 [.aB 0 0,vN e,vN i] [.aH [vL 5 a,.mp 1,.bA 2,.bA 3],.map 239 b,.bk 1 c,.bk 2 d] fun w n=>aw (f==5) (Fi r h [vB (bif(g !=0)then j else false)] [.aH [vL 5 a,.mp 1,.bA 2,.bA 3],.map 239 b,.bk 1 c,.bk 2 d])
 (cc 125 [vN f] [] fun o=>aw o (Fi r h [vB (bif j then n else false)] [.aH [vL 5 a,.mp 1,.bA 2,.bA 3],.map 239 b,.bk 1 c,.bk 2 d])
 (Fi r h [vB true] [.aH [vL 5 a,.mp 1,.bA 2,.bA 3],.map 239 b,.bk 1 c,.bk 2 d])))) (L4 240 [.aB 0 0,vN e,vN g] [.aH [vL 5 a,.mp 1,.bA 2,.bA 3],.map 239 b,.bk 1 c,.bk 2 d] fun x k=>L4 240 [.aB 0 0,vN e,vN i] [.aH [vL 5 a,.mp 1,.bA 2,.bA 3],.map 239 b,.bk 1 c,.bk 2 d] fun y p=>aw (f==5) (Fi r h [vB (bif(g !=0)then k else false)] [.aH [vL 5 a,.mp 1,.bA 2,.bA 3],.map 239 b,.bk 1 c,.bk 2 d])
 (cc 125 [vN f] [] fun q=>aw q (Fi r h [vB (bif k then p else false)] [.aH [vL 5 a,.mp 1,.bA 2,.bA 3],.map 239 b,.bk 1 c,.bk 2 d])
 (Fi r h [vB true] [.aH [vL 5 a,.mp 1,.bA 2,.bA 3],.map 239 b,.bk 1 c,.bk 2 d]))))):
  al 170 [.aB 0 0,vN e] [.aH [vL 5 a,.mp 1,.bA 2,.bA 3],.map 239 b,.bk 1 c,.bk 2 d] r h:=.of func170 aks H
def F1(a b c:Int)(d:Rw)(e:List (PV×AV))(f g:Rw):St:=⟨aO 25 [(0,.aB 0 0),(2,vN a),(8,vN b),(9,vN c)],[],[.aH [vL 5 d,.mp 1,.bA 2,.bA 3],.map 239 e,.bk 1 f,.bk 2 g]⟩
def acE:bu:={an:=[(4,6,aY)],cut:=[(2,{bl:=[0,2,8,9]})]}
def aku(b:List (PV×AV))(H:Lp f171 0 (F1 0 (a.length:Int) 0 a b c d) 4 r h):
  al 171 [.aB 0 0] [.aH [vL 5 a,.mp 1,.bA 2,.bA 3],.map 239 b,.bk 1 c,.bk 2 d] r h:=.of func171 acE H
def Tt(e:List (PV×AV))(c f:Rw)(H:aw (decide (a<g)) ((0<=a/\a<(c.length:Int))/\0+1<=1/\kL 241 [.aB 0 0,vN a] [.aH [vL 5 d,.mp 1,.bA 2,.bA 3],.map 239 e,.bk 1 (setRow c (toNat a) 0 [N b]),.bk 2 f] fun i=>au (b+i)/\au (a+1)/\Lp f171 0 (F1 (b+i) g (a+1) d e (setRow c (toNat a) 0 [N b]) f) 4 r h)
 (Fi r h [] [.aH [vL 5 d,.mp 1,.bA 2,.bA 3],.map 239 e,.bk 1 c,.bk 2 f])):
  Lp f171 0 (F1 b g a d e c f) 4 r h:=.of acE H
def akv:bu:={an:=[(1,9,ah),(2,9,ah),(3,5,aY),(3,12,aY)]}
def akw(d:List (PV×AV))(a e:Rw)(H:pI b c fun m k n o p=>L4 240 [.aB 0 0,vN c,vN k] [.aH [vL 5 b,.mp 1,.bA 2,.bA 3],.map 239 d,.bk 1 a,.bk 2 e] fun f q=>pI b c fun s t l u v=>L4 240 [.aB 0 0,vN c,vN l] [.aH [vL 5 b,.mp 1,.bA 2,.bA 3],.map 239 d,.bk 1 a,.bk 2 e] fun g w=>(0<=f/\f<(a.length:Int))/\∃i,(a[toNat f]?).bind (·[0]?)=some (N i)/\(0<=g/\g<(a.length:Int))/\∃j,(a[toNat g]?).bind (·[0]?)=some (N j)/\Fi r h [.agg [N i,N j]] [.aH [vL 5 b,.mp 1,.bA 2,.bA 3],.map 239 d,.bk 1 a,.bk 2 e]):
  al 172 [.aB 0 0,vN c] [.aH [vL 5 b,.mp 1,.bA 2,.bA 3],.map 239 d,.bk 1 a,.bk 2 e] r h:=.of func172 akv H
def AH(a b c d e:Int)(f:Rw)(g:List (PV×AV))(i j k:Rw)(l m:Int):St:=⟨aO 82 [(0,.aB 0 0),(1,vN a),(6,vN b),(7,.bA 4),(8,.aB 5 0),(33,.agg [N c,N d]),(34,vN e)],[],[.aH [vL 5 f,.mp 1,.bA 2,.bA 3],.map 239 g,.bk 1 i,.bk 2 j,.bk 4 k,.aH [vN l,vN m]]⟩
def acF:bu:={an:=[(1,6,ah),(2,5,aY),(3,5,aY),(9,6,aY),(10,2,aY),(11,5,aY),(11,11,aY),(13,2,{fb:=some [5]}),(13,3,{fb:=some [5]}),(13,4,{fb:=some [5]}),(13,5,{fb:=some [5]}),(13,6,{vec:=true,fb:=some [4]}),(13,8,{fb:=some [4]}),(13,9,{vec:=true,fb:=some [4]}),(13,11,{fb:=some [4]})],cut:=[(6,{bl:=[0,1,6,7,8,33,34],iQ:=[(7,4)]})],rf:=true}
def akx(d:List (PV×AV))(b e:Rw)(H:pI c a fun l m n g i=>(0<=a/\a<(b.length:Int))/\∃f,(b[toNat a]?).bind (·[0]?)=some (N f)/\Oz 172 [.aB 0 0,vN a] [.aH [vL 5 c,.mp 1,.bA 2,.bA 3],.map 239 d,.bk 1 b,.bk 2 e] fun j k=>Lp f173 0 (AH a f j k 0 c d b e [[N g,N 0,N 0,W i]] 0 0) 4 r h):
  al 173 [.aB 0 0,vN a] [.aH [vL 5 c,.mp 1,.bA 2,.bA 3],.map 239 d,.bk 1 b,.bk 2 e] r h:=.of func173 acF H
def tV(k:List (PV×AV))(l f b:Rw)(H:aw (decide (a<2)) (∃d,(0<=a/\a<2)/\([N g,N i]:List PV)[toNat a]?=some (N d)/\au (d-c)/\au ((d-c)-1)/\(0<=a/\a<2)/\∃o p,0<1/\putAt ([vN m,vN n]:List AV) (0+toNat a*1+0) [vN ((d-c)-1)]=[vN o,vN p]/\(0<=e/\e<(f.length:Int))/\(0<=a/\a<2)/\∃s,(f[toNat e]?).bind (·[(0+toNat a*1)]?)=some (B s)/\aw s (au ((b.length:Int)-1)/\(0<=a/\a<2)/\∃t u,0<1/\putAt ([vN o,vN p]:List AV) (0+toNat a*1+0) [vN ((b.length:Int)-1)]=[vN t,vN u]/\au (d-c)/\au ((d-c)-(b.length:Int))/\au (((d-c)-(b.length:Int))-1)/\(b++([[N 5,N 0,N 0,W (wrap .u32 (((d-c)-(b.length:Int))-1))]]:Rw)).length*32<=2^47/\au (a+1)/\Lp f173 0 (AH e c g i (a+1) j k l f (b++([[N 5,N 0,N 0,W (wrap .u32 (((d-c)-(b.length:Int))-1))]]:Rw)) t u) 4 r h)
 (au (a+1)/\Lp f173 0 (AH e c g i (a+1) j k l f b o p) 4 r h))
 ((0<=(0:Int)/\(0:Int)<2)/\∃q,([vN m,vN n]:List AV)[0+toNat 0*1+0]?=some (.v (N q))/\(0<=(1:Int)/\(1:Int)<2)/\∃w,([vN m,vN n]:List AV)[0+toNat 1*1+0]?=some (.v (N w))/\(0<=(0:Int)/\0<(b.length:Int))/\1+1<=4/\(0<=(0:Int)/\0<((setRow b (toNat 0) 1 [N q]).length:Int))/\2+1<=4/\Fi r h [vL 4 (setRow (setRow b (toNat 0) 1 [N q]) (toNat 0) 2 [N w])] [.aH [vL 5 j,.mp 1,.bA 2,.bA 3],.map 239 k,.bk 1 l,.bk 2 f])):
  Lp f173 0 (AH e c g i a j k l f b m n) 4 r h:=.of acF H
def aky:bu:={an:=[(4,3,aa),(4,4,aa),(4,5,aa)]}
def akz(a:List (PV×AV))(d e:Rw)(H:aw (f==0) (au (b+1)/\Fi r h [vN (b+1),vB true] [.aH [vL 5 c,.mp 1,.bA 2,.bA 3],.map 239 a,.bk 1 d,.bk 2 e])
 (((cE a (N f)=none/\Fi r h [vN 0,vB (bif false then(decide ((0:Int)>b))else false)] [.aH [vL 5 c,.mp 1,.bA 2,.bA 3],.map 239 a,.bk 1 d,.bk 2 e])\/(∃g,cE a (N f)=some (vN g)/\Fi r h [vN g,vB (bif true then(decide (g>b))else false)] [.aH [vL 5 c,.mp 1,.bA 2,.bA 3],.map 239 a,.bk 1 d,.bk 2 e])))):
  al 240 [.aB 0 0,vN b,vN f] [.aH [vL 5 c,.mp 1,.bA 2,.bA 3],.map 239 a,.bk 1 d,.bk 2 e] r h:=.of func240 aky H
def F2(a:Int)(b c:Bool)(d:Int)(e:Rw)(f:List (PV×AV))(g i:Rw):St:=⟨aO 23 [(5,vN a),(14,.agg [B b,B c]),(15,vN d)],[],[.aH [vL 5 e,.mp 1,.bA 2,.bA 3],.map 239 f,.bk 1 g,.bk 2 i]⟩
def acG:bu:={an:=[(2,5,aY)],cut:=[(3,{bl:=[5,14,15]})]}
def akA(d:List (PV×AV))(H:(0<=b/\b<(a.length:Int))/\adS a b fun f g=>Lp f241 0 (F2 1 f g 0 c d e a) 4 r h):
  al 241 [.aB 0 0,vN b] [.aH [vL 5 c,.mp 1,.bA 2,.bA 3],.map 239 d,.bk 1 e,.bk 2 a] r h:=.of func241 acG H
def tW(f:List (PV×AV))(H:aw (decide (a<2)) (∃j,(0<=a/\a<2)/\([B c,B d]:List PV)[toNat a]?=some (B j)/\aw j (au (b+1)/\au (a+1)/\Lp f241 0 (F2 (b+1) c d (a+1) e f g i) 4 r h)
 (au (a+1)/\Lp f241 0 (F2 b c d (a+1) e f g i) 4 r h))
 (Fi r h [vN b] [.aH [vL 5 e,.mp 1,.bA 2,.bA 3],.map 239 f,.bk 1 g,.bk 2 i])):
  Lp f241 0 (F2 b c d a e f g i) 4 r h:=.of acG H
def akB:bu:={an:=[(1,0,ah),(5,4,ah)]}
def akC(b:Int)(H:∃a,al 174 [] [] [vL 2 a] []/\kL 175 [vL 2 a,.fn (.func 176) [] [.aB 0 0]] [.aH [vN b]] fun c=>aw (decide (c<0)) (Fi r h [vS [],vB false] [])
 (aaG a c fun e d=>Fi r h [vS d,vB true] [])):
  al 122 [vN b] [] r h:=.of func122 akB H
def akD:bu:={}
def akE(H:Fi r h [vL 2 [[N 0,S [108,100,105,109,109]],[N 1,S [108,100,120,105,109,109]],[N 2,S [115,116]],[N 3,S [115,116,120]],[N 4,S [97,100,100,107]],[N 5,S [106,97]],[N 6,S [114,101,116,107]],[N 7,S [116,97,120]],[N 12,S [97,100,100,120]],[N 20,S [115,117,98,107]],[N 21,S [106,101,113,107]],[N 22,S [114,101,116,97]],[N 28,S [115,117,98,120]],[N 29,S [106,101,113,120]],[N 32,S [108,100,97,98,115]],[N 36,S [109,117,108,107]],[N 37,S [106,103,116,107]],[N 44,S [109,117,108,120]],[N 45,S [106,103,116,120]],[N 52,S [100,105,118,107]],[N 53,S [106,103,101,107]],[N 60,S [100,105,118,120]],[N 61,S [106,103,101,120]],[N 68,S [111,114,107]],[N 69,S [106,115,101,116,107]],[N 76,S [111,114,120]],[N 77,S [106,115,101,116,120]],[N 84,S [97,110,100,107]],[N 92,S [97,110,100,120]],[N 96,S [108,100,109,101,109]],[N 97,S [108,100,120,109,101,109]],[N 100,S [108,115,104,107]],[N 108,S [108,115,104,120]],[N 116,S [114,115,104,107]],[N 124,S [114,115,104,120]],[N 128,S [108,100,108,101,110]],[N 129,S [108,100,120,108,101,110]],[N 132,S [110,101,103]],[N 135,S [116,120,97]],[N 164,S [120,111,114,107]],[N 172,S [120,111,114,120]]]] []):
  al 174 [] [] r h:=.of func174 akD H
def akF:bu:={}
def akG(b:Int)(c:By)(a:Int)(H:Fi r h [vB (b==a)] [.aH [vN a]]):
  al 176 [.agg [N b,S c],.aB 0 0] [.aH [vN a]] r h:=.of func176 akF H
def A35:bu:={an:=[(1,1,ah),(3,1,ah)]}
def W35(H:cc 59 [vL 4 a] [] fun d=>aw d (Fi r h [vN 0,vB false] [])
 (∃b c,al 60 [vL 4 a,vB true] [] [vN b,vL 1 c] []/\Fi r h [vN b,vB (b==(-1))] [])):
  al 35 [vL 4 a] [] r h:=.of func35 A35 H
def A59:bu:={an:=[(1,4,aa),(1,5,aa),(1,6,aa)]}
def W59(H:Fi r h [vB (bif((a.length:Int)==0)then true else(decide ((a.length:Int)>4096)))] []):
  al 59 [vL 4 a] [] r h:=.of func59 A59 H
abbrev MK(a:Rw)(b:Bool)(c d:Int)(e:Rw)r h:=Lp f60 0 ⟨aO 80 [(0,vL 4 a),(1,vB b),(6,.bA 0),(16,vN c),(17,vN d)],[],[.bk 1 e]⟩ 0 r h
abbrev Io(a:Rw)(b:Bool)(c:Rw)(d e:Int)(f:Rw)r h:=Lp f60 1 ⟨aO 80 [(0,vL 4 a),(1,vB b),(6,.bA 0),(26,vL 4 c),(27,vN d),(28,vN e)],[],[.bk 1 f]⟩ 0 r h
abbrev AI(a:Rw)(b:Bool)(c:Int)(d:Rw)(e f:Int)(g:Rw)(i j:Int)(k:Rw)(l m n o:Int)r h:=Lp f60 2 ⟨aO 80 [(0,vL 4 a),(1,vB b),(6,.bA 0),(8,vN c),(9,.aB 1 0),(26,vL 4 d),(27,vN e),(28,vN f),(59,vL 1 g),(60,vN i),(61,vN j)],[],[.bk 1 k,.aH [vN l,vN m,vN n,vW o]]⟩ 0 r h
def A60:bu:={an:=[(2,1,aY),(5,2,aY),(7,1,aY),(10,2,ah),(11,2,ah),(11,9,ah),(11,14,aY),(13,2,ah),(15,1,ah),(16,2,aY),(16,7,aY),(16,9,ah),(16,11,aY)],cut:=[(14,{bl:=[0,1,6,8,9,26,27,28,59,60,61],iQ:=[(6,1)]}),(3,{bl:=[0,1,6,16,17],iQ:=[(6,1)]}),(9,{bl:=[0,1,6,26,27,28],iQ:=[(6,1)]})],rf:=true}
def W60(H:(a.length:Int)=(a.length:Int)/\0<=(a.length:Int)/\(a.length:Int)*(8:Nat)<=2^47/\MK a b ((replicate (toNat (a.length:Int)) [N 0]:Rw).length:Int) 0 (replicate (toNat (a.length:Int)) [N 0]:Rw) r h):
  al 60 [vL 4 a,vB b] [] r h:=.of func60 A60 H
def Xp(c:Rw)(H:aw (decide (a<e)) ((0<=a/\a<(c.length:Int))/\0+1<=1/\au (a+1)/\MK b d e (a+1) (setRow c (toNat a) 0 [N 65535]) r h)
 ((0<=(0:Int)/\0<(c.length:Int))/\0+1<=1/\Io b d b (b.length:Int) 0 (setRow c (toNat 0) 0 [N 0]) r h)):
  MK b d e a c r h:=.of A60 H
def ML(H:aw (decide (a<k)) (EP j a fun d e f b=>cc 85 [vL 4 g,vN a] [] fun p=>aw (!p) (Fi r h [vN a,.own 0 0 1 []] []) (aw i (cc 86 [vN d] [] fun q=>aw q ((0<=a/\a<(c.length:Int))/\∃l,(c[toNat a]?).bind (·[0]?)=some (N l)/\0<=b/\aw ((cH .and .i64 (fdiv l (2^(min (toNat b) (IntKind.bits .i64)))) 1)==0) (Fi r h [vN a,.own 0 0 1 []] [])
 (Hn 87 [.agg [N d,N e,N f,W b],vN a] [] fun m=>AI g i a j k a m (m.length:Int) 0 c d e f b r h)) (Hn 87 [.agg [N d,N e,N f,W b],vN a] [] fun n=>AI g i a j k a n (n.length:Int) 0 c d e f b r h)) (Hn 87 [.agg [N d,N e,N f,W b],vN a] [] fun o=>AI g i a j k a o (o.length:Int) 0 c d e f b r h)))
 (Fi r h [vN (-1),vL 1 c] [])):
  Io g i j k a c r h:=.of A60 H
def Xq(a:Rw)(H:aw (decide (d<l)) (Rdn k d fun b=>(0<=b/\b<(a.length:Int))/\∃q,(a[toNat b]?).bind (·[0]?)=some (N q)/\(0<=c/\c<(a.length:Int))/\∃s,(a[toNat c]?).bind (·[0]?)=some (N s)/\kL 88 [.agg [N m,N n,N o,W p],vN s] [] fun t=>(0<=b/\b<(a.length:Int))/\0+1<=1/\au (d+1)/\AI f g c i j e k l (d+1) (setRow a (toNat b) 0 [N (cH .and .i64 q t)]) m n o p r h)
 (au (e+1)/\Io f g i j (e+1) a r h)):
  AI f g c i j e k l d a m n o p r h:=.of A60 H
abbrev Ip(a b:Rw)(c d:Int)r h:=Lp f85 0 ⟨aO 58 [(0,vL 4 a),(47,vL 1 b),(48,vN c),(49,vN d)],[],[]⟩ 0 r h
def A85:bu:={an:=[(1,3,ah),(2,2,ah),(3,4,ah),(3,9,ah),(3,21,ah),(5,2,ah),(7,1,ah)],cut:=[(6,{bl:=[0,47,48,49]})]}
def W85(H:EP a c fun b d e f=>WN 122 [vN b] [] fun n j=>aw (!j) (Fi r h [vB false] []) (cc 57 [.agg [N b,N d,N e,W f]] [] fun k=>aw (!k) (Fi r h [vB false] []) (cc 123 [.agg [N b,N d,N e,W f]] [] fun l=>aw (!l) (Fi r h [vB false] []) (au ((a.length:Int)-1)/\aw (c==((a.length:Int)-1)) (cc 124 [vN b] [] fun m=>aw (!m) (Fi r h [vB false] [])
 (Hn 87 [.agg [N b,N d,N e,W f],vN c] [] fun g=>Ip a g (g.length:Int) 0 r h)) (Hn 87 [.agg [N b,N d,N e,W f],vN c] [] fun i=>Ip a i (i.length:Int) 0 r h))))):
  al 85 [vL 4 a,vN c] [] r h:=.of func85 A85 H
def Xr(H:aw (decide (a<d)) (Rdn c a fun e=>aw (decide (e>=(b.length:Int))) (Fi r h [vB false] [])
 (au (a+1)/\Ip b c d (a+1) r h))
 (Fi r h [vB true] [])):
  Ip b c d a r h:=.of A85 H
def A86:bu:={an:=[(1,3,aa),(1,4,aa)]}
def W86(a:Int)(H:Fi r h [vB (bif(a==96)then true else(a==97))] []):
  al 86 [vN a] [] r h:=.of func86 A86 H
def A87:bu:={an:=[(1,2,ah),(5,2,ah)]}
def W87(H:cc 124 [vN b] [] fun f=>aw f (Fi r h [vL 1 []] [])
 (aw (b==5) (au (a+1)/\au ((a+1)+(wrap .i64 e))/\Fi r h [vL 1 [[N ((a+1)+(wrap .i64 e))]]] [])
 (cc 125 [vN b] [] fun g=>aw g (au (a+1)/\au ((a+1)+c)/\au (a+1)/\au ((a+1)+d)/\Fi r h [vL 1 [[N ((a+1)+c)],[N ((a+1)+d)]]] [])
 (au (a+1)/\Fi r h [vL 1 [[N (a+1)]]] [])))):
  al 87 [.agg [N b,N c,N d,W e],vN a] [] r h:=.of func87 A87 H
def A88:bu:={an:=[(1,2,ah)]}
def W88(H:cc 126 [vN c] [] fun f=>aw f (0<=a/\Fi r h [vN (cH .or .i64 b (wrap .i64 ((1:Int)*2^(min (toNat a) (IntKind.bits .i64)))))] [])
 (Fi r h [vN b] [])):
  al 88 [.agg [N c,N d,N e,W a],vN b] [] r h:=.of func88 A88 H
def akH:bu:={an:=[(2,5,aa),(2,6,aa),(2,7,aa),(3,2,ah),(3,6,ah),(7,4,aa),(7,5,aa),(7,6,aa)]}
def akI(a c d b:Int)(H:aw (a==32) ((4:Int)≠0/\Fi r h [vB (bif((tmod b 4)==0)then(decide (b<=60))else false)] [])
 (cc 126 [vN a] [] fun e=>aw e (Fi r h [vB (decide (b<16))] []) (cc 86 [vN a] [] fun f=>aw f (Fi r h [vB (decide (b<16))] [])
 (aw (a==52) (Fi r h [vB (b !=0)] [])
 (aw (bif(a==100)then true else(a==116)) (Fi r h [vB (decide (b<32))] [])
 (Fi r h [vB true] [])))))):
  al 123 [.agg [N a,N c,N d,W b]] [] r h:=.of func123 akH H
def akJ:bu:={an:=[(1,3,aa),(1,4,aa)]}
def akK(a:Int)(H:Fi r h [vB (bif(a==6)then true else(a==22))] []):
  al 124 [vN a] [] r h:=.of func124 akJ H
def akL:bu:={}
def akM(a:Int)(H:aw (a==21) (Fi r h [vB true] [])
 (aw (a==37) (Fi r h [vB true] [])
 (aw (a==53) (Fi r h [vB true] [])
 (aw (a==69) (Fi r h [vB true] [])
 (aw (a==29) (Fi r h [vB true] [])
 (aw (a==45) (Fi r h [vB true] [])
 (aw (a==61) (Fi r h [vB true] [])
 (aw (a==77) (Fi r h [vB true] [])
 (Fi r h [vB false] []))))))))):
  al 125 [vN a] [] r h:=.of func125 akL H
def akN:bu:={an:=[(1,3,aa),(1,4,aa)]}
def akO(a:Int)(H:Fi r h [vB (bif(a==2)then true else(a==3))] []):
  al 126 [vN a] [] r h:=.of func126 akN H
structure Nm where
 code:Int
 name:By
def Nm.row(n:Nm):List PV:=[N n.code,S n.name]
def Iq:List Nm:=[⟨0,[108,100,105,109,109]⟩,⟨1,[108,100,120,105,109,109]⟩,⟨2,[115,116]⟩,⟨3,[115,116,120]⟩,⟨4,[97,100,100,107]⟩,⟨5,[106,97]⟩,⟨6,[114,101,116,107]⟩,⟨7,[116,97,120]⟩,⟨12,[97,100,100,120]⟩,⟨20,[115,117,98,107]⟩,⟨21,[106,101,113,107]⟩,
 ⟨22,[114,101,116,97]⟩,⟨28,[115,117,98,120]⟩,⟨29,[106,101,113,120]⟩,⟨32,[108,100,97,98,115]⟩,⟨36,[109,117,108,107]⟩,⟨37,[106,103,116,107]⟩,⟨44,[109,117,108,120]⟩,⟨45,[106,103,116,120]⟩,⟨52,[100,105,118,107]⟩,⟨53,[106,103,101,107]⟩,⟨60,[100,105,118,120]⟩,
 ⟨61,[106,103,101,120]⟩,⟨68,[111,114,107]⟩,⟨69,[106,115,101,116,107]⟩,⟨76,[111,114,120]⟩,⟨77,[106,115,101,116,120]⟩,⟨84,[97,110,100,107]⟩,⟨92,[97,110,100,120]⟩,⟨96,[108,100,109,101,109]⟩,⟨97,[108,100,120,109,101,109]⟩,⟨100,[108,115,104,107]⟩,⟨108,[108,115,104,120]⟩,
 ⟨116,[114,115,104,107]⟩,⟨124,[114,115,104,120]⟩,⟨128,[108,100,108,101,110]⟩,⟨129,[108,100,120,108,101,110]⟩,⟨132,[110,101,103]⟩,⟨135,[116,120,97]⟩,⟨164,[120,111,114,107]⟩,⟨172,[120,111,114,120]⟩]
def akP:al 174 [] [] [vL 2 (Iq.map Nm.row)] []:=akE fi
def r6(c:Int):Option Nm:=Iq.find? fun n=>n.code==c
def acH(c:Int):al 122 [vN c] [] [vS (((r6 c).map (·.name)).getD []),vB (r6 c).isSome] []:=by
 refine akC c ⟨_,akP,_,QI _ _ (eQ (p:=fun n=>n.code==c) (l:=Iq) (Hd:=fun i=>pK _ _ i c) (by decide) fun i r h b d=>Kw _ _ _ _ (eT (l:=Iq) (by simp) (fun x a=>⟨x.code,x.name,by omega,aQ a,_,akG _ _ _ fi,b x a⟩) d)),ad (fun h=>?_) fun h=>?_⟩
 .exact ai (by rw[r6,zA (aV h)];rfl) rfl
 .have h:=bI h
  obtain⟨x,e,-,f⟩:=vc (p:=fun n=>n.code==c) (l:=Iq) (by omega)
  exact⟨x.code,x.name,by omega,by rw[bw,e];rfl,ai (by rw[r6,f];rfl) rfl⟩
def qC(c:Int):Bool:=bif(c==6)then true else(c==22)
def ZK(c:Int):al 124 [vN c] [] [vB (qC c)] []:=akK c fi
def cO(c:Int):Bool:=bif c==21 then true else bif c==37 then true else bif c==53 then true else bif c==69 then true else bif c==29 then true else bif c==45 then true else bif c==61 then true else bif c==77 then true else false
def Tu(c:Int):al 125 [vN c] [] [vB (cO c)] []:=
 akM c (ad (fun h=>ai (by rw[cO,h];rfl) rfl) fun a=>ad (fun h=>ai (by rw[cO,a,h];rfl) rfl) fun b=>ad (fun h=>ai (by rw[cO,a,b,h];rfl) rfl) fun d=>ad (fun h=>ai (by rw[cO,a,b,d,h];rfl) rfl) fun e=>
  ad (fun h=>ai (by rw[cO,a,b,d,e,h];rfl) rfl) fun f=>ad (fun h=>ai (by rw[cO,a,b,d,e,f,h];rfl) rfl) fun g=>ad (fun h=>ai (by rw[cO,a,b,d,e,f,g,h];rfl) rfl) fun i=>
  ad (fun h=>ai (by rw[cO,a,b,d,e,f,g,i,h];rfl) rfl) fun h=>ai (by rw[cO,a,b,d,e,f,g,i,h];rfl) rfl)
abbrev Lb:=Int×Int
def Ln(l:List Lb):List (PV×AV):=l.map fun x=>(N x.1,vN x.2)
def mD(l:List Lb)(k:Int):Option Lb:=l.find? fun x=>k==x.1
def AJ(x:Lb):List Lb->List Lb
 |[]=>[x]
 |y::l=>bif x.1==y.1 then x::l else y::AJ x l
def Tv(a b:Int):l0 (N a) (N b)=(a==b):=rfl
def vy(k:Int):∀(l:List Lb),cE (Ln l) (N k)=(mD l k).map fun x=>vN x.2
 |[]=>rfl
 |x::l=>by
  have a:=vy k l;unfold Ln mD at a⊢;rw[bH,cE,Tv,cj];cases k==x.1
  .exact a
  .rfl
def MM(x:Lb):∀(l:List Lb),cw (Ln l) (N x.1) (vN x.2)=Ln (AJ x l)
 |[]=>rfl
 |y::l=>by
  have a:=MM x l;unfold Ln at a⊢;rw[bH,cw,Tv,AJ];cases x.1==y.1
  .rw[aN (by decide),a];rfl
  .rfl
structure Lk where
 l:List Sy
 qK:List Lb
 place:List Int
 cz:List (Bool×Bool)
def mm(l:List Int):Rw:=l.map fun n=>[N n]
def kN(l:List (Bool×Bool)):Rw:=l.map fun p=>[B p.1,B p.2]
abbrev lb(k:Lk):List Bx:=[.aH [vL 5 (k.l.map Sy.row),.mp 1,.bA 2,.bA 3],.map 239 (Ln k.qK),.bk 1 (mm k.place),.bk 2 (kN k.cz)]
def ie(m:List Lb)(i cn:Int):Int×Bool:=bif cn==0 then(i+1,true)else match mD m cn with
 |none=>(0,false)
 |some x=>(x.2,decide (x.2>i))
def VM(k:Lk)(i cn:Int)(a:0<=i/\i<=2^40):al 240 [.aB 0 0,vN i,vN cn] (lb k) [vN (ie k.qK i cn).1,vB (ie k.qK i cn).2] (lb k):=by
 apply akz;refine ad (fun h=>⟨aC,ai (by rw[ie,h];rfl) rfl⟩) fun h=>?_
 cases hg:mD k.qK cn with
 |none=>exact .inl ⟨by rw[vy,hg];rfl,ai (by rw[ie,h,hg];rfl) rfl⟩
 |some x=>exact .inr ⟨x.2,by rw[vy,hg];rfl,ai (by rw[ie,h,hg];rfl) rfl⟩
def countP(p:Bool×Bool):Int:=bif p.2 then(bif p.1 then 1+1+1 else 1+1)else bif p.1 then 1+1 else 1
def akQ(k:Lk)(i:Nat)(p:Bool×Bool)(e:k.cz[i]?=some p):al 241 [.aB 0 0,vN i] (lb k) [vN (countP p)] (lb k):=by
 have g:i<k.cz.length:=(aG.1 e).1;have f:(kN k.cz)[toNat (i:Int)]?=some [B p.1,B p.2]:=by rw[kN,toNat_cast,bw,e];rfl
 obtain⟨a,b⟩:=p;apply akA;refine⟨⟨by omega,by simp[kN];omega⟩,a,b,f,?_⟩
 apply tW;refine bt rfl ⟨a,⟨by omega,by omega⟩,rfl,ad (fun d=>⟨aC,aC,?_⟩) fun d=>⟨aC,?_⟩⟩
 .apply tW
  refine bt rfl ⟨b,⟨by omega,by omega⟩,rfl,ad (fun c=>⟨aC,aC,?_⟩) fun c=>⟨aC,?_⟩⟩
  .apply tW
   exact aU rfl (ai (by subst d;subst c;rfl) rfl)
  .apply tW
   exact aU rfl (ai (by subst d;subst c;rfl) rfl)
 .apply tW
  refine bt rfl ⟨b,⟨by omega,by omega⟩,rfl,ad (fun c=>⟨aC,aC,?_⟩) fun c=>⟨aC,?_⟩⟩
  .apply tW
   exact aU rfl (ai (by subst d;subst c;rfl) rfl)
  .apply tW
   exact aU rfl (ai (by subst d;subst c;rfl) rfl)
def nA:List (Bool×Bool)->Int->List Int
 |[],_=>[]
 |p::t,n=>n::nA t (n+countP p)
def tX(f:α->α)(v:α)(t:List α):∀(u:List α),(u++v::t).modify u.length f=u++f v::t
 |[]=>rfl
 |a::u=>by
  have:=tX f v t u;show(a::(u++v::t)).modify (u.length+1) f=a::(u++f v::t)
  rw[List.modify_succ_cons,this]
def OS(z:List Int)(y n:Int)(t:List Int):setRow (mm (z++y::t)) z.length 0 [N n]=mm (z++n::t):=by
 unfold setRow mm;rw[bM,bH,bM,bH];have:=tX (fun r=>putAt r 0 [N n]) [N y] (t.map fun n=>[N n]) (z.map fun n=>[N n])
 rw[ao]at this;exact this
def nB(p:Bool×Bool):1<=countP p/\countP p<=3:=by
 obtain⟨a,b⟩:=p;cases a<;>cases b<;>decide
def akR(k:Lk)(j:k.place.length=k.l.length)(m:k.cz.length=k.l.length)(q:k.l.length<=2^30):al 171 [.aB 0 0] (lb k) [] (lb {k with place:=nA k.cz 0}):=by
 have key:∀(t:List (Bool×Bool))(i:Nat)(n:Int)(z y:List Int),k.cz.drop i=t->z.length=i->y.length=t.length->0<=n->n<=3*i ->
   Lp f171 0 (F1 n k.l.length i (k.l.map Sy.row) (Ln k.qK) (mm (z++y)) (kN k.cz)) 4 [] (lb {k with place:=z++nA t n}):=by
  intro t;induction t with
  |nil=>
   intro i n z y b d a _ _;apply Tt;have:y=[]:=hX.1 a;subst this;exact aP (l:=k.cz) (by omega) b fi
  |cons p t e=>
   intro i n z y b d a v s;obtain⟨f,g,u⟩:=drop_cons b;match y,a with
   |y0::y,a=>
    have o:=nB p;have c:=OS z y0 n y;rw[d]at c;apply Tt;refine aK (l:=k.cz) (by omega) b ⟨⟨by omega,by simp[mm];omega⟩,by omega,?_⟩
    rw[toNat_cast,c];refine⟨_,akQ {k with place:=z++n::y} i p f,aC,aC,?_⟩;have:=e (i+1) (n+countP p) (z++[n]) y g (by simp;omega) (by simpa using a) (by omega) (by omega)
    rw[bp,bp]at this;exact this
 apply aku;rw[ao];exact key k.cz 0 0 [] k.place rfl rfl (by omega) (by omega) (by omega)
def kf(k:Lk)(i cn:Int):Int:=k.place.getD (ie k.qK i cn).1.toNat 0
def MN(k:Lk)(i cn:Int):Prop:=0<=(ie k.qK i cn).1/\(ie k.qK i cn).1<(k.place.length:Int)
def MO(h:MN k i cn):((mm k.place)[toNat (ie k.qK i cn).1]?).bind (·[0]?)=some (N (kf k i cn)):=by
 obtain⟨b,c⟩:=h;have a:(ie k.qK i cn).1.toNat<k.place.length:=by omega
 rw[mm,bw,bo a,kf,bW,bo a];rfl
def ZL(k:Lk)(i:Nat)(x:Sy)(e:i<=2^40)(c:k.l[i]?=some x)(b:MN k i x.t)(a:MN k i x.f):al 172 [.aB 0 0,vN i] (lb k) [.agg [N (kf k i x.t),N (kf k i x.f)]] (lb k):=by
 have d:(mm k.place).length=k.place.length:=ao ..;apply akw;rw[d];exact⟨x.label,x.t,x.f,x.code,x.k,by omega,aQ c,_,_,VM k i x.t ⟨by omega,by omega⟩,x.label,x.t,x.f,x.code,x.k,by omega,aQ c,_,_,VM k i x.f ⟨by omega,by omega⟩,⟨b.1,b.2⟩,_,MO b,⟨a.1,a.2⟩,_,MO a,fi⟩
def tY(n:Int)(m:List Lb)(i:Int)(x:Sy):Bool:=bif !(r6 x.code).isSome then false else bif(bif i==n-1 then !qC x.code else false)then false else
 bif x.code==5 then(bif x.t !=0 then(ie m i x.t).2 else false)else bif cO x.code then(bif(ie m i x.t).2 then(ie m i x.f).2 else false)else true
def akS(k:Lk)(i:Nat)(x:Sy)(m:k.l.length<=2^40)(j:k.l[i]?=some x):al 170 [.aB 0 0,vN i] (lb k) [vB (tY k.l.length k.qK i x)] (lb k):=by
 have l:i<k.l.length:=(aG.1 j).1;have g:=VM k i x.t ⟨by omega,by omega⟩
 have f:=VM k i x.f ⟨by omega,by omega⟩
 apply akt;refine⟨x.label,x.t,x.f,x.code,x.k,by omega,aQ j,_,_,acH x.code,ad (fun h=>ai (by rw[tY,h];rfl) rfl) fun c=>?_⟩
 rw[ao];refine⟨aC,ad (fun b=>⟨_,ZK x.code,ad (fun e=>ai (by rw[tY,c,b,e];rfl) rfl) fun e=>⟨_,_,g,_,_,f,ad (fun a=>ai (by rw[tY,c,b,e,a];rfl) rfl) fun a=>⟨_,Tu x.code,ad (fun d=>ai (by rw[tY,c,b,e,a,d];rfl) rfl) fun d=>ai (by rw[tY,c,b,e,a,d];rfl) rfl⟩⟩⟩)
  fun b=>⟨_,_,g,_,_,f,ad (fun a=>ai (by rw[tY,c,b,a];rfl) rfl) fun a=>⟨_,Tu x.code,ad (fun d=>ai (by rw[tY,c,b,a,d];rfl) rfl) fun d=>ai (by rw[tY,c,b,a,d];rfl) rfl⟩⟩⟩
def gq:List Sy->Int->List Lb->Bool×List Lb
 |[],_,m=>(true,m)
 |x::t,i,m=>bif(bif decide (x.label<0)then true else(mD m x.label).isSome)then(false,m)else gq t (i+1) (bif decide (x.label>0)then AJ (x.label,i) m else m)
def tl(n:Int)(m:List Lb):List Sy->Int->Bool
 |[],_=>decide (n>0)
 |x::t,i=>bif !tY n m i x then false else tl n m t (i+1)
def dj(l:List Sy):Bool×List Lb:=(bif(gq l 0 []).1 then tl l.length (gq l 0 []).2 l 0 else false,(gq l 0 []).2)
def akT(k:Lk)(n:k.l.length<=2^40)(o:k.qK=[]):al 119 [.aB 0 0] (lb k) [vB (dj k.l).1] (lb {k with qK:=(dj k.l).2}):=by
 have s:∀(m:List Lb)(t:List Sy)(i:Nat),k.l.drop i=t->Lp f119 1 (F0 k.l.length i (k.l.map Sy.row) (Ln m) (mm k.place) (kN k.cz)) 4 [vB (tl k.l.length m t i)] (lb {k with qK:=m}):=by
  intro m t;induction t with
  |nil=>intro i b;apply Tq;rw[ao];exact aP (l:=k.l) rfl b fi
  |cons x t d=>
   intro i b;obtain⟨e,c,j⟩:=drop_cons b;apply Tq;exact aK (l:=k.l) rfl b ⟨_,akS {k with qK:=m} i x n e,ad (fun a=>ai (by rw[tl,a];rfl) rfl) fun a=>⟨aC,by rw[tl,a];exact d (i+1) c⟩⟩
 have q:∀(t:List Sy)(i:Nat)(m:List Lb),k.l.drop i=t->Lp f119 0 (tT (k.l.map Sy.row) k.l.length i (k.l.map Sy.row) (Ln m) (mm k.place) (kN k.cz)) 4 [vB (bif(gq t i m).1 then tl k.l.length (gq t i m).2 k.l 0 else false)] (lb {k with qK:=(gq t i m).2}):=by
  intro t;induction t with
  |nil=>
   intro i m b;apply Tp;rw[ao];exact aP (l:=k.l) rfl b (s m k.l 0 rfl)
  |cons x t d=>
   intro i m b;obtain⟨e,c,j⟩:=drop_cons b;have p:=MM (x.label,(i:Int)) m;apply Tp;refine aK (l:=k.l) rfl b ⟨x.label,x.t,x.f,x.code,x.k,by omega,aQ e,?_⟩
   rw[gq];cases hg:mD m x.label with
   |none=>
    refine .inl ⟨by rw[vy,hg];rfl,ad (fun a=>?_) fun a=>ad (fun f=>⟨aC,?_⟩) fun f=>⟨aC,?_⟩⟩
    .have a:decide (x.label<0)=true:=(cg a).1
     exact ai (by rw[a];rfl) (by rw[a];rfl)
    .have a:decide (x.label<0)=false:=by cases hd:decide (x.label<0)<;>rw[hd]at a<;>simp at a⊢
     rw[a,f,p];exact d (i+1) _ c
    .have a:decide (x.label<0)=false:=by cases hd:decide (x.label<0)<;>rw[hd]at a<;>simp at a⊢
     rw[a,f];exact d (i+1) _ c
   |some y=>
    have g:(bif decide (x.label<0)then true else true)=true:=by cases decide (x.label<0)<;>rfl
    refine .inr ⟨y.2,by rw[vy,hg];rfl,bt g (ai ?_ ?_)⟩
    .rw[show(some y).isSome=true from rfl,g];rfl
    .rw[show(some y).isSome=true from rfl,g];rfl
 apply ako;rw[ao,o];exact q k.l 0 [] rfl
def w7:∀(l:List (Bool×Bool))(n:Int),(nA l n).length=l.length
 |[],_=>rfl
 |p::t,n=>by rw[nA,aE,w7 t,aE]
def AK:∀(l:List (Bool×Bool))(n:Int),∀v∈nA l n,n<=v/\v<=n+3*l.length
 |[],_,v,h=>by simp[nA]at h
 |p::t,n,v,h=>by
  have a:=nB p;rcases aZ.1 (show v∈n::nA t (n+countP p)from h)with rfl|h
  .simp only[aE];omega
  .have:=AK t _ v h
   simp only[aE];omega
structure VN (k:Lk):Prop where
 pl:k.place.length=k.l.length
 fl:k.cz.length=k.l.length
 len:k.l.length<=2^30
 bd:∀v∈k.place,0<=v/\v<=2^40
 jmp:∀(i:Nat)(x:Sy),k.l[i]?=some x->cO x.code=true->MN k i x.t/\MN k i x.f
def AL(h:VN k)(b:MN k i cn):0<=kf k i cn/\kf k i cn<=2^40:=by
 obtain⟨c,d⟩:=b;have a:(ie k.qK i cn).1.toNat<k.place.length:=by omega
 rw[kf,bW,bo a];exact h.bd _ (gL a)
def yK(k:Lk)(i:Nat):Int:=k.place.getD i 0
def F3{k:Lk}(h:i<k.place.length):((mm k.place)[toNat (i:Int)]?).bind (·[0]?)=some (N (yK k i)):=by
 rw[mm,toNat_cast,bw,bo h,yK,bW,bo h];rfl
def Lo(h:VN k)(a:i<k.place.length):0<=yK k i/\yK k i<=2^40:=by
 rw[yK,bW,bo a];exact h.bd _ (gL a)
def hK(k:Lk)(i:Nat)(a:Int)(b:Bool):Bool:=bif !b then decide (a-yK k i-1>255)else false
def mE(k:Lk):List Sy->List (Bool×Bool)->Nat->Bool->List (Bool×Bool)×Bool
 |x::t,p::q,i,more=>bif !cO x.code then(p::(mE k t q (i+1) more).1,(mE k t q (i+1) more).2)else
  ((bif hK k i (kf k i x.t) p.1 then true else p.1,bif hK k i (kf k i x.f) p.2 then true else p.2)::(mE k t q (i+1) (bif hK k i (kf k i x.f) p.2 then true else bif hK k i (kf k i x.t) p.1 then true else more)).1,
   (mE k t q (i+1) (bif hK k i (kf k i x.f) p.2 then true else bif hK k i (kf k i x.t) p.1 then true else more)).2)
 |_,q,_,more=>(q,more)
def VO(z q:List (Bool×Bool))(p a:Bool×Bool)(s:Nat)(h:putAt [B p.1,B p.2] s [B true]=[B a.1,B a.2]):setRow (kN (z++p::q)) z.length s [B true]=kN (z++a::q):=by
 unfold setRow kN;rw[bM,bH,bM,bH];have:=tX (fun r=>putAt r s [B true]) [B p.1,B p.2] (q.map fun p=>[B p.1,B p.2]) (z.map fun p=>[B p.1,B p.2])
 rw[ao]at this;rw[this,h]
def Tw(k:Lk)(c:VN k):∀(t:List Sy)(q:List (Bool×Bool))(i:Nat)(z:List (Bool×Bool))(more:Bool),k.l.drop i=t->z.length=i->q.length=t.length ->
  Lp f120 0 (AG more (k.l.map Sy.row) k.l.length i (k.l.map Sy.row) (Ln k.qK) (mm k.place) (kN (z++q))) 4 [vB (mE k t q i more).2] (lb {k with cz:=z++(mE k t q i more).1})
 |[],q,i,z,more,e,n,d=>by
  apply Tr;exact aP (l:=k.l) rfl e fi
 |x::t,[],i,z,more,e,n,d=>by simp at d
 |x::t,p::q,i,z,more,e,n,d=>by
  obtain⟨u,w,F⟩:=drop_cons e;have hlen:=c.len;have a0:=c.pl;have d:q.length=t.length:=by simpa using d
  apply Tr;refine aK (l:=k.l) rfl e ⟨x.label,x.t,x.f,x.code,x.k,by omega,aQ u,_,Tu x.code,ad (fun g=>⟨aC,?_⟩) fun g=>?_⟩
  .have:=Tw k c t q (i+1) (z++[p]) more w (by simp;omega) d
   rw[mE,g];rw[bp,bp]at this;exact this
  .obtain⟨y,D⟩:=c.jmp i x u (by simpa using g)
   have H:=AL c y;have G:=AL c D;have Z:=Lo c (i:=i) (by omega)
   have M:∀p:Bool×Bool,(kN (z++p::q)).length=k.l.length:=by intro p;have:=c.fl;have:=congrArg List.length e;simp[kN]at this⊢; omega
   have step:∀(s:Nat)(a:Int)(b:Bool)(m:Bool)(p f:Bool×Bool){r:List AV}{h:List Bx},s<2->([N (kf k i x.t),N (kf k i x.f)]:List PV)[s]?=some (N a)->([B p.1,B p.2]:List PV)[s]?=some (B b)->putAt [B p.1,B p.2] s [B true]=[B f.1,B f.2]->0<=a/\a<=2^40 ->
     Lp f120 1 (tU (bif hK k i a b then true else m) i (k.l.map Sy.row) k.l.length i (kf k i x.t) (kf k i x.f) ((s:Int)+1) (k.l.map Sy.row) (Ln k.qK) (mm k.place) (kN (z++(bif hK k i a b then f else p)::q))) 4 r h ->
     Lp f120 1 (tU m i (k.l.map Sy.row) k.l.length i (kf k i x.t) (kf k i x.f) s (k.l.map Sy.row) (Ln k.qK) (mm k.place) (kN (z++p::q))) 4 r h:=by
    intro s a b m p f r h A T Q X R K;have o:0+toNat (s:Int)*1=s:=by rw[toNat_cast];omega
    have Y:((kN (z++p::q))[toNat (i:Int)]?).bind (·[0+toNat (s:Int)*1]?)=some (B b):=by
     rw[o,toNat_cast,kN,bM,eH (by simp;omega),ao,n,lG]
     exact Q
    have E:=VO z q p f s X;rw[n]at E;apply Ts;rw[M p];refine bt (bE (by omega)) ⟨a,⟨by omega,by omega⟩,by rw[toNat_cast];exact T,⟨by omega,by omega⟩,⟨by omega,by omega⟩,b,Y,ad (fun j=>⟨⟨by omega,by simp[mm];omega⟩,yK k i,F3 (by omega),aC,aC,ad (fun v=>⟨⟨by omega,by omega⟩,⟨by omega,by omega⟩,by rw[o];omega,aC,?_⟩) fun v=>⟨aC,?_⟩⟩) fun j=>⟨aC,?_⟩⟩
    .rw[show hK k i a b=true by rw[hK,j,v];rfl]at K
     rw[o,toNat_cast,E];exact K
    .rw[show hK k i a b=false by rw[hK,j,v];rfl]at K
     exact K
    .rw[show hK k i a b=false by rw[hK,j];rfl]at K
     exact K
   refine⟨_,_,ZL {k with cz:=z++p::q} i x (by omega) u y D,?_⟩
   refine step 0 (kf k i x.t) p.1 more p (true,p.2) (by omega) rfl rfl rfl H ?_
   have I:(bif hK k i (kf k i x.t) p.1 then((true,p.2):Bool×Bool)else p)=(bif hK k i (kf k i x.t) p.1 then true else p.1,p.2):=by cases hK k i (kf k i x.t) p.1<;>rfl
   rw[I];refine step 1 (kf k i x.f) p.2 _ _ (bif hK k i (kf k i x.t) p.1 then true else p.1,true) (by omega) rfl rfl rfl G ?_
   have J:(bif hK k i (kf k i x.f) p.2 then((bif hK k i (kf k i x.t) p.1 then true else p.1,true):Bool×Bool)else(bif hK k i (kf k i x.t) p.1 then true else p.1,p.2))=(bif hK k i (kf k i x.t) p.1 then true else p.1,bif hK k i (kf k i x.f) p.2 then true else p.2):=by cases hK k i (kf k i x.f) p.2<;>rfl
   rw[J];apply Ts;refine aU rfl ⟨aC,?_⟩;have:=Tw k c t q (i+1) (z++[(bif hK k i (kf k i x.t) p.1 then true else p.1,bif hK k i (kf k i x.f) p.2 then true else p.2)]) (bif hK k i (kf k i x.f) p.2 then true else bif hK k i (kf k i x.t) p.1 then true else more) w (by simp;omega) d
   rw[mE,g];rw[bp,bp]at this;exact this
def nC(k:Lk):Lk:={k with place:=nA k.cz 0}
def gd(k:Lk):Lk×Bool:=({nC k with cz:=(mE (nC k) k.l k.cz 0 false).1},(mE (nC k) k.l k.cz 0 false).2)
def akU(k:Lk)(b:k.place.length=k.l.length)(a:k.cz.length=k.l.length)(d:k.l.length<=2^30)(c:VN (nC k)):al 120 [.aB 0 0] (lb k) [vB (gd k).2] (lb (gd k).1):=by
 apply akp;refine⟨_,akR k b a d,?_⟩;rw[ao];exact Tw (nC k) c k.l k.cz 0 [] false rfl rfl a
structure In where
 code:Int
 jt:Int
 jf:Int
 k:Int
def In.row(x:In):List PV:=[N x.code,N x.jt,N x.jf,W x.k]
def jaI(n:Int):In:=⟨5,0,0,wrap .u32 n⟩
def o9(k:Lk)(i:Nat)(x:Sy)(p:Bool×Bool):List In:=
 ⟨x.code,bif p.1 then 0 else kf k i x.t-yK k i-1,bif p.2 then(bif p.1 then 1 else 0)else kf k i x.f-yK k i-1,x.k⟩::
  ((bif p.1 then[jaI (kf k i x.t-yK k i-1-1)]else[])++(bif p.2 then[jaI (kf k i x.f-yK k i-(bif p.1 then 2 else 1)-1)]else[]))
def akV(k:Lk)(f:VN k)(i:Nat)(x:Sy)(m:k.l[i]?=some x)(w:cO x.code=true)(p:Bool×Bool)(z:k.cz[i]?=some p):
  al 173 [.aB 0 0,vN i] (lb k) [vL 4 ((o9 k i x p).map In.row)] (lb k):=by
 have I:=f.len;have r:=f.pl;have h:=f.fl;have H:i<k.l.length:=(aG.1 m).1;obtain⟨t,v⟩:=f.jmp i x m w;have G:=AL f t;have D:=AL f v;have E:=Lo f (i:=i) (by omega)
 have s:(kN k.cz)[toNat (i:Int)]?=some [B p.1,B p.2]:=by rw[kN,toNat_cast,bw,z];rfl
 have g:(kN k.cz).length=k.l.length:=by simp[kN,h]
 have pl:(mm k.place).length=k.l.length:=by simp[mm,r]
 obtain⟨a,b⟩:=p;apply akx;rw[pl];refine⟨x.label,x.t,x.f,x.code,x.k,by omega,aQ m,⟨by omega,by omega⟩,yK k i,F3 (by omega),_,_,ZL k i x (by omega) m t v,?_⟩
 have r0:((kN k.cz)[toNat (i:Int)]?).bind (·[0+toNat 0*1]?)=some (B a):=by rw[s];rfl
 have n:((kN k.cz)[toNat (i:Int)]?).bind (·[0+toNat 1*1]?)=some (B b):=by rw[s];rfl
 generalize l:kf k i x.t=t0 at*;generalize j:kf k i x.f=t1 at*;generalize o:yK k i=q at*;have fin:∀(c:Rw)(y:List PV)(d e:Int)(u:Rw),c=y::u->putAt (putAt y 1 [N d]) 2 [N e]=[N x.code,N d,N e,W x.k]->Lp f173 0 (AH i q t0 t1 2 (k.l.map Sy.row) (Ln k.qK) (mm k.place) (kN k.cz) c d e) 4 [vL 4 ([N x.code,N d,N e,W x.k]::u)] (lb k):=by
  rintro _ y d e u rfl hy;apply tV;refine aU rfl ⟨⟨by omega,by omega⟩,d,rfl,⟨by omega,by omega⟩,e,rfl,⟨by omega,by simp<;>omega⟩,by omega,⟨by omega,by simp[setRow]<;>omega⟩,by omega,ai ?_ rfl⟩
  rw[show setRow (setRow (y::u) (toNat 0) 1 [N d]) (toNat 0) 2 [N e]=putAt (putAt y 1 [N d]) 2 [N e]::u from rfl,hy]
 cases a with
 |false=>
  apply tV;rw[g];refine bt rfl ⟨t0,⟨by omega,by omega⟩,rfl,aC,aC,⟨by omega,by omega⟩,t0-q-1,0,by omega,rfl,⟨by omega,by omega⟩,⟨by omega,by omega⟩,false,r0,aU rfl ⟨aC,?_⟩⟩
  cases b with
  |false=>
   apply tV;rw[g];refine bt rfl ⟨t1,⟨by omega,by omega⟩,rfl,aC,aC,⟨by omega,by omega⟩,t0-q-1,t1-q-1,by omega,rfl,⟨by omega,by omega⟩,⟨by omega,by omega⟩,false,n,aU rfl ⟨aC,?_⟩⟩
   have:=fin [[N x.code,N 0,N 0,W x.k]] _ (t0-q-1) (t1-q-1) [] rfl rfl;rw[show(o9 k i x (false,false)).map In.row=[[N x.code,N (t0-q-1),N (t1-q-1),W x.k]] by rw[o9,l,j,o];rfl]
   exact this
  |true=>
   apply tV;rw[g];refine bt rfl ⟨t1,⟨by omega,by omega⟩,rfl,aC,aC,⟨by omega,by omega⟩,t0-q-1,t1-q-1,by omega,rfl,⟨by omega,by omega⟩,⟨by omega,by omega⟩,true,n,bt rfl ⟨aC (by simp) (by simp),⟨by omega,by omega⟩,t0-q-1,0,by omega,rfl,aC,aC (by simp;omega) (by simp;omega),aC (by simp;omega) (by simp;omega),by simp,aC,?_⟩⟩
   have:=fin ([[N x.code,N 0,N 0,W x.k]]++[[N 5,N 0,N 0,W (wrap .u32 (t1-q-1-1))]]) _ (t0-q-1) 0 [[N 5,N 0,N 0,W (wrap .u32 (t1-q-1-1))]] rfl rfl;rw[show(o9 k i x (false,true)).map In.row=[[N x.code,N (t0-q-1),N 0,W x.k],[N 5,N 0,N 0,W (wrap .u32 (t1-q-1-1))]] by rw[o9,l,j,o];rfl]
   exact this
 |true=>
  apply tV;rw[g];refine bt rfl ⟨t0,⟨by omega,by omega⟩,rfl,aC,aC,⟨by omega,by omega⟩,t0-q-1,0,by omega,rfl,⟨by omega,by omega⟩,⟨by omega,by omega⟩,true,r0,bt rfl ⟨aC (by simp) (by simp),⟨by omega,by omega⟩,0,0,by omega,rfl,aC,aC (by simp;omega) (by simp;omega),aC (by simp;omega) (by simp;omega),by simp,aC,?_⟩⟩
  cases b with
  |false=>
   apply tV;rw[g];refine bt rfl ⟨t1,⟨by omega,by omega⟩,rfl,aC,aC,⟨by omega,by omega⟩,0,t1-q-1,by omega,rfl,⟨by omega,by omega⟩,⟨by omega,by omega⟩,false,n,aU rfl ⟨aC,?_⟩⟩
   have:=fin ([[N x.code,N 0,N 0,W x.k]]++[[N 5,N 0,N 0,W (wrap .u32 (t0-q-1-1))]]) _ 0 (t1-q-1) [[N 5,N 0,N 0,W (wrap .u32 (t0-q-1-1))]] rfl rfl;rw[show(o9 k i x (true,false)).map In.row=[[N x.code,N 0,N (t1-q-1),W x.k],[N 5,N 0,N 0,W (wrap .u32 (t0-q-1-1))]] by rw[o9,l,j,o];rfl]
   exact this
  |true=>
   apply tV;rw[g];refine bt rfl ⟨t1,⟨by omega,by omega⟩,rfl,aC,aC,⟨by omega,by omega⟩,0,t1-q-1,by omega,rfl,⟨by omega,by omega⟩,⟨by omega,by omega⟩,true,n,bt rfl ⟨aC (by simp) (by simp),⟨by omega,by omega⟩,0,1,by omega,rfl,aC,aC (by simp;omega) (by simp;omega),aC (by simp;omega) (by simp;omega),by simp,aC,?_⟩⟩
   have:=fin ([[N x.code,N 0,N 0,W x.k]]++[[N 5,N 0,N 0,W (wrap .u32 (t0-q-1-1))]]++[[N 5,N 0,N 0,W (wrap .u32 (t1-q-2-1))]]) _ 0 1 [[N 5,N 0,N 0,W (wrap .u32 (t0-q-1-1))],[N 5,N 0,N 0,W (wrap .u32 (t1-q-2-1))]] rfl rfl;rw[show(o9 k i x (true,true)).map In.row=[[N x.code,N 0,N 1,W x.k],[N 5,N 0,N 0,W (wrap .u32 (t0-q-1-1))],[N 5,N 0,N 0,W (wrap .u32 (t1-q-2-1))]] by rw[o9,l,j,o];rfl]
   exact this
def fR(k:Lk)(i:Nat)(x:Sy)(p:Bool×Bool):List In:=bif cO x.code then o9 k i x p else bif x.code==5 then[⟨5,0,0,wrap .u32 (kf k i x.t-yK k i-1)⟩]else[⟨x.code,0,0,x.k⟩]
def akW(k:Lk)(a:VN k)(n:∀(i:Nat)(x:Sy),k.l[i]?=some x->(x.code==5)=true->MN k i x.t/\MN k i x.f)(i:Nat)(x:Sy)(b:k.l[i]?=some x)(p:Bool×Bool)(l:k.cz[i]?=some p):
  al 121 [.aB 0 0,vN i] (lb k) [vL 4 ((fR k i x p).map In.row)] (lb k):=by
 have u:=a.len;have o:=a.pl;have t:i<k.l.length:=(aG.1 b).1;have q:=Lo a (i:=i) (by omega)
 have pl:(mm k.place).length=k.l.length:=by simp[mm,o]
 apply akr;rw[pl];refine⟨x.label,x.t,x.f,x.code,x.k,by omega,aQ b,_,Tu x.code,ad (fun h=>⟨_,akV k a i x b h p l,ai (by rw[fR,h];rfl) rfl⟩) fun h=>ad (fun d=>?_) fun d=>ai (by rw[fR,h,d];rfl) rfl⟩
 obtain⟨j,m⟩:=n i x b d;have s:=AL a j;have c:=ZL k i x (by omega) b j m
 have e:(fR k i x p).map In.row=[[N 5,N 0,N 0,W (wrap .u32 (kf k i x.t-yK k i-1))]]:=by rw[fR,h,d];rfl
 rw[e];have r:=F3 (k:=k) (i:=i) (by omega)
 have f:au (kf k i x.t-yK k i):=aC;have g:au (kf k i x.t-yK k i-1):=aC;exact⟨⟨_,_,c,_,⟨by omega,by omega⟩,rfl,⟨by omega,by omega⟩,_,r,f,g,fi⟩,⟨_,_,c,_,⟨by omega,by omega⟩,rfl,⟨by omega,by omega⟩,_,r,f,g,fi⟩,⟨by omega,by omega⟩,⟨_,_,c,_,⟨by omega,by omega⟩,rfl,_,r,f,g,fi⟩,⟨_,r,_,_,c,_,⟨by omega,by omega⟩,rfl,f,g,fi⟩⟩
def Ir:∀{l:List Lb}{y:Lb},y∈AJ x l->y=x\/y∈l
 |[],y,h=>by simp[AJ]at h;exact .inl h
 |z::l,y,h=>by
  unfold AJ at h;cases hk:x.1==z.1<;>rw[hk]at h
  .rw[af]at h
   rcases aZ.1 h with rfl|h
   .exact .inr aX
   .rcases Ir h with h|h
    .exact .inl h
    .exact .inr (aW _ h)
  .rw[aj]at h
   rcases aZ.1 h with rfl|h
   .exact .inl rfl
   .exact .inr (aW _ h)
def Is:∀(t:List Sy)(i:Int)(m:List Lb),0<=i->(∀y∈m,0<=y.2/\y.2<i)->∀y∈(gq t i m).2,0<=y.2/\y.2<i+t.length
 |[],i,m,c,h,y,a=>by have:=h y a;simp;omega
 |x::t,i,m,c,h,y,a=>by
  unfold gq at a;cases hb:(bif decide (x.label<0)then true else(mD m x.label).isSome)<;>rw[hb]at a
  .have:=Is t (i+1) (bif decide (x.label>0)then AJ (x.label,i) m else m) (by omega) (fun z b=>by
    cases hd:decide (x.label>0)<;>rw[hd]at b
    .have:=h z b;omega
    .rcases Ir b with rfl|b
     .exact⟨c,by show i<i+1;omega⟩
     .have:=h z b;omega) y a
   simp only[aE];omega
  .have:=h y a
   simp only[aE];omega
def AM:∀(t:List Sy)(i:Nat),tl n m t i=true->n>0/\∀(j:Nat)x,t[j]?=some x->tY n m ((i+j:Nat):Int) x=true
 |[],i,h=>⟨aV h,fun j x a=>by simp at a⟩
 |y::t,i,h=>by
  unfold tl at h;cases hb:tY n m i y<;>rw[hb]at h
  .simp at h
  .obtain⟨b,c⟩:=AM t (i+1) h
   refine⟨b,fun j x a=>?_⟩
   cases j with
   |zero=>simp at a;subst a;exact hb
   |succ j=>
    have:=c j x (by simpa using a)
    rw[show i+(j+1)=i+1+j by omega]
    exact this
def It(h:(dj l).1=true)(o:k.l=l)(g:k.qK=(dj l).2)(u:k.place.length=l.length):
  (∀(i:Nat)(x:Sy),k.l[i]?=some x->cO x.code=true->MN k i x.t/\MN k i x.f)/\∀(i:Nat)(x:Sy),k.l[i]?=some x->(x.code==5)=true->MN k i x.t/\MN k i x.f:=by
 have p:tl l.length (gq l 0 []).2 l 0=true:=(cg (b:=(gq l 0 []).1) h).2;obtain⟨w,q⟩:=AM l 0 p;have s:=Is l 0 [] (ez 0) (by simp)
 have g:k.qK=(gq l 0 []).2:=g;have f:∀(i:Nat)(x:Sy)(cn:Int),k.l[i]?=some x->qC x.code=false->MN k i cn:=by
  intro i x cn a t;have z:i<l.length:=by rw[o]at a;exact(aG.1 a).1
  have d:=q i x (by rw[<-o];exact a)
  rw[cy]at d;have v:(i:Int)+1<l.length:=by
   unfold tY at d;cases hn:(r6 x.code).isSome<;>rw[hn]at d
   .simp at d
   .cases hi:(i:Int)==(l.length:Int)-1
    .have:=gJ hi;omega
    .rw[hi,t]at d;simp at d
  unfold MN ie;rw[u,g];cases hl0:cn==0
  .cases hg:mD (gq l 0 []).2 cn with
   |none=>exact⟨by simp,by simp;omega⟩
   |some y=>
    have:=s y (lx hg);exact⟨this.1,by show y.2<_;omega⟩
  .exact⟨by show 0<=(i:Int)+1;omega,v⟩
 have n:∀c,cO c=true->qC c=false:=by
  intro c e;unfold qC;cases h6:c==6
  .cases h22:c==22
   .rfl
   .rw[eq_of_beq h22]at e;simp[cO]at e
  .rw[eq_of_beq h6]at e;simp[cO]at e
 exact⟨fun i x a m=>⟨f i x _ a (n _ m),f i x _ a (n _ m)⟩,fun i x a j=>⟨f i x _ a (by rw[eq_of_beq j];rfl),f i x _ a (by rw[eq_of_beq j];rfl)⟩⟩
def cntF:List (Bool×Bool)->Nat
 |[]=>0
 |p::t=>(bif p.1 then 0 else 1)+(bif p.2 then 0 else 1)+cntF t
def pa(k:Lk):∀(t:List Sy)(q:List (Bool×Bool))(i:Nat)(more:Bool),cntF (mE k t q i more).1<=cntF q/\((mE k t q i more).2=true->more=true\/cntF (mE k t q i more).1<cntF q)/\(mE k t q i more).1.length=q.length
 |[],q,i,more=>⟨ar _,fun h=>.inl h,rfl⟩
 |x::t,[],i,more=>⟨ar _,fun h=>.inl h,rfl⟩
 |x::t,p::q,i,more=>by
  obtain⟨a,b⟩:=p;rw[mE];cases cO x.code
  .obtain⟨d,c,e⟩:=pa k t q (i+1) more
   refine⟨by simp only[kh,aj,cntF];omega,fun h=>?_,by simp only[kh,aj,aE,e]⟩
   rcases c h with h|h
   .exact .inl h
   .exact .inr (by simp only[kh,aj,cntF];omega)
  .simp only[ec,af]
   have f:∀j,hK k i j true=false:=fun _=>rfl
   obtain⟨d,c,e⟩:=pa k t q (i+1) (bif hK k i (kf k i x.f) b then true else bif hK k i (kf k i x.t) a then true else more);refine⟨?_,fun h=>?_,by simp only[aE,e]⟩
   .revert d
    generalize mE k t q (i+1) _=r;intro d;cases a<;>cases b<;>cases hK k i (kf k i x.t) false<;>cases hK k i (kf k i x.f) false<;>simp only[f,cntF,aj,af]<;>omega
   .have g:=c h
    clear c h e;revert d g
    generalize mE k t q (i+1) _=r;cases a<;>cases b<;>cases hK k i (kf k i x.t) false<;>cases hK k i (kf k i x.f) false<;>simp only[f,cntF,aj,af]<;>intro d c<;>first|exact .inr (by omega)|exact c.imp id (fun h=>by omega)
def xJ:Nat->Lk->Lk
 |0,k=>k
 |n+1,k=>bif(gd k).2 then xJ n (gd k).1 else(gd k).1
def dF(k:Lk):List Sy->List (Bool×Bool)->Nat->List In
 |x::t,p::q,i=>fR k i x p++dF k t q (i+1)
 |_,_,_=>[]
def oD(l:List Sy):Lk:=⟨l,(dj l).2,replicate l.length 0,replicate l.length (false,false)⟩
def fK(l:List Sy):Lk:=xJ (2*l.length+1) (oD l)
def vz(l:List Sy):List In:=dF (fK l) l (fK l).cz 0
def gx(l:List Sy):List In×Int:=bif !(dj l).1 then([],1)else bif decide ((l.length:Int)>4096)then([],9)else bif decide (((vz l).length:Int)>4096)then([],9)else(vz l,0)
def F4:∀(l:List (Bool×Bool)),cntF l<=2*l.length
 |[]=>ar _
 |(a,b)::t=>by
  have:=F4 t;cases a<;>cases b<;>simp only[cntF,aj,af,aE]<;>omega
structure LOK (l:List Sy) (k:Lk):Prop where
 sl:k.l=l
 qK:k.qK=(dj l).2
 pl:k.place.length=l.length
 fl:k.cz.length=l.length
def MP(c:(dj l).1=true)(b:l.length<=2^30)(h:LOK l k):VN (nC k):=by
 have a:(nC k).place.length=l.length:=(w7 k.cz 0).trans h.fl;refine⟨a.trans (by rw[<-h.sl];rfl),h.fl.trans (by rw[<-h.sl];rfl),by show k.l.length<=_;rw[h.sl];exact b,fun v d=>?_,(It c (k:=nC k) h.sl h.qK a).1⟩
 have:=AK k.cz 0 v d;have e:=h.fl;omega
def OT(h:LOK l k):LOK l (gd k).1:=⟨h.sl,h.qK,(w7 k.cz 0).trans h.fl,(pa (nC k) k.l k.cz 0 false).2.2.trans h.fl⟩
def Lq(c:(dj l).1=true)(b:l.length<=2^30)(h:LOK l k):VN (gd k).1:=by
 have a:=MP c b h;exact⟨a.pl,(pa (nC k) k.l k.cz 0 false).2.2.trans a.fl,a.len,a.bd,a.jmp⟩
def CU(c:List In):List AV:=bif decide ((c.length:Int)>4096)then[vL 4 [],vN 9]else[.own 0 0 4 (c.map In.row),vN 0]
def Tx(v:l.length<=4096)(o:(dj l).1=true)(h:LOK l k)(m:VN k):∀(t:List Sy)(q:List (Bool×Bool))(i:Nat)(d:List In),l.drop i=t->k.cz.drop i=q->i+t.length=l.length->d.length<=3*i ->
  Lp f84 1 (MJ (d.map In.row) l.length i (k.l.map Sy.row) (Ln k.qK) (mm k.place) (kN k.cz)) 0 (CU (d++dF k t q i)) []
 |[],q,i,d,f,g,j,n=>by
  apply Xo;rw[ao];refine aP (l:=l) rfl f ?_;rw[show dF k [] q i=[] by cases q<;>rfl,fa]
  exact ad (fun h=>ai (by rw[CU,h];rfl) rfl) fun h=>ai (by rw[CU,h];rfl) rfl
 |x::t,[],i,d,f,g,j,n=>by
  have:=drop_nil g;have:=h.fl;simp at j;omega
 |x::t,p::q,i,d,f,g,j,n=>by
  obtain⟨s,u,z⟩:=drop_cons f;obtain⟨w,y,r⟩:=drop_cons g;simp only[aE]at j;have c:=akW k m (It o h.sl h.qK h.pl).2 i x (by rw[h.sl];exact s) p w
  have hlen:(fR k i x p).length<=3:=by
   unfold fR o9;obtain⟨a,b⟩:=p;cases cO x.code
   .cases x.code==5<;>simp
   .cases a<;>cases b<;>simp
  have e:d.map In.row++(fR k i x p).map In.row=(d++fR k i x p).map In.row:=by rw[bM]
  apply Xo;refine aK (l:=l) rfl f ⟨_,c,?_⟩;rw[e];refine⟨by simp;omega,aC,?_⟩
  have:=Tx v o h m t q (i+1) (d++fR k i x p) u y (by omega) (by simp;omega)
  rw[dF,<-bp];exact this
def Ty(d:l.length<=4096)(b:(dj l).1=true):∀(n:Nat)(k:Lk),LOK l k->cntF k.cz<n ->
  Lp f84 0 (MI (l.map Sy.row) (k.l.map Sy.row) (Ln k.qK) (mm k.place) (kN k.cz)) 0 (CU (dF (xJ n k) l (xJ n k).cz 0)) []
 |0,k,h,e=>absurd e (jl _)
 |n+1,k,h,e=>by
  have i:=MP b (by omega) h
  have c:=akU k (h.pl.trans (by rw[h.sl])) (h.fl.trans (by rw[h.sl])) (by rw[h.sl];omega) i
  have f:=OT h;have g:=(pa (nC k) k.l k.cz 0 false).2.1;apply acD;refine⟨_,_,_,c,ad (fun a=>?_) fun a=>?_⟩
  .have j:cntF (gd k).1.cz<cntF k.cz:=by
    rcases g a with h|h
    .simp at h
    .exact h
   rw[xJ,a];exact Ty d b n (gd k).1 f (by omega)
  .rw[xJ,a]
   have:=Tx d b f (Lq b (by omega) h) l (gd k).1.cz 0 [] rfl rfl (by simp) (by simp)
   rw[ao];exact this
def C84(l:List Sy)(g:l.length<=2^40):al 84 [vL 5 (l.map Sy.row)] [] [vL 4 ((gx l).1.map In.row),vN (gx l).2] []:=by
 have f:(l.map Sy.row).length=l.length:=ao ..;have d:(replicate (toNat (l.length:Int)) [N 0]:Rw)=mm (replicate l.length 0):=by simp[mm]
 have e:(replicate (toNat (l.length:Int)) [B false,B false]:Rw)=kN (replicate l.length (false,false)):=by simp[kN]
 have c:=akT ⟨l,[],replicate l.length 0,replicate l.length (false,false)⟩ (by show l.length<=_;omega) rfl
 have w:al 84 [vL 5 (l.map Sy.row)] [] (bif !(dj l).1 then[vL 4 [],vN 1]else bif decide ((l.length:Int)>4096)then[vL 4 [],vN 9]else CU (vz l)) []:=by
  apply W84;rw[f,d,e];refine⟨rfl,by omega,by omega,rfl,by omega,by omega,_,_,c,ad (fun h=>ai (by rw[h];rfl) rfl) fun h=>ad (fun a=>ai (by rw[h,a];rfl) rfl) fun a=>?_⟩
  rw[h,a];have b:=bI a;have:=Ty (l:=l) (by omega) (by simpa using h) (2*l.length+1) (oD l) ⟨rfl,rfl,by simp[oD],by simp[oD]⟩ (by have:=F4 (oD l).cz;simp[oD]at this⊢; omega)
  exact this
 rw[gx];cases h1 : !(dj l).1<;>rw[h1]at w
 .cases a:decide ((l.length:Int)>4096)<;>rw[a]at w
  .unfold CU at w
   cases b:decide (((vz l).length:Int)>4096)<;>rw[b]at w
   .exact Go.Ac.al.soft w rfl
   .exact w
  .exact w
 .exact w
abbrev MQ(a b:Rw)(c d:Int)r h:=Lp f32 0 ⟨aO 47 [(3,.own 0 0 1 a),(7,vL 4 b),(8,vN c),(9,vN d)],[some 0],[]⟩ 0 r h
abbrev Iu(a b:Rw)(c d e f g i j:Int)r h:=Lp f32 1 ⟨aO 47 [(3,.own 0 0 1 a),(5,.aB 0 0),(7,vL 4 b),(8,vN c),(9,vN d),(32,vN e)],[some 0],[.aH [vN f,vN g,vN i,vW j]]⟩ 0 r h
def A32:bu:={an:=[(4,1,ah),(5,1,ah)],cut:=[(3,{bl:=[3,7,8,9],cW:=[(3,1)],owns:=[3]}),(9,{bl:=[3,5,7,8,9,32],cW:=[(3,1)],owns:=[3]})]}
def W32(H:MQ [] a (a.length:Int) 0 r h):
  al 32 [vL 4 a] [] r h:=.of func32 A32 H
def Xs(b f:Rw)(H:aw (decide (c<g)) (EP f c fun a d e i=>cc 57 [.agg [N a,N d,N e,W i]] [] fun j=>aw (!j) (Fi r h [vL 1 []] [])
 (0<=(8:Int)/\(b++([[Y (wrap .u8 a)],[Y (wrap .u8 (fdiv a (2^(min (toNat 8) (IntKind.bits .i64)))))],[Y (wrap .u8 d)],[Y (wrap .u8 e)]]:Rw)).length*1<=2^47/\Iu (b++([[Y (wrap .u8 a)],[Y (wrap .u8 (fdiv a (2^(min (toNat 8) (IntKind.bits .i64)))))],[Y (wrap .u8 d)],[Y (wrap .u8 e)]]:Rw)) f g c 0 a d e i r h))
 (Fi r h [.own 0 0 1 b] [])):
  MQ b f g c r h:=.of A32 H
def Xt(b e:Rw)(H:aw (decide (a<4)) (au ((8:Int)*a)/\0<=((8:Int)*a)/\(b++([[Y (wrap .u8 (fdiv d (2^(min (toNat ((8:Int)*a)) (IntKind.bits .u32)))))]]:Rw)).length*1<=2^47/\au (a+1)/\Iu (b++([[Y (wrap .u8 (fdiv d (2^(min (toNat ((8:Int)*a)) (IntKind.bits .u32)))))]]:Rw)) e f c (a+1) g i j d r h)
 (au (c+1)/\MQ b e f (c+1) r h)):
  Iu b e f c a g i j d r h:=.of A32 H
abbrev MR(a b:Rw)r h:=Lp f33 0 ⟨aO 57 [(0,vL 1 a),(4,.own 0 0 4 b)],[some 0],[]⟩ 0 r h
abbrev Iv(a b:Rw)(c d e f g:Int)r h:=Lp f33 1 ⟨aO 57 [(0,vL 1 a),(4,.own 0 0 4 b),(5,.aB 0 0),(35,vN c)],[some 0],[.aH [vN d,vN e,vN f,vW g]]⟩ 0 r h
def A33:bu:={an:=[(6,2,ah),(6,6,ah),(6,12,ah),(6,16,ah),(10,6,ah)],cut:=[(4,{bl:=[0,4],cW:=[(4,4)],owns:=[4]}),(8,{bl:=[0,4,5,35],cW:=[(4,4)],owns:=[4]})]}
def W33(H:(8:Int)≠0/\aw ((tmod (a.length:Int) 8) !=0) (Fi r h [vL 4 [],vN 2] [])
 (MR a [] r h)):
  al 33 [vL 1 a] [] r h:=.of func33 A33 H
def acI(H:aw (decide ((a.length:Int)>0)) (Rdy a 0 fun c=>Rdy a 1 fun d=>0<=(8:Int)/\Rdy a 2 fun e=>Rdy a 3 fun f=>Iv a b 0 (cH .or .i64 (wrap .i64 c) (wrap .i64 ((wrap .i64 d)*2^(min (toNat 8) (IntKind.bits .i64))))) (wrap .i64 e) (wrap .i64 f) 0 r h)
 (Fi r h [.own 0 0 4 b,vN 0] [])):
  MR a b r h:=.of A33 H
def Xu(H:aw (decide (a<4)) (au ((4:Int)+a)/\Rdy b ((4:Int)+a) fun i=>au ((8:Int)*a)/\0<=((8:Int)*a)/\au (a+1)/\Iv b c (a+1) d e f (cH .or .u32 g (wrap .u32 ((wrap .u32 i)*2^(min (toNat ((8:Int)*a)) (IntKind.bits .u32))))) r h)
 ((c++([[N d,N e,N f,W g]]:Rw)).length*32<=2^47/\(0<=(8:Int)/\(8:Int)<=(b.length:Int)/\(b.length:Int)<=(b.length:Int))/\MR (drop 8 (take b.length b)) (c++([[N d,N e,N f,W g]]:Rw)) r h)):
  Iv b c a d e f g r h:=.of A33 H
def A57:bu:={an:=[(1,4,aa),(1,5,aa),(1,6,aa),(1,9,aa),(1,10,aa),(1,11,aa),(1,14,aa),(1,15,aa),(1,16,aa),(1,19,aa),(1,20,aa),(1,21,aa),(1,24,aa),(1,25,aa),(1,26,aa)]}
def W57(H:Fi r h [vB (bif(bif(bif(bif(bif(decide (a>=0))then(decide (a<=65535))else false)then(decide (b>=0))else false)then(decide (b<=255))else false)then(decide (c>=0))else false)then(decide (c<=255))else false)] []):
  al 57 [.agg [N a,N b,N c,W d]] [] r h:=.of func57 A57 H
abbrev MS(x:In):AV:=.agg [N x.code,N x.jt,N x.jf,W x.k]
def jQ(x:In):Bool:=(bif(bif(bif(bif(bif(decide (x.code>=0))then(decide (x.code<=65535))else false)then(decide (x.jt>=0))else false)then(decide (x.jt<=255))else false)then(decide (x.jf>=0))else false)then(decide (x.jf<=255))else false)
def C57(x:In):al 57 [MS x] [] [vB (jQ x)] []:=by apply W57;exact fi
def F5(c:Int):Bool:=bif(c==2)then true else(c==3)
def acJ(c:Int):al 126 [vN c] [] [vB (F5 c)] []:=akO c fi
def AN(c:Int):Bool:=bif(c==96)then true else(c==97)
def C86(c:Int):al 86 [vN c] [] [vB (AN c)] []:=W86 c fi
def yb(x:In):Bool:=bif x.code==32 then(bif(tmod x.k 4)==0 then decide (x.k<=60)else false)else bif F5 x.code then decide (x.k<16)else bif AN x.code then decide (x.k<16)else
 bif x.code==52 then(x.k !=0)else bif(bif(x.code==100)then true else(x.code==116))then decide (x.k<32)else true
def ak0(x:In):al 123 [MS x] [] [vB (yb x)] []:=by
 apply akI;exact ad (fun h=>⟨by omega,ai (by rw[yb,h];rfl) rfl⟩) fun a=>⟨_,acJ _,ad (fun h=>ai (by rw[yb,a,h];rfl) rfl) fun b=>⟨_,C86 _,ad (fun h=>ai (by rw[yb,a,b,h];rfl) rfl) fun c=>
  ad (fun h=>ai (by rw[yb,a,b,c,h];rfl) rfl) fun d=>ad (fun h=>ai (by rw[yb,a,b,c,d,h];rfl) rfl) fun h=>ai (by rw[yb,a,b,c,d,h];rfl) rfl⟩⟩
def fU(x:In)(a:Int):List Int:=bif qC x.code then[]else bif x.code==5 then[a+1+x.k]else bif cO x.code then[a+1+x.jt,a+1+x.jf]else[a+1]
structure PG (x:In):Prop where
 k:0<=x.k/\x.k<4294967296
 jt : -4611686018427387904<=x.jt/\x.jt<=4611686018427387904
 jf : -4611686018427387904<=x.jf/\x.jf<=4611686018427387904
def C87(x:In)(a:Int)(c:PG x)(e:0<=a/\a<=2^40):al 87 [MS x,vN a] [] [vL 1 (mm (fU x a))] []:=by
 obtain⟨f,g⟩:=c.k;obtain⟨i,t2⟩:=c.jt;obtain⟨f1,f2⟩:=c.jf;apply W87;rw[rW (n:=x.k) (by omega) (by omega)]
 exact⟨_,ZK _,ad (fun h=>ai (by rw[fU,h];rfl) rfl) fun b=>ad (fun h=>⟨aC,aC,ai (by rw[fU,b,h];rfl) rfl⟩) fun d=>⟨_,Tu _,ad
  (fun h=>⟨aC,aC,aC,aC,ai (by rw[fU,b,d,h];rfl) rfl⟩) fun h=>⟨aC,ai (by rw[fU,b,d,h];rfl) rfl⟩⟩⟩
def gH(l:List In)(a:Int)(x:In):Bool:=bif !(r6 x.code).isSome then false else bif !jQ x then false else bif !yb x then false else
 bif(bif a==(l.length:Int)-1 then !qC x.code else false)then false else(fU x a).all fun n => !decide (n>=(l.length:Int))
def C85(l:List In)(i:Nat)(x:In)(s:l.length<=2^30)(k:l[i]?=some x)(o:PG x):al 85 [vL 4 (l.map In.row),vN i] [] [vB (gH l i x)] []:=by
 have q:i<l.length:=(aG.1 k).1;have m:(l.map In.row).length=l.length:=ao ..;have g:=C87 x i o ⟨by omega,by omega⟩
 have u:(fU x i).length<=2:=by
  unfold fU;cases qC x.code
  .cases x.code==5
   .cases cO x.code<;>simp
   .simp
  .simp
 have key:∀(t:List Int)(j:Nat),(fU x i).drop j=t->Ip (l.map In.row) (mm (fU x i)) (mm (fU x i)).length j [vB (t.all fun n => !decide (n>=(l.length:Int)))] []:=by
  intro t;induction t with
  |nil=>intro j e;apply Xr;exact aP (l:=fU x i) (by simp[mm]) e fi
  |cons n t p=>
   intro j e;obtain⟨a,b,c⟩:=drop_cons e;apply Xr;refine aK (l:=fU x i) (by simp[mm]) e ⟨n,by omega,aQ (f:=fun n=>[N n]) a,?_⟩
   rw[m,bG];exact ad (fun h=>ai (by rw[h];rfl) rfl) fun h=>⟨aC,by rw[h];exact p (j+1) b⟩
 apply W85;refine⟨x.code,x.jt,x.jf,x.k,by omega,aQ k,_,_,acH x.code,ad (fun h=>ai (by rw[gH,h];rfl) rfl) fun a=>⟨_,C57 x,ad (fun h=>ai (by rw[gH,a,h];rfl) rfl) fun b=>⟨_,ak0 x,ad (fun h=>ai (by rw[gH,a,b,h];rfl) rfl) fun c=>?_⟩⟩⟩
 rw[m];refine⟨aC,ad (fun d=>⟨_,ZK x.code,ad (fun h=>ai (by rw[gH,a,b,c,d,h];rfl) rfl) fun h=>⟨_,g,?_⟩⟩) fun d=>⟨_,g,?_⟩⟩
 .rw[gH,a,b,c,d,h];exact key _ 0 rfl
 .rw[gH,a,b,c,d];exact key _ 0 rfl
abbrev Iw(a:Rw)(b c d e f g i j k l m n o p q s t u v:Int)r h:=Lp f34 0 ⟨aO 39 [(0,vL 1 a),(2,.aB 0 0),(4,.aB 1 0),(22,vN b)],[],[K1 c d e f g i j k l,K1 m n o p q s t u v]⟩ 0 r h
def A34:bu:={an:=[(3,2,ah),(3,6,ah),(3,10,ah),(7,9,ah)],cut:=[(5,{bl:=[0,2,4,22]})]}
def W34(a:Rw)(H:aw ((a.length:Int) !=64) (Fi r h [.agg [W 0,W 0,U 0,U 0,U 0,U 0,U 0,U 0,U 0],vN 2] [])
 ((0<=(0:Int)/\(0:Int)<=4/\(4:Int)<=(a.length:Int))/\Oy 58 [vL 1 (drop 0 (take 4 a))] [] fun b=>(0<=(4:Int)/\(4:Int)<=8/\(8:Int)<=(a.length:Int))/\Oy 58 [vL 1 (drop 4 (take 8 a))] [] fun c=>(0<=(8:Int)/\(8:Int)<=16/\(16:Int)<=(a.length:Int))/\Oy 58 [vL 1 (drop 8 (take 16 a))] [] fun d=>Iw a 0 0 0 0 0 0 0 0 0 0 (wrap .u32 b) (wrap .u32 c) d 0 0 0 0 0 0 r h)):
  al 34 [vL 1 a] [] r h:=.of func34 A34 H
def Xv(e:Rw)(H:aw (decide (a<6)) (au ((8:Int)*a)/\au ((16:Int)+((8:Int)*a))/\au ((8:Int)*a)/\au ((24:Int)+((8:Int)*a))/\(0<=((16:Int)+((8:Int)*a))/\((16:Int)+((8:Int)*a))<=((24:Int)+((8:Int)*a))/\((24:Int)+((8:Int)*a))<=(e.length:Int))/\Oy 58 [vL 1 (drop (toNat ((16:Int)+((8:Int)*a))) (take (toNat ((24:Int)+((8:Int)*a))) e))] [] fun G=>(0<=a/\a<6)/\∃w x y z D E,0<1/\putAt ([vW b,vW c,vU d,vU f,vU g,vU i,vU j,vU k,vU l]:List AV) (3+toNat a*1+0) [vU G]=[vW b,vW c,vU d,vU w,vU x,vU y,vU z,vU D,vU E]/\au (a+1)/\Iw e (a+1) m n o p q s t u v b c d w x y z D E r h)
 (Fi r h [.agg [W b,W c,U d,U f,U g,U i,U j,U k,U l],vN 0] [])):
  Iw e a m n o p q s t u v b c d f g i j k l r h:=.of A34 H
abbrev MT(a:Int)(b:Rw)(c d:Int)r h:=Lp f58 0 ⟨aO 22 [(3,vU a),(6,vL 1 b),(7,vN c),(8,vN d)],[],[]⟩ 0 r h
def A58:bu:={an:=[(4,2,ah)],cut:=[(3,{bl:=[3,6,7,8]})]}
def W58(H:MT 0 a (a.length:Int) 0 r h):
  al 58 [vL 1 a] [] r h:=.of func58 A58 H
def Xw(H:aw (decide (a<d)) (Rdy c a fun e=>au ((8:Int)*a)/\0<=((8:Int)*a)/\au (a+1)/\MT (cH .or .u64 b (wrap .u64 ((wrap .u64 e)*2^(min (toNat ((8:Int)*a)) (IntKind.bits .u64))))) c d (a+1) r h)
 (Fi r h [vU b] [])):
  MT b c d a r h:=.of A58 H
def ak1:bu:={an:=[(1,4,aa),(1,5,aa),(3,1,ah),(3,6,ah)]}
def ak2(c d e f g i j k l a:Int)(H:(4:Int)≠0/\aw (bif((tmod a 4) !=0)then true else(decide (a>60))) (Fi r h [vW 0,vB false] [])
 (∃b,al 177 [.agg [W c,W d,U e,U f,U g,U i,U j,U k,U l]] [] [vL 1 b] []/\(0<=a/\a<=(wrap .u32 (a+4))/\(wrap .u32 (a+4))<=(b.length:Int))/\∃m,al 58 [vL 1 (drop (toNat a) (take (toNat (wrap .u32 (a+4))) b))] [] [vU m] []/\Fi r h [vW (wrap .u32 m),vB true] [])):
  al 128 [.agg [W c,W d,U e,U f,U g,U i,U j,U k,U l],vW a] [] r h:=.of func128 ak1 H
abbrev AO(a:Rw)(b c d e f g i:Int)r h:=Lp f177 0 ⟨aO 31 [(3,.own 0 0 1 a),(21,.agg [U b,U c,U d,U e,U f,U g]),(22,vN i)],[some 0],[]⟩ 0 r h
def acK:bu:={an:=[(1,3,{fz:=true,bD:=true}),(1,7,ah),(2,3,ah),(6,2,ah)],cut:=[(4,{bl:=[3,21,22],cW:=[(3,1)],owns:=[3]})]}
def ak3(H:∃a,al 242 [vU (wrap .u64 c),vN 4] [] [.own 0 0 1 a] []/\Hn 242 [vU (wrap .u64 d),vN 4] [] fun b=>(a++b).length*1<=2^47/\Hn 242 [vU e,vN 8] [] fun m=>((a++b)++m).length*1<=2^47/\AO ((a++b)++m) f g i j k l 0 r h):
  al 177 [.agg [W c,W d,U e,U f,U g,U i,U j,U k,U l]] [] r h:=.of func177 acK H
def Tz(H:aw (decide (a<6)) (∃j,(0<=a/\a<6)/\([U c,U d,U e,U f,U g,U i]:List PV)[toNat a]?=some (U j)/\Hn 242 [vU j,vN 8] [] fun k=>(b++k).length*1<=2^47/\au (a+1)/\AO (b++k) c d e f g i (a+1) r h)
 (Fi r h [.own 0 0 1 b] [])):
  AO b c d e f g i a r h:=.of acK H
abbrev F6(a:Int)(b:Rw)(c d:Int)r h:=Lp f242 0 ⟨aO 21 [(0,vU a),(5,.own 0 0 1 b),(7,vN c),(8,vN d)],[some 0],[]⟩ 0 r h
def acL:bu:={cut:=[(3,{bl:=[0,5,7,8],cW:=[(5,1)],owns:=[5]})]}
def ak4(H:F6 a [] b 0 r h):
  al 242 [vU a,vN b] [] r h:=.of func242 acL H
def TA(c:Rw)(H:aw (decide (a<d)) (au ((8:Int)*a)/\0<=((8:Int)*a)/\(c++([[Y (wrap .u8 (fdiv b (2^(min (toNat ((8:Int)*a)) (IntKind.bits .u64)))))]]:Rw)).length*1<=2^47/\au (a+1)/\F6 b (c++([[Y (wrap .u8 (fdiv b (2^(min (toNat ((8:Int)*a)) (IntKind.bits .u64)))))]]:Rw)) d (a+1) r h)
 (Fi r h [.own 0 0 1 c] [])):
  F6 b c d a r h:=.of acL H
def gX(l:List Int):Rw:=l.map fun n=>[Y n]
def kB(k:Int)(i:Int):Int:=wrap .u8 (fdiv k (2^(min (toNat ((8:Int)*i)) (IntKind.bits .u32))))
def mc(x:In):List Int:=[wrap .u8 x.code,wrap .u8 (fdiv x.code (2^(min (toNat 8) (IntKind.bits .i64)))),wrap .u8 x.jt,wrap .u8 x.jf,kB x.k 0,kB x.k 1,kB x.k 2,kB x.k 3]
def fL:List In->List Int->Option (List Int)
 |[],a=>some a
 |x::t,a=>bif !jQ x then none else fL t (a++mc x)
def acM:Option (List Int)->List AV
 |none=>[vL 1 []]
 |some l=>[.own 0 0 1 (gX l)]
def C32(l:List In)(m:l.length<=2^40):al 32 [vL 4 (l.map In.row)] [] [vL 1 (gX ((fL l []).getD []))] []:=by
 have key:∀(t:List In)(i:Nat)(a:List Int),l.drop i=t->a.length<=8*i->MQ (gX a) (l.map In.row) l.length i (acM (fL t a)) []:=by
  intro t;induction t with
  |nil=>intro i a b _;apply Xs;exact aP (l:=l) rfl b fi
  |cons x t j=>
   intro i a b o;obtain⟨f,g,k⟩:=drop_cons b;have one:∀(z:List Int)(n:Int),gX z++([[Y n]]:Rw)=gX (z++[n]):=fun z n=>by simp[gX]
   have hlen:∀z:List Int,(gX z).length=z.length:=fun z=>ao ..
   apply Xs;refine aK (l:=l) rfl b ⟨x.code,x.jt,x.jf,x.k,by omega,aQ f,_,C57 x,ad (fun h=>ai (by rw[fL,h];rfl) rfl) fun h=>⟨by omega,by simp[gX];omega,?_⟩⟩
   rw[fL,h];have c:∀(s:Nat)(z:List Int){r:List AV}{d:List Bx},s<4->z.length<=8*i+8->Iu (gX (z++[kB x.k s])) (l.map In.row) l.length i ((s:Int)+1) x.code x.jt x.jf x.k r d->Iu (gX z) (l.map In.row) l.length i s x.code x.jt x.jf x.k r d:=by
    intro s z r d p q K;apply Xt;refine bt (bE (by omega)) ⟨aC,by omega,by simp[gX];omega,aC,?_⟩
    rw[show wrap .u8 (fdiv x.k (2^(min (toNat ((8:Int)*(s:Int))) (IntKind.bits .u32))))=kB x.k s from rfl,one]
    exact K
   have e:gX a++([[Y (wrap .u8 x.code)],[Y (wrap .u8 (fdiv x.code (2^(min (toNat 8) (IntKind.bits .i64)))))],[Y (wrap .u8 x.jt)],[Y (wrap .u8 x.jf)]]:Rw)=gX (a++[wrap .u8 x.code,wrap .u8 (fdiv x.code (2^(min (toNat 8) (IntKind.bits .i64)))),wrap .u8 x.jt,wrap .u8 x.jf]):=by simp[gX]
   rw[e];refine c 0 _ (by omega) (by simp;omega) (c 1 _ (by omega) (by simp;omega) (c 2 _ (by omega) (by simp;omega) (c 3 _ (by omega) (by simp;omega) ?_)))
   apply Xt;refine aU rfl ⟨aC,?_⟩;have:=j (i+1) (a++mc x) g (by simp[mc];omega)
   rw[show a++mc x=a++[wrap .u8 x.code,wrap .u8 (fdiv x.code (2^(min (toNat 8) (IntKind.bits .i64)))),wrap .u8 x.jt,wrap .u8 x.jf]++[kB x.k (0:Nat)]++[kB x.k (1:Nat)]++[kB x.k (2:Nat)]++[kB x.k (3:Nat)] by simp[mc]]at this⊢
   exact this
 have w:al 32 [vL 4 (l.map In.row)] [] (acM (fL l [])) []:=by
  apply W32;rw[ao];exact key l 0 [] rfl (by simp)
 cases hb:fL l []with
 |none=>rw[hb]at w;exact w
 |some z=>rw[hb]at w;exact Go.Ac.al.soft w rfl
def Ix:List Int->Nat->Int->Int
 |[],_,n=>n
 |x::t,i,n=>Ix t (i+1) (cH .or .u64 n (wrap .u64 ((wrap .u64 x)*2^(min (toNat ((8:Int)*i)) (IntKind.bits .u64)))))
def ll(b:List Int):Int:=Ix b 0 0
def C58(b:List Int)(j:b.length<=2^40):al 58 [vL 1 (gX b)] [] [vU (ll b)] []:=by
 have key:∀(t:List Int)(i:Nat)(n:Int),b.drop i=t->MT n (gX b) b.length i [vU (Ix t i n)] []:=by
  intro t;induction t with
  |nil=>intro i n a;apply Xw;exact aP (l:=b) rfl a fi
  |cons x t e=>
   intro i n a;obtain⟨c,d,g⟩:=drop_cons a;apply Xw;exact aK (l:=b) rfl a ⟨x,by omega,aQ (f:=fun n=>[Y n]) c,aC,by omega,aC,e (i+1) _ d⟩
 apply W58;rw[show(gX b).length=b.length from ao ..]
 exact key b 0 0 rfl
def AP(c x:Int)(i:Int):Int:=cH .or .u32 c (wrap .u32 ((wrap .u32 x)*2^(min (toNat ((8:Int)*i)) (IntKind.bits .u32))))
def VP(b:List Int):In:=⟨cH .or .i64 (wrap .i64 (b.getD 0 0)) (wrap .i64 ((wrap .i64 (b.getD 1 0))*2^(min (toNat 8) (IntKind.bits .i64)))),wrap .i64 (b.getD 2 0),wrap .i64 (b.getD 3 0),
 AP (AP (AP (AP 0 (b.getD 4 0) 0) (b.getD 5 0) 1) (b.getD 6 0) 2) (b.getD 7 0) 3⟩
def qk:Nat->List Int->List In->List In
 |0,_,a=>a
 |n+1,b,a=>bif decide ((b.length:Int)>0)then qk n (b.drop 8) (a++[VP b])else a
def Iy(b:List Int):List In×Int:=bif(tmod (b.length:Int) 8) !=0 then([],2)else(qk (b.length+1) b [],0)
def AQ(h:i<b.length):(gX b)[i]?=some [Y (b.getD i 0)]:=by
 rw[gX,bw,bo h,bW,bo h];rfl
def C33(b:List Int)(m:b.length<=2^40):al 33 [vL 1 (gX b)] [] [vL 4 ((Iy b).1.map In.row),vN (Iy b).2] []:=by
 have hlen:∀z:List Int,(gX z).length=z.length:=fun z=>ao ..
 have key:∀(n:Nat)(b:List Int)(a:List In),b.length<n->b.length%8=0->b.length+a.length<=2^41->MR (gX b) (a.map In.row) [.own 0 0 4 ((qk n b a).map In.row),vN 0] []:=by
  intro n;induction n with
  |zero=>intro b a h;omega
  |succ n l=>
   intro b a o k p;apply acI;rw[hlen];refine ad (fun h=>?_) fun h=>ai (by rw[qk,h];rfl) rfl
   have q:=aV h;refine⟨_,by omega,AQ (b:=b) (i:=0) (by omega),_,by omega,AQ (b:=b) (i:=1) (by omega),by omega,_,by omega,AQ (b:=b) (i:=2) (by omega),_,by omega,AQ (b:=b) (i:=3) (by omega),?_⟩
   have d:∀(s:Nat)(c e f g:Int){r:List AV}{j:List Bx},s<4->Iv (gX b) (a.map In.row) ((s:Int)+1) c e f (AP g (b.getD (4+s) 0) s) r j->Iv (gX b) (a.map In.row) s c e f g r j:=by
    intro s c e f g r j t K;apply Xu;exact bt (bE (by omega)) ⟨aC,b.getD (4+s) 0,by omega,by rw[show toNat ((4:Int)+(s:Int))=4+s by omega];exact AQ (by omega),aC,by omega,aC,K⟩
   refine d 0 _ _ _ _ (by omega) (d 1 _ _ _ _ (by omega) (d 2 _ _ _ _ (by omega) (d 3 _ _ _ _ (by omega) ?_)))
   apply Xu;rw[hlen];refine aU rfl ⟨by simp;omega,⟨by omega,by omega,by omega⟩,?_⟩
   have:=l (b.drop 8) (a++[VP b]) (by simp;omega) (by simp;omega) (by simp;omega)
   rw[qk,h,aj];rw[bM (l₁:=a) (l₂:=[VP b])]at this;rw[show drop 8 (take b.length (gX b))=gX (b.drop 8) by rw[dH (by rw[hlen];exact ar _),gX,gX,mR]]
   exact this
 have w:al 33 [vL 1 (gX b)] [] (bif(tmod (b.length:Int) 8) !=0 then[vL 4 [],vN 2]else[.own 0 0 4 ((qk (b.length+1) b []).map In.row),vN 0]) []:=by
  apply W33;rw[hlen];refine⟨by omega,ad (fun h=>ai (by rw[h];rfl) rfl) fun h=>?_⟩
  rw[h];have k:b.length%8=0:=by
   rw[uG (by omega)]at h
   simp at h;omega
  exact key (b.length+1) b [] (by omega) k (by simp;omega)
 rw[Iy];cases h:(tmod (b.length:Int) 8) !=0<;>rw[h]at w
 .exact Go.Ac.al.soft w rfl
 .exact w
def AR(g:α->β)(f:β->β)(h:α->α)(a:∀x,f (g x)=g (h x)):∀(l:List α)(n:Nat),(l.map g).modify n f=(l.modify n h).map g
 |[],n=>by simp
 |x::l,0=>by simp[a]
 |x::l,n+1=>by simp[AR g f h a l n]
def vA(v:α):∀(l:List α)(n:Nat),l.modify n (fun _=>v)=l.set n v
 |[],n=>by simp
 |x::l,0=>by simp
 |x::l,n+1=>by simp[vA v l n]
def F7(c:List Int)(n:Nat)(v:Int):setRow (mm c) n 0 [N v]=mm (c.set n v):=by
 unfold setRow mm;rw[AR (fun n=>[N n]) (fun r=>putAt r 0 [N v]) (fun _=>v) (fun x=>rfl),vA]
def MU(x:In)(s:Int):Int:=bif F5 x.code then cH .or .i64 s (wrap .i64 ((1:Int)*2^(min (toNat x.k) (IntKind.bits .i64))))else s
def C88(x:In)(s:Int)(a:PG x):al 88 [MS x,vN s] [] [vN (MU x s)] []:=by
 have:=a.k;apply W88;exact⟨_,acJ x.code,ad (fun h=>⟨by omega,ai (by rw[MU,h];rfl) rfl⟩) fun h=>ai (by rw[MU,h];rfl) rfl⟩
def sX(x:In)(s:Int):Bool:=bif AN x.code then(cH .and .i64 (fdiv s (2^(min (toNat x.k) (IntKind.bits .i64)))) 1)==0 else false
def CV(x:In)(i:Nat):List Int->List Int->List Int
 |[],a=>a
 |n::t,a=>CV x i t (a.set n.toNat (cH .and .i64 (a.getD n.toNat 0) (MU x (a.getD i 0))))
def pd(l:List In):List In->Nat->List Int->Int
 |[],_,_ => -1
 |x::t,i,a=>bif !gH l i x then i else bif sX x (a.getD i 0)then i else pd l t (i+1) (CV x i (fU x i) a)
def ql(n:Nat):List Int:=(replicate n 65535).set 0 0
def Iz(l:List In):Bool:=bif((l.length:Int)==0)then true else(decide ((l.length:Int)>4096))
def C59(l:List In):al 59 [vL 4 (l.map In.row)] [] [vB (Iz l)] []:=by
 apply W59;rw[ao];exact fi
def jR(l:List In):Int×Bool:=bif Iz l then(0,false)else(pd l l 0 (ql l.length),pd l l 0 (ql l.length)== -1)
def CW(x:In)(i:Nat):∀(b a:List Int),(CV x i b a).length=a.length
 |[],a=>rfl
 |n::t,a=>by rw[CV,CW x i t,fc]
def F8{i:Nat}(e:PG x)(h:gH l i x=true):∀n∈fU x i,0<=n/\n<l.length:=by
 have c:jQ x=true:=by
  unfold gH at h;cases b : !(r6 x.code).isSome<;>rw[b]at h
  .cases h2:jQ x<;>rw[h2]at h
   .simp at h
  .simp at h
 have d:(fU x i).all (fun n => !decide (n>=(l.length:Int)))=true:=by
  unfold gH at h;cases b : !(r6 x.code).isSome<;>rw[b]at h
  .rw[c]at h
   cases h3 : !yb x<;>rw[h3]at h
   .cases h4:(bif((i:Int)==(l.length:Int)-1)then !qC x.code else false)<;>rw[h4]at h
    .exact h
    .simp at h
   .simp at h
  .simp at h
 intro n a;have b:=bf.1 d n a;refine⟨?_,by simpa using b⟩
 have f:0<=x.jt/\0<=x.jf:=by
  simp[jQ,cond_eq_ite]at c;omega
 have:=e.k;unfold fU at a;cases h6:qC x.code<;>rw[h6]at a
 .cases h5:x.code==5<;>rw[h5]at a
  .cases hjj:cO x.code<;>rw[hjj]at a
   .simp at a;omega
   .simp at a;rcases a with rfl|rfl<;>omega
  .simp at a;omega
 .simp at a
def C60(l:List In)(A:0<l.length)(hl:l.length<=4096)(Q:∀x∈l,PG x):∃o,al 60 [vL 4 (l.map In.row),vB true] [] [vN (pd l l 0 (ql l.length)),vL 1 o] []:=by
 have H:(l.map In.row).length=l.length:=ao ..;have pl:∀c:List Int,(mm c).length=c.length:=fun c=>ao ..
 have key:∀(t:List In)(i:Nat)(c:List Int),l.drop i=t->c.length=l.length->∃a,(a = .own 0 0 1 []\/∃o,a=vL 1 o)/\Io (l.map In.row) true (l.map In.row) l.length i (mm c) [vN (pd l t i c),a] []:=by
  intro t;induction t with
  |nil=>intro i c b _;exact⟨_,.inr ⟨mm c,rfl⟩,by apply ML;exact aP (l:=l) rfl b fi⟩
  |cons x t z=>
   intro i c b k;obtain⟨d,E,R⟩:=drop_cons b;have g:=Q x (aM d);have v:=C85 l i x (by omega) d g
   cases hr:gH l i x with
   |false=>
    refine⟨_,.inl rfl,?_⟩;apply ML;exact aK (l:=l) rfl b ⟨x.code,x.jt,x.jf,x.k,by omega,aQ d,_,v,bt (by rw[hr];rfl) (ai (by rw[pd,hr];rfl) rfl)⟩
   |true=>
    have M:(mm c)[toNat (i:Int)]?=some [N (c.getD i 0)]:=by
     rw[mm,toNat_cast,bw,bo (by omega),bW,bo (by omega)];rfl
    cases hb:sX x (c.getD i 0)with
    |true=>
     refine⟨_,.inl rfl,?_⟩;have p:AN x.code=true:=by unfold sX at hb;cases hq:AN x.code<;>rw[hq]at hb<;>simp at hb⊢
     have Y:((cH .and .i64 (fdiv (c.getD i 0) (2^(min (toNat x.k) (IntKind.bits .i64)))) 1)==0)=true:=by unfold sX at hb;rw[p]at hb;exact hb
     have:=g.k;apply ML;exact aK (l:=l) rfl b ⟨x.code,x.jt,x.jf,x.k,by omega,aQ d,_,v,aU (by rw[hr];rfl) (bt rfl ⟨_,C86 x.code,bt p ⟨⟨by omega,by rw[pl];omega⟩,c.getD i 0,by rw[M];rfl,by omega,bt Y (ai (by rw[pd,hr,hb];rfl) rfl)⟩⟩)⟩
    |false=>
     obtain⟨a,y,K⟩:=z (i+1) (CV x i (fU x i) c) E ((CW x i _ c).trans k);refine⟨a,y,?_⟩;have a0:(fU x i).length<=2:=by
      unfold fU;cases qC x.code
      .cases x.code==5
       .cases cO x.code<;>simp
       .simp
      .simp
     have Z:=F8 g hr;have inner:∀(u:List Int)(j:Nat)(c:List Int){r:List AV}{q:List Bx},(fU x i).drop j=u->c.length=l.length->Io (l.map In.row) true (l.map In.row) l.length ((i:Int)+1) (mm (CV x i u c)) r q ->
       AI (l.map In.row) true i (l.map In.row) l.length i (mm (fU x i)) (fU x i).length j (mm c) x.code x.jt x.jf x.k r q:=by
      intro u;induction u with
      |nil=>intro j c r q s k K;apply Xq;exact aP (l:=fU x i) rfl s ⟨aC,K⟩
      |cons n u F=>
       intro j c r q s k K;obtain⟨G,T,j3⟩:=drop_cons s;obtain⟨h,X⟩:=Z n (aM G);have I:∀m:Int,0<=m->m<l.length->((mm c)[toNat m]?).bind (·[0]?)=some (N (c.getD m.toNat 0)):=fun m d E=>by
        rw[mm,bw,bo (by omega),bW,bo (by omega)];rfl
       apply Xq;refine aK (l:=fU x i) rfl s ⟨n,by omega,aQ (f:=fun n=>[N n]) G,⟨h,by rw[pl];omega⟩,_,I n h X,⟨by omega,by rw[pl];omega⟩,_,I i (by omega) (by omega),_,C88 x _ g,⟨h,by rw[pl];omega⟩,by omega,aC,?_⟩
       rw[F7];exact F (j+1) _ T (by rw[fc];exact k) K
     have D:=C87 x i g ⟨by omega,by omega⟩
     have J:AI (l.map In.row) true i (l.map In.row) l.length i (mm (fU x i)) (mm (fU x i)).length 0 (mm c) x.code x.jt x.jf x.k [vN (pd l (x::t) i c),a] []:=by
      rw[pl];refine inner (fU x i) 0 c rfl k ?_;rw[pd,hr,hb];exact K
     have:=g.k;apply ML;refine aK (l:=l) rfl b ⟨x.code,x.jt,x.jf,x.k,by omega,aQ d,_,v,aU (by rw[hr];rfl) (bt rfl ⟨_,C86 x.code,ad (fun p=>⟨⟨by omega,by rw[pl];omega⟩,c.getD i 0,by rw[M];rfl,by omega,aU ?_ ⟨_,D,J⟩⟩) fun p=>⟨_,D,J⟩⟩)⟩
     unfold sX at hb;rw[p]at hb;exact hb
 obtain⟨a,y,K⟩:=key l 0 (ql l.length) rfl (by simp[ql])
 have fill:∀(m i:Nat),i+m=l.length->MK (l.map In.row) true l.length i (mm (replicate i 65535++replicate m 0)) [vN (pd l l 0 (ql l.length)),a] []:=by
  intro m;induction m with
  |zero=>
   intro i b;apply Xp;refine aU (bV (by omega)) ⟨⟨by omega,by rw[pl];simp;omega⟩,by omega,?_⟩
   rw[F7,H,List.replicate_zero,fa,show i=l.length by omega]
   exact K
  |succ m z=>
   intro i b;apply Xp;refine bt (bE (by omega)) ⟨⟨by omega,by rw[pl];simp;omega⟩,by omega,aC,?_⟩
   have:=z (i+1) (by omega)
   rw[F7,toNat_cast];have e:(replicate i (65535:Int)++replicate (m+1) 0).set i 65535=replicate (i+1) 65535++replicate m 0:=by
    rw[List.set_append_right _ _ (by simp),List.length_replicate,lG,List.replicate_succ,List.set_cons_zero,List.replicate_succ',bp]
    rfl
   rw[e];exact this
 have w:al 60 [vL 4 (l.map In.row),vB true] [] [vN (pd l l 0 (ql l.length)),a] []:=by
  apply W60;rw[H];refine⟨rfl,by omega,by omega,?_⟩
  have:=fill l.length 0 (by omega)
  have e:(replicate (toNat (l.length:Int)) [N 0]:Rw)=mm (replicate 0 65535++replicate l.length 0):=by simp[mm]
  rw[e,pl];simpa using this
 rcases y with rfl|⟨o,rfl⟩
 .exact⟨[],Go.Ac.al.soft w rfl⟩
 .exact⟨o,w⟩
def C35(l:List In)(b:∀x∈l,PG x):al 35 [vL 4 (l.map In.row)] [] [vN (jR l).1,vB (jR l).2] []:=by
 apply W35;refine⟨_,C59 l,ad (fun h=>ai (by rw[jR,h];rfl) rfl) fun h=>?_⟩
 have a:0<l.length/\l.length<=4096:=by
  unfold Iz at h;cases h1:(l.length:Int)==0<;>rw[h1]at h
  .have:=bI h
   simp at h1;have:l.length≠0:=fun e=>h1 (hX.1 e)
   omega
  .simp at h
 obtain⟨d,c⟩:=C60 l a.1 a.2 b;exact⟨_,_,c,ai (by rw[jR,h];rfl) rfl⟩
section
def fC(cn:Int)(l:List Sy):List Sy:=bif cn==0 then l else l.dropWhile fun x=>x.label !=cn
def TB(c:Int):Bool:=bif c==21 then true else bif c==37 then true else c==53
def jc(c a k:Int):Bool:=bif c==21 then a==k else bif c==37 then decide (a>k)else decide (a>=k)
def OU(a k:Int):Int:=cH .and .u32 a k
inductive BS (wd:Int->Int):List Sy->Int->Int->Nat->Prop
 |ld {x t A v n}:x.code=32->BS wd t (wd x.k) v n->BS wd (x::t) A v (n+1)
 |an {x t A v n}:x.code=84->BS wd t (OU A x.k) v n->BS wd (x::t) A v (n+1)
 |tx {x t A v n}:x.code=135->BS wd t 0 v n->BS wd (x::t) A v (n+1)
 |rt {x t A}:x.code=6->BS wd (x::t) A x.k 1
 |ja {x t A v n}:x.code=5->BS wd (fC x.t t) A v n->BS wd (x::t) A v (n+1)
 |jp {x t A v n}:TB x.code=true->BS wd (fC (bif jc x.code A x.k then x.t else x.f) t) A v n->BS wd (x::t) A v (n+2)
def r7(wd:Int->Int)(l:List Sy)(v:Int):Prop:=∀A,∃n,BS wd l A v n
variable {wd:Int->Int}
def TC(l:List Sy):fC 0 l=l:=rfl
def nD(b:cn≠0)(h:∀x∈s,x.label≠cn):fC cn (s++a)=fC cn a:=by
 have e:(cn==0)=false:=by simpa using b
 unfold fC;rw[e,af,af];induction s with
 |nil=>rfl
 |cons x s f=>
  have c:(x.label !=cn)=true:=by simpa using h x aX
  rw[dm,List.dropWhile_cons,aJ c];exact f fun y d=>h y (aW _ d)
def mM(h:x.label=cn):fC cn (x::t)=x::t:=by
 unfold fC;cases cn==0
 .rw[af,List.dropWhile_cons,aN (by simp[h])]
 .rfl
def AS(h:Hf):Int:=wrap .u32 (ya h)
def vD(wd:Int->Int)(h:Hf):Int:=bif h.mask !=4294967295 then OU (wd (AS h)) h.mask else wd (AS h)
def JB(wd:Int->Int)(h:Hf):Bool:=bif qB h.op then !jc (iI h.op) (vD wd h) h.value else jc (iI h.op) (vD wd h) h.value
def Lr(h:Hf)(y n:Int):Sy:=bif qB h.op then⟨0,n,y,iI h.op,h.value⟩else⟨0,y,n,iI h.op,h.value⟩
def B3(cn:Int)(h:Hf)(y n:Int):List Sy:=bif h.mask !=4294967295 then[⟨cn,0,0,32,AS h⟩,⟨0,0,0,84,h.mask⟩,Lr h y n]else[⟨cn,0,0,32,AS h⟩,Lr h y n]
def w8(w:Wr)(h:Hf)(y n:Int):testW w h y n={w with l:=w.l++B3 w.label h y n,label:=0}:=by
 unfold testW js B3 Lr;cases h.mask !=4294967295<;>cases qB h.op<;>simp[fo,AS]
def CX(op:Int):TB (iI op)=true:=by
 unfold iI;cases op==1<;>cases op==2<;>cases op==5<;>cases op==4<;>rfl
def TD(H:BS wd (fC (bif JB wd h then y else n) a) (vD wd h) v m):BS wd (Lr h y n::a) (vD wd h) v (m+2):=by
 unfold JB at H;unfold Lr;cases ht:qB h.op<;>rw[ht]at H
 .exact .jp (CX _) H
 .refine .jp (CX _) ?_
  rw[aj]at H;show BS wd (fC (bif jc (iI h.op) (vD wd h) h.value then n else y) a) _ _ _
  cases hj:jc (iI h.op) (vD wd h) h.value<;>rw[hj]at H<;>exact H
def AT(cn:Int)(H:r7 wd (fC (bif JB wd h then y else n) b) v):r7 wd (B3 cn h y n++b) v:=by
 intro A;obtain⟨m,c⟩:=H (vD wd h);have a:=TD c;unfold B3;have e:vD wd h=bif h.mask !=4294967295 then OU (wd (AS h)) h.mask else wd (AS h):=rfl;cases hk:h.mask !=4294967295<;>rw[hk]at e
 .rw[e]at a
  exact⟨_,.ld rfl a⟩
 .rw[e]at a
  exact⟨_,.ld rfl (.an rfl a)⟩
def Hd(cn:Int)(s:List Sy):Prop:=s=[]\/∃x t,s=x::t/\x.label=cn/\∀y∈t,y.label=0
def Hd.mem(h:Hd cn s):∀x∈s,x.label=0\/x.label=cn:=by
 rcases h with rfl|⟨x,t,rfl,b,c⟩
 .simp
 .intro y a
  rcases aZ.1 a with rfl|a
  .exact .inr b
  .exact .inl (c y a)
def Hd.app(h:Hd cn s)(e:s≠[])(d:Hd 0 u):Hd cn (s++u):=by
 rcases h with rfl|⟨x,t,rfl,b,c⟩
 .exact(e rfl).elim
 .refine .inr ⟨x,t++u,rfl,b,fun y a=>?_⟩
  rcases bn.1 a with a|a
  .exact c y a
  .rcases d.mem y a with h|h<;>exact h
def Hd.goto(h:Hd cn s)(c:s≠[]):fC cn (s++a)=s++a:=by
 rcases h with rfl|⟨x,t,rfl,b,d⟩
 .exact(c rfl).elim
 .exact mM b
def mF(cn:Int)(h:Hf)(y n:Int):Hd cn (B3 cn h y n)/\B3 cn h y n≠[]:=by
 have a:(Lr h y n).label=0:=by unfold Lr;cases qB h.op<;>rfl
 unfold B3;cases h.mask !=4294967295
 .exact⟨.inr ⟨_,_,rfl,rfl,by simp[a]⟩,by simp⟩
 .exact⟨.inr ⟨_,_,rfl,rfl,by simp[a]⟩,by simp⟩
def nE(n yes no next:Int):Int->List Hf->Int->List Sy
 |_,[],_=>[]
 |cn,h::t,i=>(bif decide (i<n-1)then B3 cn h 0 no else bif no==next then B3 cn h yes 0 else B3 cn h yes no)++nE n yes no next 0 t (i+1)
def IA(n yes no next:Int):∀(t:List Hf)(i:Int)(w:Wr),tS n yes no next t i w={w with l:=w.l++nE n yes no next w.label t i,label:=bif t.isEmpty then w.label else 0}
 |[],i,w=>by simp[tS,nE]
 |h::t,i,w=>by
  rw[tS,nE,IA n yes no next t];cases decide (i<n-1)
  .cases no==next
   .simp[w8]
   .simp[w8]
  .simp[w8]
def r8(n yes no next:Int):∀(t:List Hf)(cn i:Int),Hd cn (nE n yes no next cn t i)/\(t≠[]->nE n yes no next cn t i≠[])
 |[],cn,i=>⟨.inl rfl,fun h=>(h rfl).elim⟩
 |h::t,cn,i=>by
  have a:=(r8 n yes no next t 0 (i+1)).1;rw[nE];cases decide (i<n-1)
  .cases no==next
   .exact⟨(mF cn h yes no).1.app (mF cn h yes no).2 a,fun _=>by simp[(mF cn h yes no).2]⟩
   .exact⟨(mF cn h yes 0).1.app (mF cn h yes 0).2 a,fun _=>by simp[(mF cn h yes 0).2]⟩
  .exact⟨(mF cn h 0 no).1.app (mF cn h 0 no).2 a,fun _=>by simp[(mF cn h 0 no).2]⟩
def CY(c:no≠0)(d:(no==next)=true->fC no a=a):∀(t:List Hf)(cn i:Int),t≠[]->i+t.length=n ->
  r7 wd (fC (bif t.all (JB wd)then yes else no) a) v->r7 wd (nE n yes no next cn t i++a) v
 |[],_,_,h,_,_=>(h rfl).elim
 |[h],cn,i,_,b,H=>by
  simp only[aE,cN]at b;rw[nE,nE,bV (by omega),af,fa]
  rw[bG,mQ,Bool.and_true]at H;cases hb:no==next
  .exact AT cn H
  .refine AT cn ?_
   cases hh:JB wd h<;>rw[hh]at H
   .rw[af,d hb]at H;exact H
   .exact H
 |h::g::t,cn,i,_,b,H=>by
  simp only[aE]at b;rw[nE,bE (by omega),aj,bp]
  refine AT cn ?_;have z:=(r8 n yes no next (g::t) 0 (i+1)).1.mem;rw[bG]at H;cases hh:JB wd h<;>rw[hh]at H
  .rw[af,nD c fun x f=>by rcases z x f with h|h<;>rw[h]<;>exact fun e=>c e.symm]
   exact H
  .exact CY c d (g::t) 0 (i+1) (by simp) (by simp only[aE];omega) H
def tZ(cn:Int)(l:List Hf)(yes no next:Int):List Sy:=(bif(bif(l.length:Int)==0 then yes !=0 else false)then[⟨cn,yes,0,5,0⟩]else[])++nE l.length yes no next cn l 0
def B4(cn:Int)(l:List Hf)(yes:Int):Int:=bif l.isEmpty then(bif yes !=0 then 0 else cn)else 0
def xK(w:Wr)(l:List Hf)(yes no next:Int):dA w l yes no next={w with l:=w.l++tZ w.label l yes no next,label:=B4 w.label l yes}:=by
 unfold dA tZ B4;rw[IA];cases l with
 |nil=>cases hy:yes !=0<;>simp[fo,nE]
 |cons h t=>simp;rw[show((t.length:Int)+1==0)=false from by simp;omega];simp
def MV(cn:Int)(l:List Hf)(yes no next:Int):Hd cn (tZ cn l yes no next):=by
 unfold tZ;cases l with
 |nil=>
  rw[nE,fa];cases yes !=0
  .exact .inl rfl
  .exact .inr ⟨_,_,rfl,rfl,by simp⟩
 |cons h t=>
  rw[show(((h::t).length:Int)==0)=false from by simp only[aE];simp;omega]
  exact(r8 _ yes no next (h::t) cn 0).1
def IB(cn:Int)(c:no≠0)(b:(no==next)=true->fC no a=a)(H:r7 wd (fC (bif l.all (JB wd)then yes else no) a) v):
  r7 wd (tZ cn l yes no next++a) v:=by
 unfold tZ;cases l with
 |nil=>
  rw[nE,fa];rw[mQ,aj]at H;cases hy:yes !=0
  .have:yes=0:=by simpa using hy
   rw[this]at H;exact H
  .intro A
   obtain⟨n,b⟩:=H A;exact⟨_,.ja rfl b⟩
 |cons h t=>
  rw[show(((h::t).length:Int)==0)=false from by simp only[aE];simp;omega]
  exact CY c b (h::t) cn 0 (by simp) (by simp) H
def TE(h:B4 cn l yes≠0):tZ cn l yes no next=[]/\B4 cn l yes=cn:=by
 unfold B4 at h⊢;unfold tZ;cases l with
 |nil=>
  cases hy:yes !=0
  .exact⟨rfl,rfl⟩
  .rw[hy]at h;exact(h rfl).elim
 |cons a t=>exact(h rfl).elim
def AU(wd:Int->Int)(l:List (List Hf)):Bool:=l.any fun c=>c.all (JB wd)
abbrev qL(a:Act):Int:=(cd a).1
def vE(w:Wr)(cn:Int):cD w cn={w with l:=w.l++(bif w.label !=0 then[⟨w.label,0,0,135,0⟩]else[]),label:=cn}:=by
 unfold cD;cases w.label !=0<;>simp[fo]
def VQ(h:a=bif cn !=0 then[⟨cn,0,0,135,0⟩]else[]):r7 wd (a++⟨b,0,0,6,k⟩::c) k:=by
 intro A;subst h;cases cn !=0
 .exact⟨_,.rt rfl⟩
 .exact⟨_,.tx rfl (.rt rfl)⟩
structure ak5 (wd:Int->Int) (s:Sp) (act en:Int) (t:List (List Hf)) (w w':Wr) (CZ:List Sy):Prop where
 l:w'.l=w.l++CZ
 up:w.aD<=w'.aD
 wE:w'.label=en
 cn:∀x∈CZ,x.label=0\/x.label=w.label\/x.label=act\/(w.aD<x.label/\x.label<=w'.aD)
 head:∀rest,fC w.label (CZ++rest)=CZ++rest
 Xx:∀rest,r7 wd (fC act (CZ++rest)) (qL s.act)
 yes:AU wd t=true->∀rest,fC en rest=rest->r7 wd (CZ++rest) (qL s.act)
 no:AU wd t=false->∀rest v,fC en rest=rest->r7 wd rest v->r7 wd (CZ++rest) v
def IC(s:Sp)(d f:Int)(q:0<d)(z:0<f)(M:d≠f):∀(t:List (List Hf))(i:Int)(w:Wr),t≠[]->0<=i->i+t.length=s.cl.length->0<=w.label->w.label<=w.aD->w.label≠d->w.label≠f->d<=w.aD->f<=w.aD ->
  ∃K,ak5 wd s d f t w (w6 s d f t i w) K
 |[],_,_,h,_,_,_,_,_,_,_,_=>(h rfl).elim
 |[x],i,w,_,a0,G,X,Y,Z,F,R,h5=>by
  simp only[aE,cN]at G;have e:(i==(s.cl.length:Int)-1)=true:=by rw[beq_iff_eq];omega
  rw[w6,e,aj,AD,bE (by omega),aj,xK,vE,nS,vE]
  have m:=MV w.label x 0 f 0;have Q:=TE (cn:=w.label) (l:=x) (yes:=0) (no:=f) (next:=0);generalize E:tZ w.label x 0 f 0=cs at*;generalize r:B4 w.label x 0=lb at*;have p:∀c v,r7 wd (fC (bif x.all (JB wd)then 0 else f) c) v->r7 wd (cs++c) v:=fun c v H=>by
   rw[<-E];refine IB w.label (kg z) (fun h=>?_) H
   exact absurd (eq_of_beq h) (kg z)
  have I:lb=0\/lb=w.label:=by
   by_cases o:lb=0
   .exact .inl o
   .exact .inr (Q o).2
  have J:∀y∈(bif lb !=0 then[(⟨lb,0,0,135,0⟩:Sy)]else[]),y.label=lb:=by
   cases lb !=0
   .simp
   .simp
  refine⟨cs++((bif lb !=0 then[⟨lb,0,0,135,0⟩]else[])++[⟨d,0,0,6,qL s.act⟩]),?_,?_,rfl,?_,?_,?_,?_,?_⟩
  .simp[fo,dE,E,r]
  .simp[fo,dE];omega
  .intro y b
   rcases bn.1 b with b|b
   .rcases m.mem y b with h|h
    .exact .inl h
    .exact .inr (.inl h)
   .rcases bn.1 b with b|b
    .have:=J y b
     rcases I with h|h
     .exact .inl (this.trans h)
     .exact .inr (.inl (this.trans h))
    .simp at b;subst b;exact .inr (.inr (.inl rfl))
  .intro c
   by_cases o:w.label=0
   .rw[o];rfl
   .by_cases D:cs=[]
    .cases k:lb !=0
     ·
      have k:lb=0:=by simpa using k
      exfalso;rw[<-r]at k;rw[<-E]at D;unfold B4 at k;cases x with
      |nil=>exact o k
      |cons a t=>exact(r8 _ _ _ _ (a::t) w.label 0).2 (by simp) (List.append_eq_nil_iff.1 D).2
     .have k:lb≠0:=by simpa using k
      rw[D];exact mM (Q k).2
    .rw[bp];exact m.goto D
  .intro c
   rw[bp,bp,nD (kg q) fun y b=>?_,nD (kg q) fun y b=>?_]
   .show r7 wd (fC d (⟨d,0,0,6,qL s.act⟩::c)) _
    rw[mM (x:=⟨d,0,0,6,qL s.act⟩) rfl];exact fun A=>⟨_,.rt rfl⟩
   .rw[J y b];rcases I with h|h<;>omega
   .rcases m.mem y b with h|h<;>rw[h]<;>omega
  .intro j c n
   rw[bp];refine p _ _ ?_;rw[show x.all (JB wd)=true by simpa[AU]using j,aj,TC,bp]
   exact VQ rfl
  .intro j c v n H
   rw[bp];refine p _ _ ?_;rw[show x.all (JB wd)=false by simpa[AU]using j,af,nD (kg z) fun y b=>?_,n]
   .exact H
   .rcases bn.1 b with b|b
    .rw[J y b];rcases I with h|h<;>omega
    .simp at b;subst b;exact M
 |x::x2::t,i,w,_,a0,G,X,Y,Z,F,R,h5=>by
  simp only[aE]at G;have e:(i==(s.cl.length:Int)-1)=false:=by rw[fY];omega
  have T:B4 w.label x d=0:=by
   unfold B4;rw[show(d !=0)=true by simp;omega]
   cases x<;>rfl
  have hw:cD (dA (dE w) x d (w.aD+1) (w.aD+1)) (w.aD+1)=⟨w.l++tZ w.label x d (w.aD+1) (w.aD+1),w.aD+1,w.aD+1⟩:=by
   rw[xK,vE];show(⟨_,_,_⟩:Wr)=_
   rw[show B4 (dE w).label x d=0 from T]
   simp[dE]
  rw[w6,e,af,hw];obtain⟨K,h⟩:=IC s d f q z M (x2::t) (i+1) ⟨w.l++tZ w.label x d (w.aD+1) (w.aD+1),w.aD+1,w.aD+1⟩ (by simp) (by omega) (by simp only[aE];omega) (by show(0:Int)<=w.aD+1;omega) (ez _) (by show w.aD+1≠d;omega) (by show w.aD+1≠f;omega) (by show d<=w.aD+1;omega) (by show f<=w.aD+1;omega)
  have r:=h.l;have a2:w.aD+1<=_:=h.up;have m:=MV w.label x d (w.aD+1) (w.aD+1);have p:∀c v,fC (w.aD+1) c=c->r7 wd (fC (bif x.all (JB wd)then d else w.aD+1) c) v->r7 wd (tZ w.label x d (w.aD+1) (w.aD+1)++c) v:=fun c v hg H=>IB w.label (by omega) (fun _=>hg) H
  have a1:tZ w.label x d (w.aD+1) (w.aD+1)≠[]:=by
   unfold tZ;cases x with
   |nil=>
    rw[show(d !=0)=true by simp;omega]
    simp
   |cons a u=>exact fun hn=>(r8 _ _ _ _ (a::u) w.label 0).2 (by simp) (List.append_eq_nil_iff.1 hn).2
  generalize tZ w.label x d (w.aD+1) (w.aD+1)=cs at*;refine⟨cs++K,?_,by omega,h.wE,?_,?_,?_,?_,?_⟩
  .rw[r];simp
  .intro y b
   rcases bn.1 b with b|b
   .rcases m.mem y b with h|h
    .exact .inl h
    .exact .inr (.inl h)
   .rcases h.cn y b with g|g|g|g
    .exact .inl g
    .have g:y.label=w.aD+1:=g
     exact .inr (.inr (.inr ⟨by omega,by omega⟩))
    .exact .inr (.inr (.inl g))
    .have g:w.aD+1<y.label/\_:=g
     exact .inr (.inr (.inr ⟨by omega,g.2⟩))
  .intro c
   rw[bp];exact m.goto a1
  .intro c
   rw[bp,nD (kg q) fun y b=>?_]
   .exact h.Xx c
   .rcases m.mem y b with h|h<;>rw[h]<;>omega
  .intro j c n
   rw[bp];refine p _ _ (h.head c) ?_;cases hxa:x.all (JB wd)
   .rw[af,h.head c]
    refine h.yes ?_ c n;unfold AU at j⊢;rw[il,hxa,mS]at j;exact j
   .exact h.Xx c
  .intro j c v n H
   unfold AU at j;rw[il,D2]at j;rw[bp];refine p _ _ (h.head c) ?_;rw[j.1,af,h.head c];exact h.no j.2 c v n H
def eu(wd:Int->Int)(a:Act):List Sp->Act
 |[]=>a
 |s::t=>bif AU wd s.cl then s.act else eu wd a t
structure ak6 (wd:Int->Int) (a:Act) (t:List Sp) (w w':Wr) (CZ:List Sy):Prop where
 l:w'.l=w.l++CZ
 up:w.aD<=w'.aD
 wE:w'.label=0
 cn:∀x∈CZ,x.label=0\/x.label=w.label\/(w.aD<x.label/\x.label<=w'.aD)
 head:∀rest,fC w.label (CZ++rest)=CZ++rest
 run:∀rest,r7 wd (CZ++rest) (qL (eu wd a t))
 one:t=[]->∀rest A,BS wd (CZ++rest) A (qL a) 1
def AW(a:Act):∀(t:List Sp)(w:Wr),(∀s∈t,s.cl≠[])->0<=w.label->w.label<=w.aD->∃e,ak6 wd a t w (rZ a t w) e
 |[],w,_,f,j=>by
  refine⟨[⟨w.label,0,0,6,qL a⟩],rfl,ez _,rfl,?_,fun c=>mM rfl,fun c A=>⟨_,.rt rfl⟩,fun _ c A=>.rt rfl⟩
  intro x b;simp at b;subst b;exact .inr (.inl rfl)
 |s::t,w,i,f,j=>by
  have m:=i s aX;obtain⟨e,h⟩:=IC (wd:=wd) s (w.aD+1) (w.aD+1+1) (by omega) (by omega) (by omega) s.cl 0 (dE (dE w)) m (ez 0) (by omega) f (by show w.label<=w.aD+1+1;omega) (by show w.label≠w.aD+1;omega) (by show w.label≠w.aD+1+1;omega) (by show w.aD+1<=w.aD+1+1;omega) (ez _)
  rw[rZ];have n:CS w s=w6 s (w.aD+1) (w.aD+1+1) s.cl 0 (dE (dE w)):=rfl;rw[<-n]at h;have o:w.aD+1+1<=(CS w s).aD:=h.up;obtain⟨p,g⟩:=AW a t (CS w s) (fun x b=>i x (aW _ b)) (by rw[h.wE];omega) (by rw[h.wE];exact o)
  have q:=g.up;have d:=g.head;rw[h.wE]at d;refine⟨e++p,?_,by omega,g.wE,?_,?_,?_,fun l=>by simp at l⟩
  .rw[g.l,h.l];simp[dE]
  .intro x b
   rcases bn.1 b with b|b
   .rcases h.cn x b with k|k|k|k
    .exact .inl k
    .exact .inr (.inl k)
    .exact .inr (.inr ⟨by omega,by omega⟩)
    .have k:w.aD+1+1<x.label/\_:=k
     exact .inr (.inr ⟨by omega,by omega⟩)
   .rcases g.cn x b with k|k|k
    .exact .inl k
    .rw[h.wE]at k;exact .inr (.inr ⟨by omega,by omega⟩)
    .exact .inr (.inr ⟨by omega,k.2⟩)
  .intro c
   rw[bp];exact h.head _
  .intro c
   rw[bp,eu];cases b:AU wd s.cl
   .exact h.no b _ _ (d c) (g.run c)
   .exact h.yes b _ (d c)
def fp:List Sn->Int->Int->Prop
 |[],a,b=>a=b
 |x::t,a,b=>x.lo=a/\x.lo<=x.hi/\fp t (x.hi+1) b
def pe:∀{l:List Sn}{a b:Int},fp l a b->a<=b/\∀x∈l,a<=x.lo/\x.hi<b
 |[],a,b,h=>⟨Int.le_of_eq h,by simp⟩
 |x::t,a,b,⟨f,g,d⟩=>by
  obtain⟨i,e⟩:=pe d;refine⟨by omega,fun y c=>?_⟩
  rcases aZ.1 c with rfl|c
  .exact⟨by omega,by omega⟩
  .have:=e y c;omega
def ua:∀{p q:List Sn}{a b:Int},fp (p++q) a b->∃m,fp p a m/\fp q m b
 |[],q,a,b,h=>⟨a,rfl,h⟩
 |x::p,q,a,b,⟨c,d,e⟩=>by
  obtain⟨m,f,g⟩:=ua e;exact⟨m,⟨c,d,f⟩,g⟩
structure ak7 (wd:Int->Int) (ls:List Sn) (w w':Wr) (CZ:List Sy):Prop where
 l:w'.l=w.l++CZ
 up:w.aD<=w'.aD
 wE:w'.label=0
 cn:∀x∈CZ,x.label=0\/x.label=w.label\/(w.aD<x.label/\x.label<=w'.aD)
 head:∀rest,fC w.label (CZ++rest)=CZ++rest
 run:∀a b,fp ls a b->∀x∈ls,∀nr,x.lo<=nr->nr<=x.hi->∀rest,∃c,BS wd (CZ++rest) nr (qL (eu wd x.act x.steps)) c/\(x.steps=[]->∀D,ls.length<=2^D->c<=1+2*D)
def r9:∀(n:Nat)(l:List Sn)(w:Wr),l≠[]->l.length<=n->(∀x∈l,∀s∈x.steps,s.cl≠[])->0<=w.label->w.label<=w.aD->∃Q,ak7 wd l w (fx n l w) Q
 |0,l,w,J,hn,_,_,_=>(J (hX.1 (by omega))).elim
 |n+1,l,w,J,hn,I,R,h1=>by
  rw[fx];cases hd:(l.length:Int)==1
  .have a1:1<=l.length:=by cases l with|nil=>exact(J rfl).elim|cons=>simp
   have a4:=gJ hd;have dl:(l.drop (l.length/2)).length=l.length-l.length/2:=iv ..;have Y:(l.take (l.length/2)).length=l.length/2:=by simp;omega
   have e:=uB (l.length/2) l;have H:∃y q,l.drop (l.length/2)=y::q/\l.getD (l.length/2) gO=y:=by
    have A:l.length/2<l.length:=by omega
    exact⟨l[l.length/2],_,uE A,by rw[bW,bo A];rfl⟩
   obtain⟨y,q,H,v⟩:=H;rw[v];generalize hp:l.take (l.length/2)=p at*;generalize hr:l.drop (l.length/2)=r at*;subst H;simp only[af];obtain⟨E,j⟩:=r9 n p (fo (dE w) (w.aD+1) 0 53 y.lo) (by intro h;rw[h]at Y;simp at Y;omega) (by omega) (fun x d=>I x (by rw[<-e];exact ea _ d)) (ez 0) (by show(0:Int)<=w.aD+1;omega)
   generalize a2:fx n p (fo (dE w) (w.aD+1) 0 53 y.lo)=w1 at*;have u1:w.aD+1<=w1.aD:=j.up;have a0:cD w1 (w.aD+1)={w1 with label:=w.aD+1}:=by rw[vE,j.wE];simp
   rw[a0];obtain⟨i,o⟩:=r9 n (y::q) {w1 with label:=w.aD+1} (by simp) (by omega) (fun x d=>I x (by rw[<-e];exact fw _ d)) (by show(0:Int)<=w.aD+1;omega) u1
   have u2:w1.aD<=_:=o.up;have l1:w1.l=(w.l++[⟨w.label,w.aD+1,0,53,y.lo⟩])++E:=j.l;refine⟨⟨w.label,w.aD+1,0,53,y.lo⟩::(E++i),?_,by omega,o.wE,?_,fun f=>mM rfl,?_⟩
   .rw[o.l];show w1.l++i=_;rw[l1];simp
   .intro x d
    rcases aZ.1 d with rfl|d
    .exact .inr (.inl rfl)
    .rcases bn.1 d with d|d
     .rcases j.cn x d with k|k|k
      .exact .inl k
      .exact .inl k
      .have k:w.aD+1<x.label/\_:=k
       exact .inr (.inr ⟨by omega,by omega⟩)
     .rcases o.cn x d with k|k|k
      .exact .inl k
      .have k:x.label=w.aD+1:=k
       exact .inr (.inr ⟨by omega,by omega⟩)
      .have k:w1.aD<x.label/\_:=k
       exact .inr (.inr ⟨by omega,k.2⟩)
   .intro a b u x d nr F Z f
    rw[<-e]at u d;obtain⟨m,T,G⟩:=ua u;have a3:y.lo=m:=G.1;have k1:=(pe T).2;have k2:=(pe G).2;have X:(E++i).append f=E++(i++f):=bp _ _ _;rcases bn.1 d with d|d
    .have:=k1 x d
     obtain⟨c,K,M⟩:=j.run _ _ T x d nr F Z (i++f);refine⟨c+2,.jp rfl ?_,fun g D t=>?_⟩
     .rw[show jc (53:Int) nr y.lo=false from bV (by omega),af,TC,X]
      exact K
     .cases D with
      |zero=>simp at t;omega
      |succ D=>have:=M g D (by rw[Nat.pow_succ]at t;omega);omega
    .have:=k2 x d
     obtain⟨c,K,M⟩:=o.run _ _ G x d nr F Z f;refine⟨c+2,.jp rfl ?_,fun g D t=>?_⟩
     .rw[show jc (53:Int) nr y.lo=true from bE (by omega),aj,X,nD (by show w.aD+1≠0;omega) fun z g=>?_]
      .rw[show fC (w.aD+1) (i++f)=i++f from o.head f];exact K
      .show z.label≠w.aD+1
       rcases j.cn z g with k|k|k
       .omega
       .have k:z.label=0:=k;omega
       .have k:w.aD+1<z.label/\_:=k;omega
     .cases D with
      |zero=>simp at t;omega
      |succ D=>have:=M g D (by rw[Nat.pow_succ]at t;omega);omega
  .match l,eq_of_beq hd with
   |[x],_=>
    obtain⟨Q,h⟩:=AW (wd:=wd) x.act x.steps w (I x aX) R h1;refine⟨Q,h.l,h.up,h.wE,h.cn,h.head,?_⟩;intro a b _ y v nr _ _ f;simp at v;subst v;by_cases g:y.steps=[]
    .have:=h.one g f nr
     refine⟨1,?_,fun _ D _=>by omega⟩
     rw[g];exact this
    .obtain⟨c,u⟩:=h.run f nr
     exact⟨c,u,fun h=>(g h).elim⟩
def nF:∀(l:List Sn)(n:Int),gb l n=true->fp l n 4294967296
 |[],n,h=>eq_of_beq h
 |x::t,n,h=>by
  unfold gb at h;cases h1:(bif x.lo !=n then true else decide (x.hi<x.lo))<;>rw[h1]at h
  .cases h2 : !CR x<;>rw[h2]at h
   .cases h3:x.lo !=n<;>rw[h3]at h1
    .exact⟨by simpa using h3,by have:=bI h1;omega,nF t _ h⟩
    .simp at h1
   .simp at h
  .simp at h
def TF(h:fB aq l=(syms,0))(i:∀x∈l,∀s∈x.steps,s.cl≠[])(e:wd 4=aq)(x:Sn)(b:x∈l)(n:x.lo<=wd 0)(m:wd 0<=x.hi):
  ∃c,BS wd syms 0 (qL (eu wd x.act x.steps)) c/\(x.steps=[]->∀D,l.length<=2^D->c<=5+2*D):=by
 unfold fB at h;cases hr : !gb l 0<;>rw[hr]at h
 .rw[af]at h
  have j:fo (cD (nS (fo (fo (dE ⟨[],0,0⟩) 0 0 32 4) 1 0 21 aq) ⟨1,0⟩) 1) 0 0 32 0=⟨[⟨0,0,0,32,4⟩,⟨0,1,0,21,aq⟩,⟨0,0,0,6,qL ⟨1,0⟩⟩,⟨1,0,0,32,0⟩],1,0⟩:=rfl;rw[j]at h;obtain⟨o,g⟩:=r9 (wd:=wd) l.length l ⟨[⟨0,0,0,32,4⟩,⟨0,1,0,21,aq⟩,⟨0,0,0,6,qL ⟨1,0⟩⟩,⟨1,0,0,32,0⟩],1,0⟩ (by rintro rfl;simp at b) (ar _) i (ez 0) (by show(0:Int)<=1;decide)
  have h:=(mP h).1;rw[g.l]at h;obtain⟨c,a,d⟩:=g.run _ _ (nF l 0 (by simpa using hr)) x b (wd 0) n m []
  rw[fa]at a;refine⟨c+1+2+1,?_,fun k D f=>by have:=d k D f;omega⟩
  rw[<-h];refine .ld rfl (.jp rfl ?_);rw[show jc (21:Int) (wd 4) aq=true by rw[e];exact beq_self_eq_true aq]
  exact .ld rfl a
 .have:=(mP h).2;simp at this
end
end Go.Ac.S4
end
