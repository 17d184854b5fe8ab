/-
Lemmas5
-/
import Derived.Test.YtifcddmbgnmnjaaGreatDoorPkD
set_option linter.all false
set_option autoImplicit true
set_option relaxedAutoImplicit true
section
namespace Go.Ac.S4
open Go Go.Proofs Go.Proofs.Tryz Go.Ac
open Go.IntKind (wrap)
open Int (toNat tdiv tmod fdiv)
open List (drop take replicate)
set_option maxRecDepth 100000
structure Da where
 nr:Int
 ao:Int
 ip:Int
 a0:Int
 a1:Int
 a2:Int
 a3:Int
 a4:Int
 a5:Int
abbrev Li(d:Da):AV:=.agg [W d.nr,W d.ao,U d.ip,U d.a0,U d.a1,U d.a2,U d.a3,U d.a4,U d.a5]
def j9(n:Int)(i:Nat):Int:=wrap .u8 (fdiv n (2^(min (toNat ((8:Int)*i)) (IntKind.bits .u64))))
def gG(n:Int):Nat->Nat->List Int
 |0,_=>[]
 |k+1,i=>j9 n i::gG n k (i+1)
def vK(a b:List Int):gj a++gj b=gj (a++b):=(bN ..).symm
def F2(z:List Int):(gj z).length=z.length:=al ..
def Zn(n:Int)(k:Nat)(e:k<=8):ak 242 [vU n,vN k] [] [.own 0 0 1 (gj (gG n k 0))] []:=by
 have key:∀(m i:Nat)(a:List Int),i+m=k->a.length=i->FV n (gj a) k i [.own 0 0 1 (gj (a++gG n m i))] []:=by
  intro m;induction m with
  |zero=>intro i a b _;apply S7;exact aw (bB (by omega)) (aZ (by simp[gG]))
  |succ m c=>
   intro i a b f;apply S7;refine bj (bw (by omega)) ⟨au,by omega,by simp[gj];omega,au,?_⟩
   have:=c (i+1) (a++[j9 n i]) (by omega) (by simp;omega)
   rw[bq]at this;rw[<-vK]at this;exact this
 apply aiE;exact key k 0 [] (by omega) rfl
def l6(d:Da):List Int:=gG d.nr 4 0++gG d.ao 4 0++gG d.ip 8 0++gG d.a0 8 0++gG d.a1 8 0++gG d.a2 8 0++gG d.a3 8 0++gG d.a4 8 0++gG d.a5 8 0
structure C4 (d:Da):Prop where
 nr:0<=d.nr/\d.nr<4294967296
 ao:0<=d.ao/\d.ao<4294967296
 ip:0<=d.ip/\d.ip<18446744073709551616
 a0:0<=d.a0/\d.a0<18446744073709551616
 a1:0<=d.a1/\d.a1<18446744073709551616
 a2:0<=d.a2/\d.a2<18446744073709551616
 a3:0<=d.a3/\d.a3<18446744073709551616
 a4:0<=d.a4/\d.a4<18446744073709551616
 a5:0<=d.a5/\d.a5<18446744073709551616
def kJ(a:0<=n)(b:n<18446744073709551616):wrap .u64 n=n:=by simp[wrap,IntKind.signed,IntKind.bits];omega
def dT(n:Int):∀k i,(gG n k i).length=k
 |0,_=>rfl
 |k+1,i=>by rw[gG,aD,dT n k]
def xa(d:Da):(l6 d).length=64:=by simp[l6,dT]
def aiJ(d:Da)(h:C4 d):ak 177 [Li d] [] [vL 1 (gj (l6 d))] []:=by
 have e:∀n,ak 242 [vU n,vN 8] [] [vL 1 (gj (gG n 8 0))] []:=fun n=>Go.Ac.ak.soft (Zn n 8 (by decide)) rfl
 have w:ak 177 [Li d] [] [.own 0 0 1 (gj (l6 d))] []:=by
  apply aiD;rw[kJ h.nr.1 (by have:=h.nr.2;omega),kJ h.ao.1 (by have:=h.ao.2;omega)]
  refine⟨_,Zn d.nr 4 (by decide),_,Go.Ac.ak.soft (Zn d.ao 4 (by decide)) rfl,?_,_,e d.ip,?_,?_⟩
  .simp[gj,dT]
  .simp[gj,dT]
  .rw[vK,vK]
   have a:∀(i:Nat)(b:List Int)(x:Int){r:List AV}{c:List Bx},i<6->b.length<=100->([U d.a0,U d.a1,U d.a2,U d.a3,U d.a4,U d.a5]:List PV)[i]?=some (U x)->AO (gj (b++gG x 8 0)) d.a0 d.a1 d.a2 d.a3 d.a4 d.a5 ((i:Int)+1) r c ->
     AO (gj b) d.a0 d.a1 d.a2 d.a3 d.a4 d.a5 i r c:=by
    intro i b x r c g j f K;apply S6;refine bj (bw (by omega)) ⟨x,⟨by omega,by omega⟩,f,_,e x,by simp[gj,dT];omega,au,?_⟩
    rw[vK];exact K
   refine a 0 _ d.a0 (by decide) (by simp[dT]) rfl (a 1 _ d.a1 (by decide) (by simp[dT]) rfl (a 2 _ d.a2 (by decide) (by simp[dT]) rfl (a 3 _ d.a3 (by decide) (by simp[dT]) rfl (a 4 _ d.a4 (by decide) (by simp[dT]) rfl (a 5 _ d.a5 (by decide) (by simp[dT]) rfl ?_)))))
   apply S6;exact aw rfl fi
 exact Go.Ac.ak.soft w rfl
def kK(d:Da)(off:Int):Int:=wrap .u32 (kS (((l6 d).take (off+4).toNat).drop off.toNat))
def vM(l:List Int)(a b:Nat):drop a (take b (gj l))=gj ((l.take b).drop a):=by simp[gj,iD,mV]
def aiK(d:Da)(h:C4 d)(off:Int)(a:0<=off)(b:off%4=0)(e:off<=60):ak 128 [Li d,vW off] [] [vW (kK d off),vB true] []:=by
 apply aiC;have c:tmod off 4=0:=by rw[pB a];exact b
 refine⟨by decide,aw (by rw[c];simp;omega) ⟨_,aiJ d h,?_⟩⟩
 rw[vD (n:=off+4) (by omega) (by omega),F2,xa,vM]
 refine⟨⟨a,by omega,by omega⟩,_,C58 _ ?_,aZ ?_⟩
 .rw[gY,oO,xa];omega
 .rfl
def Te(b:List Int):Da:=
 ⟨wrap .u32 (kS ((b.take 4).drop 0)),wrap .u32 (kS ((b.take 8).drop 4)),kS ((b.take 16).drop 8),kS ((b.take 24).drop 16),kS ((b.take 32).drop 24),kS ((b.take 40).drop 32),kS ((b.take 48).drop 40),kS ((b.take 56).drop 48),kS ((b.take 64).drop 56)⟩
def C34(b:List Int)(T:b.length=64):ak 34 [vL 1 (gj b)] [] [Li (Te b),vN 0] []:=by
 have e:∀(i j:Nat),ak 58 [vL 1 (gj ((b.take j).drop i))] [] [vU (kS ((b.take j).drop i))] []:=fun i j=>C58 _ (by rw[gY,oO];omega)
 have hlen:(gj b).length=64:=(F2 b).trans T;apply W34;rw[hlen];refine aw rfl ⟨⟨by omega,by omega,by omega⟩,_,by rw[vM];exact e 0 4,⟨by omega,by omega,by omega⟩,_,by rw[vM];exact e 4 8,⟨by omega,by omega,by omega⟩,_,by rw[vM];exact e 8 16,?_⟩
 have a:∀(i:Nat)(c o p q s t u v w x y z D E G H I J f g k l m n:Int){r:List AV}{h:List Bx},i<6 ->
   putAt ([vW x,vW y,vU z,vU D,vU E,vU G,vU H,vU I,vU J]:List AV) (3+i*1+0) [vU (kS ((b.take (24+8*i)).drop (16+8*i)))]=[vW x,vW y,vU z,vU f,vU g,vU k,vU l,vU m,vU n]->
   Ik (gj b) ((i:Int)+1) c o p q s t u v w x y z f g k l m n r h->Ik (gj b) i c o p q s t u v w x y z D E G H I J r h:=by
  intro i c o p q s t u v w x y z D E G H I J f g k l m n r h Y X K;apply WU;rw[hlen];have M:toNat ((16:Int)+((8:Int)*(i:Int)))=16+8*i:=by omega
  have Q:toNat ((24:Int)+((8:Int)*(i:Int)))=24+8*i:=by omega
  refine bj (bw (by omega)) ⟨au,au,au,au,⟨by omega,by omega,by omega⟩,_,?_,⟨by omega,by omega⟩,f,g,k,l,m,n,by omega,X,au,K⟩
  rw[M,Q,vM];exact e _ _
 refine a 0 _ _ _ _ _ _ _ _ _ _ _ _ _ _ _ _ _ _ _ _ _ _ _ _ (by decide) rfl (a 1 _ _ _ _ _ _ _ _ _ _ _ _ _ _ _ _ _ _ _ _ _ _ _ _ (by decide) rfl (a 2 _ _ _ _ _ _ _ _ _ _ _ _ _ _ _ _ _ _ _ _ _ _ _ _ (by decide) rfl (a 3 _ _ _ _ _ _ _ _ _ _ _ _ _ _ _ _ _ _ _ _ _ _ _ _ (by decide) rfl
  (a 4 _ _ _ _ _ _ _ _ _ _ _ _ _ _ _ _ _ _ _ _ _ _ _ _ (by decide) rfl (a 5 _ _ _ _ _ _ _ _ _ _ _ _ _ _ _ _ _ _ _ _ _ _ _ _ (by decide) rfl ?_)))))
 apply WU;exact aw rfl (aZ rfl)
def Vo(c a k:Int)(h:([4,20,36,52,68,84,164,100,116]:List Int).all (fun z => !(c==z))=true):ak 89 [vN c,vW a,vW k] [] [vW 0,vB false] []:=by
 simp only[bJ,mU,Bool.and_true,cd,gZ]at h;obtain⟨b,e,f,g,i,j,l,m,n⟩:=h;apply W89;exact aw b (aw e (aw f (aw g (aw i (aw j (aw l (aw m (aw n fi))))))))
def aiL(a k:Int):ak 89 [vN 84,vW a,vW k] [] [vW (Ip a k),vB true] []:=by
 apply W89;exact aw rfl (aw rfl (aw rfl (aw rfl (aw rfl (bj rfl fi)))))
def Tf(c a k:Int)(h:([21,37,53,69]:List Int).all (fun z => !(c==z))=true):ak 90 [vN c,vW a,vW k] [] [vB false,vB false] []:=by
 simp only[bJ,mU,Bool.and_true,cd,gZ]at h;obtain⟨b,e,f,g⟩:=h;apply W90;exact aw b (aw e (aw f (aw g fi)))
def ly(h:MO c=true):c=21\/c=37\/c=53:=by
 unfold MO at h;cases h1:c==21
 .cases h2:c==37
  .rw[h1,h2]at h
   exact .inr (.inr (bZ h))
  .exact .inr (.inl (bZ h2))
 .exact .inl (bZ h1)
def aiM(c a k:Int)(h:MO c=true):ak 90 [vN c,vW a,vW k] [] [vB (gE c a k),vB true] []:=by
 apply W90;rcases ly h with rfl|rfl|rfl
 .exact bj rfl fi
 .exact aw rfl (bj rfl fi)
 .exact aw rfl (aw rfl (bj rfl fi))
abbrev ms(A pc:Int)(d:Da):Bx:=K5 A 0 0 0 0 0 0 0 0 0 0 0 0 0 0 0 0 0 pc d.nr d.ao d.ip d.a0 d.a1 d.a2 d.a3 d.a4 d.a5
def Zo(d:Da)(h:C4 d)(A pc:Int)(x:In)(c:x.code=32)(a:0<=x.k)(b:x.k%4=0)(e:x.k<=60):ak 91 [.az 0 0,ML x] [ms A pc d] [vB true] [ms (kK d x.k) pc d]:=by
 apply W91;rw[c];exact aw rfl (aw rfl (aw rfl (aw rfl (aw rfl (aw rfl (aw rfl (aw rfl (bj rfl ⟨_,_,aiK d h x.k a b e,bj rfl fi⟩))))))))
def Vp(d:Da)(A pc:Int)(x:In)(a:x.code=135):ak 91 [.az 0 0,ML x] [ms A pc d] [vB true] [ms 0 pc d]:=by
 apply W91;rw[a];exact aw rfl (aw rfl (aw rfl (aw rfl (aw rfl (aw rfl (bj rfl fi))))))
structure WZ (x:In):Prop where
 k:0<=x.k/\x.k<4294967296
 jt:0<=x.jt/\x.jt<=255
 jf:0<=x.jf/\x.jf<=255
 ld:x.code=32->x.k%4=0/\x.k<=60
section
variable {d:Da} {A pc:Int} {x:In}
def F3(code k:Int)(f:0<=pc/\pc<=2^40)(i:∃c e,x.code=c/\x.k=e/\code=c/\k=e)(b:MQ x.code x.k A 0 0 0 0 0 0 0 0 0 0 0 0 0 0 0 0 0 (pc+1) d.nr d.ao d.ip d.a0 d.a1 d.a2 d.a3 d.a4 d.a5 x.code x.jt x.jf x.k r h)(a:([4,20,36,52,68,84,164,100,116]:List Int).all (fun z => !(x.code-8==z))=true)(g : -1000<=x.code/\x.code<=100000):ak 62 [.az 0 0,ML x] [ms A pc d] r h:=by
 apply W62;exact⟨au,au,_,_,Vo _ 1 1 a,aw rfl b⟩
end
def Vq(d:Da)(A pc:Int)(x:In)(b:0<=pc/\pc<=2^40)(a:x.code=84):ak 62 [.az 0 0,ML x] [ms A pc d] [vB true] [ms (Ip A x.k) (pc+1) d]:=by
 refine F3 84 x.k b ⟨_,_,a,rfl,rfl,rfl⟩ ?_ (by rw[a];decide) (by omega)
 rw[a];apply MR;exact⟨_,_,aiL A x.k,bj rfl fi⟩
def Iw(d:Da)(A B pc:Int)(x:In)(b:0<=pc/\pc<=2^40)(a:x.code=32\/x.code=135)(c:ak 91 [.az 0 0,ML x] [ms A (pc+1) d] [vB true] [ms B (pc+1) d]):ak 62 [.az 0 0,ML x] [ms A pc d] [vB true] [ms B (pc+1) d]:=by
 refine F3 x.code x.k b ⟨_,_,rfl,rfl,rfl,rfl⟩ ?_ (by rcases a with h|h<;>rw[h]<;>decide) (by omega)
 apply MR;exact⟨_,_,Vo x.code A x.k (by rcases a with h|h<;>rw[h]<;>decide),aw rfl ⟨au,_,_,Tf (x.code-8) 0 0 (by rcases a with h|h<;>rw[h]<;>decide),aw rfl ⟨_,_,Tf x.code A x.k (by rcases a with h|h<;>rw[h]<;>decide),aw rfl
  (aw (by rcases a with h|h<;>rw[h]<;>rfl) ⟨_,_,_,_,_,_,_,_,_,_,_,_,_,_,_,_,_,_,_,c,fi⟩)⟩⟩⟩
def Zp(d:Da)(A pc:Int)(x:In)(b:0<=pc/\pc<=2^40)(a:x.code=5)(c:WZ x):ak 62 [.az 0 0,ML x] [ms A pc d] [vB true] [ms A (pc+1+x.k) d]:=by
 have:=c.k;refine F3 5 x.k b ⟨_,_,a,rfl,rfl,rfl⟩ ?_ (by rw[a];decide) (by omega)
 rw[a];apply MR;rw[om (n:=x.k) (by omega) (by omega)]
 exact⟨_,_,Vo 5 A x.k (by decide),aw rfl ⟨au,_,_,Tf (5-8) 0 0 (by decide),aw rfl ⟨_,_,Tf 5 A x.k (by decide),aw rfl (bj rfl ⟨au,fi⟩)⟩⟩⟩
def Zq(d:Da)(A pc:Int)(x:In)(e:0<=pc/\pc<=2^40)(b:MO x.code=true)(c:WZ x):ak 62 [.az 0 0,ML x] [ms A pc d] [vB true] [ms A (pc+1+(bif gE x.code A x.k then x.jt else x.jf)) d]:=by
 have g:=c.jt;have f:=c.jf;have a:=ly b;refine F3 x.code x.k e ⟨_,_,rfl,rfl,rfl,rfl⟩ ?_ (by rcases a with h|h|h<;>rw[h]<;>decide) (by omega)
 apply MR;exact⟨_,_,Vo x.code A x.k (by rcases a with h|h|h<;>rw[h]<;>decide),aw rfl ⟨au,_,_,Tf (x.code-8) 0 0 (by rcases a with h|h|h<;>rw[h]<;>decide),aw rfl ⟨_,_,aiM x.code A x.k b,bj rfl
  (ad (fun h=>⟨au,bE rfl (by rw[h];rfl)⟩) fun h=>⟨au,bE rfl (by rw[h];rfl)⟩)⟩⟩⟩
def C61(d:Da)(A pc:Int)(x:In)(a:(x.code==22)=false)(b:(x.code==60)=false):ak 61 [.az 0 0,ML x] [ms A pc d] [vW (bif x.code==6 then x.k else 0),vB (x.code==6)] [ms A pc d]:=by
 apply W61;exact ad (fun h=>aZ (by rw[h];rfl)) fun h=>aw a (aZ (by rw[h,b];rfl))
def Lj(l:List In)(d:Da)(z:C4 d)(M:l.length<=4096)(q:∀x∈l,WZ x)(H:iB (kK d) t A v m):∀(i n:Nat),l.drop i=t->n+m<=4096 ->
  C3 (l.map In.row) n A 0 0 0 0 0 0 0 0 0 0 0 0 0 0 0 0 0 i d.nr d.ao d.ip d.a0 d.a1 d.a2 d.a3 d.a4 d.a5 [vW v,vN ((n+m:Nat):Int),vB true] []:=by
 have u:(l.map In.row).length=l.length:=al ..;have step:∀{x:In}{t:List In}{A v B:Int}{m:Nat}{i n j:Nat},l.drop i=x::t->n+(m+1)<=4096->(x.code==22)=false->(x.code==60)=false->(x.code==6)=false->ak 62 [.az 0 0,ML x] [ms A i d] [vB true] [ms B j d]->
   C3 (l.map In.row) ((n:Int)+1) B 0 0 0 0 0 0 0 0 0 0 0 0 0 0 0 0 0 j d.nr d.ao d.ip d.a0 d.a1 d.a2 d.a3 d.a4 d.a5 [vW v,vN ((n+1+m:Nat):Int),vB true] []->
   C3 (l.map In.row) n A 0 0 0 0 0 0 0 0 0 0 0 0 0 0 0 0 0 i d.nr d.ao d.ip d.a0 d.a1 d.a2 d.a3 d.a4 d.a5 [vW v,vN ((n+(m+1):Nat):Int),vB true] []:=by
  intro x t A v B m i n j b f D E y r K;obtain⟨c,e,o⟩:=bM b;have p:=C61 d A i x D E;rw[y]at p;apply WY;rw[u];refine bj (bw (by omega)) (aw (by rw[bB (by omega),af];exact bB (by omega)) ⟨x.code,x.jt,x.jf,x.k,by omega,aP c,_,_,p,aw rfl ⟨_,_,_,_,_,_,_,_,_,_,_,_,_,_,_,_,_,_,_,_,r,aw rfl ⟨au,?_⟩⟩⟩)
  rw[show n+(m+1)=n+1+m by omega]
  exact K
 induction H with
 |@ld x t A v m a _ k=>
  intro i n b f;obtain⟨c,e,o⟩:=bM b;have g:=q x (aK c);have w:=g.ld a;exact step (j:=i+1) b f (by rw[a];rfl) (by rw[a];rfl) (by rw[a];rfl) (Iw d A _ i x ⟨by omega,by omega⟩ (.inl a) (Zo d z A _ x a g.k.1 w.1 w.2)) (k (i+1) (n+1) e (by omega))
 |@an x t A v m a _ k=>
  intro i n b f;obtain⟨c,e,o⟩:=bM b;exact step (j:=i+1) b f (by rw[a];rfl) (by rw[a];rfl) (by rw[a];rfl) (Vq d A i x ⟨by omega,by omega⟩ a) (k (i+1) (n+1) e (by omega))
 |@tx x t A v m a _ k=>
  intro i n b f;obtain⟨c,e,o⟩:=bM b;exact step (j:=i+1) b f (by rw[a];rfl) (by rw[a];rfl) (by rw[a];rfl) (Iw d A _ i x ⟨by omega,by omega⟩ (.inr a) (Vp d A _ x a)) (k (i+1) (n+1) e (by omega))
 |@rt x t A a=>
  intro i n b f;obtain⟨c,e,o⟩:=bM b;have p:=C61 d A i x (by rw[a];rfl) (by rw[a];rfl)
  rw[show(x.code==6)=true by rw[a];rfl]at p
  apply WY;rw[u];exact bj (bw (by omega)) (aw (by rw[bB (by omega),af];exact bB (by omega)) ⟨x.code,x.jt,x.jf,x.k,by omega,aP c,_,_,p,bj rfl ⟨au,aZ rfl⟩⟩)
 |@ja x t A v m a G k=>
  intro i n b f;obtain⟨c,e,o⟩:=bM b;have g:=q x (aK c);have T:=g.k;have K:=k (i+1+x.k.toNat) (n+1) (by rw[<-e,eC]) (by omega)
  have cs:=Zp d A i x ⟨by omega,by omega⟩ a g
  rw[show(i:Int)+1+x.k=((i+1+x.k.toNat:Nat):Int) by omega]at cs
  exact step b f (by rw[a];rfl) (by rw[a];rfl) (by rw[a];rfl) cs K
 |@jp x t A v m a G k=>
  intro i n b f;obtain⟨c,e,o⟩:=bM b;have g:=q x (aK c);have Q:=g.jt;have J:=g.jf;have K:=k (i+1+(bif gE x.code A x.k then x.jt else x.jf).toNat) (n+1) (by rw[<-e,eC]) (by omega)
  have cs:=Zq d A i x ⟨by omega,by omega⟩ a g
  have I:0<=(bif gE x.code A x.k then x.jt else x.jf):=by cases gE x.code A x.k<;>simp only[ai,af]<;>omega
  generalize(bif gE x.code A x.k then x.jt else x.jf)=j at*;rw[show(i:Int)+1+j=((i+1+j.toNat:Nat):Int) by omega]at cs
  have s:=ly a;exact step b f (by rcases s with h|h|h<;>rw[h]<;>rfl) (by rcases s with h|h|h<;>rw[h]<;>rfl) (by rcases s with h|h|h<;>rw[h]<;>rfl) cs K
def C36(l:List In)(d:Da)(a:C4 d)(c:l.length<=4096)(b:∀x∈l,WZ x)(H:iB (kK d) l 0 v m):ak 36 [vL 4 (l.map In.row),Li d] [] [vW v,vN m,vB true] []:=by
 apply W36;have:=Lj l d a c b H 0 0 rfl (by have:=H.len;omega)
 rw[cv]at this;exact this
section
variable {wd:Int->Int}
def kc(a:Act):∀(p q:List Sp),fS wd a (p++q)=fS wd (fS wd a q) p
 |[],q=>rfl
 |s::p,q=>by rw[dt,fS,fS,kc a p q]
def Ix(h:oj a=true):FZ wd a=true:=by
 obtain⟨c,d,b⟩:=mY.1 h;refine mY.2 ⟨c,d,?_⟩;have:c=[]:=ir.1 (by have:=bZ b;omega)
 rw[this];rfl
def OU(a:Act)(l:List Sp)(s:Sp):fS wd a (mI l s)=fS wd a (l++[s]):=by
 unfold mI;cases h0:(s.cl.length:Int)==0
 .rw[af]
  cases hl:decide ((l.length:Int)>0)
  .rfl
  .rw[ai]
   cases he:oj (l.getLastD ⟨[],⟨0,0⟩⟩).cl
   .rfl
   .rw[ai]
    have c:l≠[]:=by intro h;rw[h]at hl;simp at hl
    have e:l=l.dropLast++[l.getLastD ⟨[],⟨0,0⟩⟩]:=by
     have:=(yP c).symm;rw[kq,jH c];exact this
    have d:=Ix (wd:=wd) he;have k:∀b,fS wd b [l.getLastD ⟨[],⟨0,0⟩⟩]=(l.getLastD ⟨[],⟨0,0⟩⟩).act:=fun b=>by rw[fS,d];rfl
    rw[kc a l [s]];generalize l.getLastD ⟨[],⟨0,0⟩⟩=z at*;rw[e,kc,kc,k,k]
 .have:s.cl=[]:=ir.1 (by have:=bZ h0;omega)
  rw[ai,kc,fS,this];rfl
def uj(nr:Int)(a:List Bd):List Sp:=(a.filter fun b=>nr==b.nr).map fun b=>⟨(cA b.cond).1,b.act⟩
def eH(m:List Mk)(nr:Int):List Sp:=((gF m nr).map (·.2)).getD []
def AX(x:Mk)(k:Int):∀(m:List Mk),gF (pe x m) k=bif k==x.1 then some x else gF m k
 |[]=>by
  unfold pe gF;rw[cp];cases k==x.1<;>rfl
 |y::m=>by
  have a:=AX x k m;unfold pe;unfold gF at a⊢;cases h:x.1==y.1
  .rw[af,cp,cp,a]
   cases h2:k==y.1
   .rfl
   .cases h3:k==x.1
    .rfl
    .rw[bZ h2]at h3
     have:=bZ h3;rw[this]at h;simp at h
  .rw[ai,cp,cp]
   have e:=bZ h;rw[<-e];cases k==x.1<;>rfl
def AY:∀(d:List Bd)(m c:List Mk),cE d m = .ok c->∀nr a,fS wd a (eH c nr)=fS wd a (eH m nr++uj nr d)
 |[],m,c,h,nr,a=>by
  have:m=c:=by simpa[cE]using h
  rw[this,show uj nr []=[]from rfl,fr]
 |b::t,m,c,h,nr,a=>by
  unfold cE at h;cases h1 : !(cg b.act).2<;>rw[h1]at h
  .cases h2:(cA b.cond).2 !=0<;>rw[h2]at h
   .rw[af,af]at h
    rw[AY t _ _ h nr a];unfold eH uj;rw[AX,List.filter_cons];cases hk:nr==b.nr
    .rfl
    .rw[ai,aG rfl,bG]
     rw[show(Option.map (fun x:Mk=>x.2) (some (b.nr,mI ((Option.map (fun x:Mk=>x.2) (gF m b.nr)).getD []) ⟨(cA b.cond).1,b.act⟩))).getD []=mI ((Option.map (fun x:Mk=>x.2) (gF m b.nr)).getD []) ⟨(cA b.cond).1,b.act⟩from rfl]
     rw[kc,OU,<-kc,bq,bZ hk];rfl
   .simp at h
  .simp at h
def Vr(h:∀x∈l,x.cl≠[]):∀x∈mI l s,x.cl≠[]:=by
 unfold mI;cases h0:(s.cl.length:Int)==0
 .have c:s.cl≠[]:=by intro b;rw[b]at h0;simp at h0
  have a:∀x∈l++[s],x.cl≠[]:=fun x a=>by
   rcases bp.1 a with a|a
   .exact h x a
   .simp at a;subst a;exact c
  rw[af];cases decide ((l.length:Int)>0)
  .exact a
  .cases oj (l.getLastD ⟨[],⟨0,0⟩⟩).cl
   .exact a
   .exact h
 .exact h
structure Vs (bs:List Bd) (m m':List Mk):Prop where
 nodup:(m'.map (·.1)).Nodup
 keys:∀k∈m'.map (·.1),k∈m.map (·.1)\/∃b∈bs,b.nr=k
 ne:∀y∈m',∀s∈y.2,s.cl≠[]
def se:∀(j:List Bd)(m d:List Mk),cE j m = .ok d->(m.map (·.1)).Nodup->(∀y∈m,∀s∈y.2,s.cl≠[])->Vs j m d
 |[],m,d,h,g,f=>by
  have:m=d:=by simpa[cE]using h
  subst this;exact⟨g,fun k c=>.inl c,f⟩
 |b::t,m,d,h,g,f=>by
  unfold cE at h;cases h1 : !(cg b.act).2<;>rw[h1]at h
  .cases h2:(cA b.cond).2 !=0<;>rw[h2]at h
   .rw[af,af]at h
    have o:∀s∈eH m b.nr,s.cl≠[]:=by
     unfold eH;cases hg:gF m b.nr with
     |none=>simp
     |some y=>exact f y (l5 hg).1
    have c:∀k∈(pe (b.nr,mI (eH m b.nr) ⟨(cA b.cond).1,b.act⟩) m).map (·.1),k∈m.map (·.1)\/k=b.nr:=fun k c=>by
     obtain⟨y,a,rfl⟩:=bh.1 c;rcases l4 a with rfl|a
     .exact .inr rfl
     .exact .inl (DR a)
    have i:=se t _ _ h (tU g) fun y a=>by
     rcases l4 a with rfl|a
     .exact Vr o
     .exact f y a
    refine⟨i.nodup,fun k n=>?_,i.ne⟩
    rcases i.keys k n with h|⟨b',l,e⟩
    .rcases c k h with h|rfl
     .exact .inl h
     .exact .inr ⟨b,aW,rfl⟩
    .exact .inr ⟨b',aV _ l,e⟩
   .simp at h
  .simp at h
def Iy:∀{l:List Int},l.Pairwise (· < ·)->n∉l->(nR n l).Pairwise (· < ·)
 |[],_,_=>by simp[nR]
 |m::l,h,d=>by
  obtain⟨c,f⟩:=lF.1 h;unfold nR;have i:n≠m:=fun e=>d (by rw[e];exact aW)
  cases hd:decide (n<=m)
  .have:=bI hd
   rw[af];refine lF.2 ⟨fun k b=>?_,Iy f fun h=>d (aV _ h)⟩
   have:∀(l:List Int)k,k∈nR n l->k=n\/k∈l:=by
    intro l;induction l with
    |nil=>intro k b;simp[nR]at b;exact .inl b
    |cons a l g=>
     intro k b;unfold nR at b;cases hd:decide (n<=a)<;>rw[hd]at b
     .rcases aY.1 b with rfl|b
      .exact .inr aW
      .rcases g k b with h|h
       .exact .inl h
       .exact .inr (aV _ h)
     .rcases aY.1 b with rfl|b
      .exact .inl rfl
      .exact .inr b
   rcases this l k b with rfl|b
   .omega
   .exact c k b
  .have:=aU hd
   rw[ai];refine lF.2 ⟨fun k b=>?_,h⟩
   rcases aY.1 b with rfl|b
   .omega
   .have:=c k b;omega
def Db:∀{l:List Int},l.Nodup->(gx l).Pairwise (· < ·)
 |[],_=>List.Pairwise.nil
 |n::l,h=>by
  obtain⟨a,b⟩:=gX.1 h;exact Iy (Db b) fun c=>a ((sY l n).1 c)
def Tg(f:Int->Ch)(a:∀k,(f k).nr=k):∀(c:List Int)(n:Int),0<=n->n<=4294967296->(∀k∈c,n<=k/\k<4294967296)->c.Pairwise (· < ·)->La n (c.map f)
 |[],n,b,d,_,_=>⟨b,d⟩
 |k::t,n,b,d,e,i=>by
  obtain⟨l,m⟩:=lF.1 i;have:=e k aW;refine⟨b,by rw[a];omega,by rw[a];omega,?_⟩
  rw[a];exact Tg f a t (k+1) (by omega) (by omega) (fun j g=>⟨by have:=l j g;omega,(e j (aV _ g)).2⟩) m
def pn(h:cE a []=.ok m)(d:∀b∈a,0<=b.nr/\b.nr<4294967296):La 0 (bO m):=by
 have ok:=se a [] m h (by simp) (by simp)
 refine Tg _ (fun k=>rfl) _ 0 (by omega) (by omega) (fun k e=>?_) (Db ok.nodup)
 rcases ok.keys k ((sY _ k).1 e)with h|⟨b,c,rfl⟩
 .simp at h
 .exact d b c
def MS{f:α->α->Bool}(d:∀x y,f x y=true->x=y):∀{a b:List α},a.length=b.length->H7 f a b=true->a=b
 |[],[],_,_=>rfl
 |[],y::b,h,_=>by simp at h
 |x::a,[],h,_=>by simp at h
 |x::a,y::b,h,c=>by
  unfold H7 at c;cases hxy:f x y<;>rw[hxy]at c
  .simp at c
  .rw[d x y hxy,MS d (by simpa using h) c]
def Ll(c:∀x y,f x y=true->x=y)(h:Jr f a b=true):a=b:=by
 unfold Jr at h;cases hl:(a.length:Int) !=(b.length:Int)<;>rw[hl]at h
 .exact MS c (by simp at hl;omega) h
 .simp at h
def Vt(x y:Hf)(h:tQ x y=true):x=y:=by
 obtain⟨a,o,g,m,v⟩:=x;obtain⟨a',o',i,j,k⟩:=y;simp[tQ]at h;obtain⟨⟨⟨⟨b,c⟩,d⟩,e⟩,f⟩:=h;rw[b,c,d,e,f]
def Th(x y:Sp)(h:AA x y=true):x=y:=by
 unfold AA at h;obtain⟨e,g⟩:=cn (b:=((true&&(x.act.kind==y.act.kind))&&(x.act.data==y.act.data))) h;have f:=Ll (fun a b=>Ll Vt) g
 obtain⟨c,k,d⟩:=x;obtain⟨i,l,j⟩:=y;simp at e f;rw[e.1,e.2,f]
def OV(h:oG x y=true):x.steps=y.steps/\x.act=y.act:=by
 unfold oG at h;obtain⟨a,c⟩:=cn (b:=((true&&(x.act.kind==y.act.kind))&&(x.act.data==y.act.data))) h;refine⟨Ll Th c,?_⟩;simp at a;obtain⟨_,_,_,k,d⟩:=x;obtain⟨_,_,_,f,e⟩:=y;simp at a;rw[a.1,a.2]
def sf:∀{p q:List Sn}{a m b:Int},fA p a m->fA q m b->fA (p++q) a b
 |[],q,a,m,b,h,g=>by rw[show a=m from h];exact g
 |x::p,q,a,m,b,⟨c,d,e⟩,g=>⟨c,d,sf e g⟩
def xM:∀{l:List Sn}{a b:Int},fA l a b->∀nr,a<=nr->nr<b->∃x∈l,x.lo<=nr/\nr<=x.hi
 |[],a,b,h,nr,c,d=>by have:a=b:=h;omega
 |x::t,a,b,⟨c,d,e⟩,nr,j,f=>by
  by_cases g:nr<=x.hi
  .exact⟨x,aW,by omega,g⟩
  .obtain⟨y,i,k⟩:=xM e nr (by omega) f
   exact⟨y,aV _ i,k⟩
def AZ(F:Int->List Sp×Act)(l:List Sn):Prop:=∀x∈l,∀nr,x.lo<=nr->nr<=x.hi->F nr=(x.steps,x.act)
def xb(h:fA a 0 x.lo)(g:AZ F a)(u:x.lo<=x.hi)(i:∀nr,x.lo<=nr->nr<=x.hi->F nr=(x.steps,x.act)):fA (addN a x) 0 (x.hi+1)/\AZ F (addN a x)/\(addN a x).length<=a.length+1:=by
 have plain:fA (a++[x]) 0 (x.hi+1)/\AZ F (a++[x])/\(a++[x]).length<=a.length+1:=by
  refine⟨sf h ⟨rfl,u,rfl⟩,fun y b=>?_,by simp⟩
  rcases bp.1 b with b|b
  .exact g y b
  .simp at b;subst b;exact i
 unfold addN;cases hd:decide ((a.length:Int)-1>=0)
 .exact plain
 .rw[ai]
  cases ha:oG (a.getLastD hH) x
  .exact plain
  .rw[ai]
   have f:=aU hd;have k:a≠[]:=by intro h;rw[h]at f;simp at f
   have e:a=a.dropLast++[a.getLastD hH]:=by
    have:=(yP k).symm;rw[kq,jH k];exact this
   have hlen:a.dropLast.length<=a.length:=by rw[List.length_dropLast];omega
   generalize v:a.getLastD hH=z at*;generalize a.dropLast=p at*;subst e;obtain⟨l,n⟩:=OV ha;obtain⟨m,o,q⟩:=uf h;obtain⟨t,w,j⟩:=q;have j:z.hi+1=x.lo:=j;refine⟨sf o ⟨t,by show z.lo<=x.hi;omega,rfl⟩,fun y b=>?_,by simp⟩
   rcases bp.1 b with b|b
   .exact g y (ef _ b)
   .simp at b;subst b
    intro nr c d;have d:nr<=x.hi:=d;have c:z.lo<=nr:=c;by_cases s:nr<=z.hi
    .exact g z (fD _ (by simp)) nr c s
    .show F nr=(z.steps,z.act)
     rw[l,n];exact i nr (by omega) d
def sh(a:List Ch)(d:Act)(nr:Int):List Sp×Act:=match a.find? fun c=>nr==c.nr with
 |some c=>((ie c d).steps,(ie c d).act)
 |none=>([],d)
def Iz:∀{a:List Ch}{n:Int},La n a->∀nr,nr<n->a.find? (fun c=>nr==c.nr)=none
 |[],n,_,nr,_=>rfl
 |c::t,n,⟨_,d,_,b⟩,nr,h=>by
  rw[cp,show(nr==c.nr)=false by rw[gk];omega]
  exact Iz b nr (by omega)
def Vu(c:Ch)(d:Act):(ie c d).lo=c.nr/\(ie c d).hi=c.nr:=by
 unfold ie;cases decide ((c.steps.length:Int)-1>=0)
 .exact⟨rfl,rfl⟩
 .cases oj (c.steps.getLastD tV).cl<;>exact⟨rfl,rfl⟩
def po(F:Int->List Sp×Act)(d:Act):∀(j:List Ch)(n:Int)(f:List Sn),La n j->fA f 0 n->AZ F f->(∀nr,n<=nr->F nr=sh j d nr)->
  fA (x6 d j n f) 0 4294967296/\AZ F (x6 d j n f)/\(x6 d j n f).length<=f.length+2*j.length+1
 |[],n,f,⟨D,o⟩,g,i,k=>by
  unfold x6;cases hd:decide (n<=4294967295)
  .have:=bI hd
   have e:n=4294967296:=by omega
   rw[e]at g;exact⟨g,i,by show f.length<=_;omega⟩
  .have:=aU hd
   obtain⟨l,m,y⟩:=xb (x:=⟨n,4294967295,[],d⟩) g i this fun nr o _=>k nr o
   exact⟨l,m,by show(addN f _).length<=_;simp only[cS];omega⟩
 |c::t,n,f,⟨D,o,I,q⟩,g,i,k=>by
  obtain⟨v,w⟩:=Vu c d;have H:F c.nr=((ie c d).steps,(ie c d).act):=by
   rw[k c.nr o,sh,cp,beq_self_eq_true]
  have r:∀nr,c.nr+1<=nr->F nr=sh t d nr:=fun nr h=>by
   rw[k nr (by omega),sh,sh,cp,show(nr==c.nr)=false by rw[gk];omega]
  have z:∀f,fA f 0 c.nr->AZ F f->fA (addN f (ie c d)) 0 (c.nr+1)/\AZ F (addN f (ie c d))/\(addN f (ie c d)).length<=f.length+1:=by
   intro f g i;have:=xb (x:=ie c d) (by rw[v];exact g) i (by rw[v,w];exact eA _) fun nr a b=>by
    rw[v]at a;rw[w]at b;rw[show nr=c.nr by omega];exact H
   rw[w]at this;exact this
  rw[x6];cases hd:decide (c.nr>n)
  .have:=bI hd
   have e:n=c.nr:=by omega
   obtain⟨l,m,y⟩:=z f (by rw[<-e];exact g) i
   obtain⟨s,u,E⟩:=po F d t (c.nr+1) _ q l m r;exact⟨s,u,by rw[af];simp only[aD];omega⟩
  .have:=aU hd
   obtain⟨p,G,J⟩:=xb (x:=⟨n,c.nr-1,[],d⟩) g i (by show n<=c.nr-1;omega) fun nr a b=>by
    have a:n<=nr:=a;have b:nr<=c.nr-1:=b;rw[k nr a,sh,cp,show(nr==c.nr)=false by rw[gk];omega,Iz q nr (by omega)]
   have p:fA _ 0 (c.nr-1+1):=p;rw[Int.sub_add_cancel]at p;obtain⟨l,m,y⟩:=z _ p G;obtain⟨s,u,E⟩:=po F d t (c.nr+1) _ q l m r;exact⟨s,u,by rw[ai];simp only[aD];omega⟩
def Ti(c:Ch)(d:Act):fS wd (ie c d).act (ie c d).steps=fS wd d c.steps:=by
 unfold ie;cases hd:decide ((c.steps.length:Int)-1>=0)
 .rfl
 .cases he:oj (c.steps.getLastD tV).cl
  .rfl
  .have a:=aU hd
   have b:c.steps≠[]:=by intro h;rw[h]at a;simp at a
   have e:c.steps=c.steps.dropLast++[c.steps.getLastD tV]:=by
    have:=(yP b).symm;rw[kq,jH b];exact this
   show fS wd (c.steps.getLastD tV).act c.steps.dropLast=fS wd d c.steps
   have f:=Ix (wd:=wd) he;generalize c.steps.getLastD tV=z at*;generalize g:c.steps.dropLast=p at*;rw[e,kc,fS,f];rfl
def si(f:Int->Ch)(a:∀k,(f k).nr=k)(nr:Int):∀(b:List Int),(b.map f).find? (fun c=>nr==c.nr)=bif b.any (nr == ·)then some (f nr)else none
 |[]=>rfl
 |k::t=>by
  rw[bG,cp,a,kj,si f a nr t];cases h:nr==k
  .rfl
  .rw[bZ h];rfl
def OW(h:(m.map (·.1)).any (nr == ·)=false):gF m nr=none:=by
 unfold gF;rw[List.find?_eq_none];intro x a;have:=List.any_eq_false.1 h x.1 (DR a);exact this
def Tj(m:List Mk)(d:Act)(nr:Int):fS wd (sh (bO m) d nr).2 (sh (bO m) d nr).1=fS wd d (eH m nr):=by
 have e:=si (fun k=>⟨k,((gF m k).map (·.2)).getD []⟩) (fun k=>rfl) nr (gx (m.map (·.1)))
 have e:(bO m).find? (fun c=>nr==c.nr)=_:=e
 unfold sh;rw[e];cases ha:(gx (m.map (·.1))).any (nr == ·)
 .rw[af]
  have:(m.map (·.1)).any (nr == ·)=false:=by
   rw[List.any_eq_false]at ha⊢;exact fun k a=>ha k ((sY _ k).2 a)
  rw[eH,OW this];rfl
 .exact Ti _ d
def Lm(d:Act)(h:cE c []=.ok m)(g:∀b∈c,0<=b.nr/\b.nr<4294967296):∀x∈cC (bO m) d,∀nr,x.lo<=nr->nr<=x.hi->fS wd x.act x.steps=fS wd d (uj nr c):=by
 obtain⟨_,f,_⟩:=po (sh (bO m) d) d (bO m) 0 [] (pn h g) rfl (fun x e=>by simp at e) fun _ _=>rfl
 intro x e nr a b;have:=f x e nr a b;have k:=Tj (wd:=wd) m d nr;rw[this]at k;rw[k,AY c [] m h nr d];rfl
def kL(d:Act)(h:cE a []=.ok m)(f:∀b∈a,0<=b.nr/\b.nr<4294967296):fA (cC (bO m) d) 0 4294967296/\(cC (bO m) d).length<=2*m.length+1:=by
 obtain⟨e,_,c⟩:=po (sh (bO m) d) d (bO m) 0 [] (pn h f) rfl (fun x g=>by simp at g) fun _ _=>rfl
 refine⟨e,?_⟩;rw[show(bO m).length=m.length by unfold bO;rw[al,wZ,al]]at c
 simpa[cC]using c
def Vv(h:∀s∈c.steps,s.cl≠[]):∀s∈(ie c d).steps,s.cl≠[]:=by
 unfold ie;cases decide ((c.steps.length:Int)-1>=0)
 .exact h
 .cases oj (c.steps.getLastD tV).cl
  .exact h
  .exact fun s a=>h s (uC _ a)
def Tk(d:Act)(h:cE g []=.ok m)(o:∀b∈g,0<=b.nr/\b.nr<4294967296):∀x∈cC (bO m) d,∀s∈x.steps,s.cl≠[]:=by
 obtain⟨j,n,_⟩:=po (sh (bO m) d) d (bO m) 0 [] (pn h o) rfl (fun x f=>by simp at f) fun _ _=>rfl
 have ok:=se g [] m h (by simp) (by simp)
 intro x f;have q:x.lo<=x.hi:=by
  have:∀(l:List Sn)(a b:Int),fA l a b->∀x∈l,x.lo<=x.hi:=by
   intro l;induction l with
   |nil=>intro a b _ x f;simp at f
   |cons y l p=>
    intro a b h x f;rcases aY.1 f with rfl|f
    .exact h.2.1
    .exact p _ _ h.2.2 x f
  exact this _ _ _ j x f
 have e:=n x f x.lo (eA _) q;have i:(sh (bO m) d x.lo).1=x.steps:=by rw[e]
 rw[<-i];unfold sh;cases hf:(bO m).find? fun c=>x.lo==c.nr with
 |none=>simp
 |some c=>
  refine Vv ?_;obtain⟨k,_,rfl⟩:=bh.1 (mB hf);show∀s∈eH m k,s.cl≠[]
  unfold eH;cases hg:gF m k with
  |none=>simp
  |some y=>exact ok.ne y (l5 hg).1
end
structure Vw (bs:List Bd):Prop where
 len:bs.length<=2^13
 sz:∀b∈bs,ew b.cond<=2^10
 nr:∀b∈bs,0<=b.nr/\b.nr<4294967296
def Dc(n:Nat):∀(l:List (List At))(b:List (List Hf)),(∀x∈l,x.length<=n)->(∀x∈b,x.length<=2*n)->∀x∈(mi l b).1,x.length<=2*n
 |[],b,_,c=>fun x a=>by
  have a:x∈tS b:=a;exact(Aw b c).2 x ((vA (gI b) 0).2 x a)
 |y::t,b,d,c=>by
  unfold mi;cases(bif !(dc y [[]]).2 then true else decide (((b++(dc y [[]]).1).length:Int)>256))
  .refine Dc n t _ (fun x a=>d x (aV _ a)) fun x a=>?_
   rcases bp.1 a with a|a
   .exact c x a
   .have e:=(tT y [[]] 0 ⟨by simp,by simp⟩).each x a
    have f:=d y aW;omega
  .simp
def A0(c:Cn):∀x∈(cA c).1,x.length<=2*ew c:=by
 unfold cA;cases(fQ c).2 !=0
 .exact Dc _ _ _ (xH c).each (by simp)
 .simp
def IA:∀{l:List (List Hf)},(∀x∈l,x.length<=n)->nz l<=l.length*(3*n+3)
 |[],_=>by simp[nz]
 |x::l,h=>by
  have:=h x aW;have b:=IA fun y a=>h y (aV _ a)
  simp only[nz,aD,cc,cR];omega
def Z0(s:Sp):Prop:=s.cl.length<=256/\∀x∈s.cl,x.length<=2^11
def F4:Nat:=2^21
def IB:∀{l:List Sp},(∀s∈l,Z0 s)->gJ l<=1+l.length*F4
 |[],_=>by simp[gJ]
 |s::l,h=>by
  obtain⟨a,b⟩:=h s aW;have e:=IB fun y c=>h y (aV _ c)
  have d:=IA b;have:s.cl.length*(3*2^11+3)<=256*(3*2^11+3):=dD _ a;simp only[gJ,aD,cc,cR];unfold F4 at*;omega
def kM(m:List Mk):Nat:=(m.map fun x=>x.2.length).sum
def IC(l:List Sp)(s:Sp):(mI l s).length<=l.length+1/\∀x∈mI l s,x=s\/x∈l:=by
 have k:∀x∈l++[s],x=s\/x∈l:=fun x a=>by
  rcases bp.1 a with a|a
  .exact .inr a
  .simp at a;exact .inl a
 unfold mI;cases(s.cl.length:Int)==0
 .cases decide ((l.length:Int)>0)
  .exact⟨by simp,k⟩
  .cases oj (l.getLastD ⟨[],⟨0,0⟩⟩).cl
   .exact⟨by simp,k⟩
   .exact⟨by simp,fun x a=>.inr a⟩
 .exact⟨by simp,fun x a=>.inr a⟩
def A1(k:Int)(l:List Sp):∀(m:List Mk),l.length<=(eH m k).length+1->kM (pe (k,l) m)<=kM m+1
 |[],h=>by simp[eH,gF]at h;simp[pe,kM];exact h
 |y::m,h=>by
  have e:eH (y::m) k=bif k==y.1 then y.2 else eH m k:=by
   unfold eH gF;rw[cp];cases k==y.1<;>rfl
  rw[e]at h;unfold pe;cases hk:k==y.1
  .rw[hk]at h
   have:=A1 k l m h;simp only[af,kM,bG,eV]at this⊢;omega
  .rw[hk]at h
   simp only[ai,kM,bG,eV]at h⊢;omega
structure MSm (n:Nat) (m:List Mk):Prop where
 len:m.length<=n
 st:kM m<=n
 each:∀y∈m,∀s∈y.2,Z0 s
def A2:∀(e:List Bd)(m c:List Mk)(n:Nat),cE e m = .ok c->MSm n m->(∀b∈e,ew b.cond<=2^10)->MSm (n+e.length) c
 |[],m,c,n,h,a,_=>by
  have:m=c:=by simpa[cE]using h
  subst this;exact a
 |b::t,m,c,n,h,a,i=>by
  unfold cE at h;cases h1 : !(cg b.act).2<;>rw[h1]at h
  .cases h2:(cA b.cond).2 !=0<;>rw[h2]at h
   .rw[af,af]at h
    have o:Z0 ⟨(cA b.cond).1,b.act⟩:=⟨r6 b.cond,fun x f=>by have:=A0 b.cond x f;have:=i b aW;omega⟩
    obtain⟨k,l⟩:=IC (eH m b.nr) ⟨(cA b.cond).1,b.act⟩;have:=A2 t _ c (n+1) h ⟨by have:=Ay (b.nr,mI (eH m b.nr) ⟨(cA b.cond).1,b.act⟩) m;have:=a.len;unfold eH at*; omega,by have:=A1 b.nr _ m k;have:=a.st;unfold eH at*; omega,fun y g s j=>by
     rcases l4 g with rfl|g
     .rcases l s j with rfl|d
      .exact o
      .unfold eH at d
       cases hg:gF m b.nr with
       |none=>rw[hg]at d;simp at d
       |some z=>rw[hg]at d;exact a.each z (l5 hg).1 s d
     .exact a.each y g s j⟩ fun x f=>i x (aV _ f)
    rw[aD,show n+(t.length+1)=n+1+t.length by omega]
    exact this
   .simp at h
  .simp at h
def s7(a:List Sn)(x:Sn):iy (addN a x)<=iy a+gJ x.steps+3:=by
 have plain:iy (a++[x])<=iy a+gJ x.steps+3:=by rw[mQ];simp[iy];omega
 unfold addN;cases hd:decide ((a.length:Int)-1>=0)
 .exact plain
 .cases oG (a.getLastD hH) x
  .exact plain
  .have c:=aU hd
   have d:a≠[]:=by intro h;rw[h]at c;simp at c
   have e:a=a.dropLast++[a.getLastD hH]:=by
    have:=(yP d).symm;rw[kq,jH d];exact this
   have b:=mQ a.dropLast [a.getLastD hH];rw[<-e]at b;simp only[ai];rw[mQ];simp only[iy]at b⊢;omega
def A3:∀(l:List Sp),gJ l.dropLast<=gJ l
 |[]=>ar _
 |[s]=>by simp[gJ]
 |s::t::l=>by
  have:=A3 (t::l);rw[List.dropLast_cons_cons];simp only[gJ]at this⊢;omega
def OX(c:Ch)(d:Act):gJ (ie c d).steps<=gJ c.steps:=by
 unfold ie;cases decide ((c.steps.length:Int)-1>=0)
 .exact ar _
 .cases oj (c.steps.getLastD tV).cl
  .exact ar _
  .exact A3 _
def F5(l:List Ch):Nat:=(l.map fun c=>gJ c.steps+7).sum
def A4(d:Act):∀(b:List Ch)(n:Int)(a:List Sn),iy (x6 d b n a)<=iy a+F5 b+4
 |[],n,a=>by
  unfold x6;have:=s7 a ⟨n,4294967295,[],d⟩;cases decide (n<=4294967295)
  .simp only[af];omega
  .simp only[ai,gJ]at this⊢; omega
 |c::t,n,a=>by
  have e:=s7 a ⟨n,c.nr-1,[],d⟩;have i:=s7 (addN a ⟨n,c.nr-1,[],d⟩) (ie c d);have j:=s7 a (ie c d);have k:=OX c d;have f:=A4 d t (c.nr+1) (addN (addN a ⟨n,c.nr-1,[],d⟩) (ie c d));have g:=A4 d t (c.nr+1) (addN a (ie c d));unfold x6;simp only[gJ]at e;simp only[F5,bG,eV]at f g⊢;cases decide (c.nr>n)<;>simp only[ai,af]<;>omega
def xN{f:Int->Nat}:∀(l:List Int),((gx l).map f).sum=(l.map f).sum
 |[]=>rfl
 |n::l=>by
  have b:=xN (f:=f) l;have:∀(m:List Int),((nR n m).map f).sum=f n+(m.map f).sum:=by
   intro m;induction m with
   |nil=>simp[nR]
   |cons a m b=>
    unfold nR;cases decide (n<=a)
    .simp only[af,bG,eV,b];omega
    .simp
  show((nR n (gx l)).map f).sum=_
  rw[this,b];simp
def ID(h:MSm n m)(g:(m.map (·.1)).Nodup):F5 (bO m)<=n*8+n*F4:=by
 unfold F5 bO;rw[dW];rw[xN];rw[dW];have key:∀(t:List Mk),(∀y∈t,(gF m y.1).map (·.2)=some y.2/\∀s∈y.2,Z0 s)->((t.map ((fun c:Ch=>gJ c.steps+7)∘(fun k=>⟨k,((gF m k).map (·.2)).getD []⟩)∘fun x=>x.1)).sum)<=t.length*8+kM t*F4:=by
  intro t;induction t with
  |nil=>intro _;simp
  |cons y t d=>
   intro a;obtain⟨i,j⟩:=a y aW;have:=d fun z l=>a z (aV _ l)
   have q:=IB j;simp only[bG,eV,kM,DS,i,m0,aD,cc]at this⊢;omega
 have k:=key m fun y a=>⟨?_,h.each y a⟩
 .have:=h.len
  have:=h.st;have:kM m*F4<=n*F4:=dD _ h.st;exact dX k (by omega)
 ·
  have:∀(t:List Mk),(t.map (·.1)).Nodup->y∈t->gF t y.1=some y:=by
   intro t;induction t with
   |nil=>intro _ h;simp at h
   |cons z t d=>
    intro g a;obtain⟨o,p⟩:=gX.1 g;unfold gF at d⊢;rw[cp];rcases aY.1 a with rfl|a
    .rw[beq_self_eq_true]
    .have:(y.1==z.1)=false:=by
      rw[gk];intro e;have b:=DR (f:=fun x:Mk=>x.1) a
      have b:y.1∈t.map (·.1):=b
      rw[e]at b;exact o b
     rw[this];exact d p a
  rw[this m g a];rfl
def A6(d:Act)(h:cE a []=.ok m)(b:Vw a):iy (cC (bO m) d)+3*(cC (bO m) d).length+20<=2^40:=by
 have e:=A2 a [] m 0 h ⟨by simp,by simp[kM],by simp⟩ b.sz
 have ok:=se a [] m h (by simp) (by simp)
 have f:=A4 d (bO m) 0 [];have c:=ID e ok.nodup;have g:=(kL d h b.nr).2;have i:=e.len;have j:=b.len;have k:a.length*F4<=2^13*F4:=dD _ j;unfold cC at g⊢;simp only[iy]at f;unfold F4 at c k;simp only[cv]at c i;omega
def A8(n:Int):Prop:=0<=n/\n<4294967296
def pq(n:Int):A8 (wrap .u32 n):=by
 have:=zP (k:=.u32) rfl n;exact⟨this.1,by have:=this.2;simpa[IntKind.bits]using this⟩
def Ba(a:Act):A8 (sb a):=by
 unfold sb cg;cases(bif(bif !(fX a.kind).2 then true else decide (a.data<0))then true else decide (a.data>(bif(bif(bif(a.kind==3)then true else(a.kind==4))then true else(a.kind==5))then 65535 else 0)))
 .exact pq _
 .exact⟨eA 0,by show(0:Int)<4294967296;decide⟩
def Tl(h:Hf):Prop:=A8 h.mask/\A8 h.value
def yL(a:At)(b:Bool)(o:Int):Tl (qG a b o):=by
 unfold qG;cases b<;>exact⟨pq _,pq _⟩
def OY(a:At):∀c∈fk a,∀h∈c,Tl h:=by
 have e:∀s,∀c∈qo a s,∀h∈c,Tl h:=by
  intro s c d h b;simp only[qo,aY,lN,or_false]at d;rcases d with rfl|rfl<;>simp at b
  .subst b;exact yL _ _ _
  .rcases b with rfl|rfl<;>exact yL _ _ _
 unfold fk;cases !vx a.arg a.op
 .cases a.op==1
  .cases a.op==2
   .cases a.op==6
    .cases a.op==4
     .exact e _
     .exact e _
    .exact e _
   .intro c d h b
    simp at d;rcases d with rfl|rfl<;>simp at b<;>subst b<;>exact yL _ _ _
  .intro c d h b
   simp at d;subst d;simp at b;rcases b with rfl|rfl<;>exact yL _ _ _
 .simp
def OZ{Q:α->Prop}{a b:List (List α)}(f:∀c∈a,∀x∈c,Q x)(g:∀c∈b,∀x∈c,Q x):∀c∈(l0 a b).1,∀x∈c,Q x:=by
 unfold l0;cases decide ((a.length:Int)*(b.length:Int)>256)
 .intro c e x d
  obtain⟨y,i,e⟩:=eW.1 (show c∈gb a b from e)
  obtain⟨z,j,rfl⟩:=bh.1 e;rcases bp.1 d with d|d
  .exact f y i x d
  .exact g z j x d
 .simp
def xO{Q:Hf->Prop}:∀(l:List At)(d:List (List Hf)),(∀a∈l,∀c∈fk a,∀h∈c,Q h)->(∀c∈d,∀h∈c,Q h)->∀c∈(dc l d).1,∀h∈c,Q h
 |[],d,_,h=>h
 |a::t,d,e,h=>by
  unfold dc;cases(l0 d (fk a)).2
  .simp
  .exact xO t _ (fun b f=>e b (aV _ f)) (OZ h (e a aW))
def xP:∀(l c:List Hf),∀h∈(cH l c).1,h∈c\/h∈l
 |[],c,h,a=>.inl a
 |x::t,c,h,a=>by
  have k:∀e,(∀y∈e,y∈c\/y=x)->h∈(cH t e).1->h∈c\/h∈x::t:=fun e f d=>by
   rcases xP t e h d with d|d
   .rcases f h d with h|rfl
    .exact .inl h
    .exact .inr aW
   .exact .inr (aV _ d)
  unfold cH at a;cases h1:mh x<;>rw[h1]at a
  .cases f:c.any (fun y=>ny y x)<;>rw[f]at a
   .cases h3:jE x<;>rw[h3]at a
    .cases h4:c.any (tQ x)<;>rw[h4]at a
     .exact k _ (fun y b=>by rcases bp.1 b with b|b;exact .inl b;simp at b;exact .inr b) a
     .exact k _ (fun y b=>.inl b) a
    .exact k _ (fun y b=>.inl b) a
   .simp at a
  .simp at a
def Dd{Q:Hf->Prop}:∀(l:List (List Hf)),(∀c∈l,∀h∈c,Q h)->∀c∈gI l,∀h∈c,Q h
 |[],_=>by simp[gI]
 |x::t,e=>by
  have f:=Dd t fun c a=>e c (aV _ a)
  unfold gI;cases(cH x []).2
  .exact f
  .intro c a h d
   rcases aY.1 (show c∈(cH x []).1::gI t from a)with rfl|a
   .rcases xP x [] h d with b|b
    .simp at b
    .exact e x aW h b
   .exact f c a h d
def Ln{Q:Hf->Prop}(l:List (List Hf))(b:∀c∈l,∀h∈c,Q h):∀c∈tS l,∀h∈c,Q h:=fun c a=>Dd l b c ((vA (gI l) 0).2 c a)
def Bb{Q:Hf->Prop}:∀(l:List (List At))(e:List (List Hf)),(∀c∈l,∀a∈c,∀d∈fk a,∀h∈d,Q h)->(∀c∈e,∀h∈c,Q h)->∀c∈(mi l e).1,∀h∈c,Q h
 |[],e,_,h=>Ln e h
 |x::t,e,f,h=>by
  unfold mi;cases(bif !(dc x [[]]).2 then true else decide (((e++(dc x [[]]).1).length:Int)>256))
  .refine Bb t _ (fun c b=>f c (aV _ b)) fun c b=>?_
   rcases bp.1 b with b|b
   .exact h c b
   .exact xO x [[]] (f x aW) (by simp) c b
  .simp
def IE{Q:Hf->Prop}(c:Cn)(h:∀d∈(fQ c).1,∀a∈d,∀e∈fk a,∀h∈e,Q h):∀d∈(cA c).1,∀h∈d,Q h:=by
 unfold cA;cases(fQ c).2 !=0
 .exact Bb _ [] h (by simp)
 .simp
def O0(c:Cn):∀d∈(cA c).1,∀h∈d,Tl h:=IE c fun _ _ a _=>OY a
def spQ(Q:Hf->Prop)(s:Sp):Prop:=∀c∈s.cl,∀h∈c,Q h
def De{R:Sp->Prop}:∀(f:List Bd)(m c:List Mk),cE f m = .ok c->(∀b∈f,R ⟨(cA b.cond).1,b.act⟩)->(∀y∈m,∀s∈y.2,R s)->∀y∈c,∀s∈y.2,R s
 |[],m,c,h,_,d=>by
  have:m=c:=by simpa[cE]using h
  subst this;exact d
 |b::t,m,c,h,g,d=>by
  unfold cE at h;cases h1 : !(cg b.act).2<;>rw[h1]at h
  .cases h2:(cA b.cond).2 !=0<;>rw[h2]at h
   .rw[af,af]at h
    refine De t _ c h (fun x i=>g x (aV _ i)) fun y e s a=>?_
    rcases l4 e with rfl|e
    .rcases(IC _ _).2 s a with rfl|a
     .exact g b aW
     .cases hg:gF m b.nr with
      |none=>rw[hg]at a;simp at a
      |some z=>rw[hg]at a;exact d z (l5 hg).1 s a
    .exact d y e s a
   .simp at h
  .simp at h
def vO{R:Sp->Prop}(h:∀y∈b,∀s∈y.steps,R s)(e:∀s∈x.steps,R s):∀y∈addN b x,∀s∈y.steps,R s:=by
 have k:∀y∈b++[x],∀s∈y.steps,R s:=fun y a=>by
  rcases bp.1 a with a|a
  .exact h y a
  .simp at a;subst a;exact e
 unfold addN;cases hd:decide ((b.length:Int)-1>=0)
 .exact k
 .cases oG (b.getLastD hH) x
  .exact k
  .intro y a
   rcases bp.1 (show y∈b.dropLast++[_]from a)with a|a
   .exact h y (uC _ a)
   .rcases cP.1 a with rfl
    have c:=aU hd;have d:b≠[]:=by intro h;rw[h]at c;simp at c
    show∀s∈(b.getLastD hH).steps,R s
    rw[kq,jH d];exact h _ (List.getLast_mem d)
def MT{R:Sp->Prop}(d:Act):∀(f:List Ch)(n:Int)(a:List Sn),(∀c∈f,∀s∈c.steps,R s)->(∀y∈a,∀s∈y.steps,R s)->∀y∈x6 d f n a,∀s∈y.steps,R s
 |[],n,a,_,h=>by
  unfold x6;cases decide (n<=4294967295)
  .exact h
  .exact vO h (by simp)
 |c::t,n,a,b,h=>by
  have e:∀s∈(ie c d).steps,R s:=by
   have:=b c aW;unfold ie;cases decide ((c.steps.length:Int)-1>=0)
   .exact this
   .cases oj (c.steps.getLastD tV).cl
    .exact this
    .exact fun s g=>this s (uC _ g)
  have i:=fun n a h=>MT d t n a (fun c j=>b c (aV _ j)) h
  unfold x6;cases decide (c.nr>n)
  .exact i _ _ (vO h e)
  .exact i _ _ (vO (vO h (by simp)) e)
def Df{R:Sp->Prop}{m:List Mk}(d:Act)(h:cE a []=.ok m)(e:∀b∈a,R ⟨(cA b.cond).1,b.act⟩):∀x∈cC (bO m) d,∀s∈x.steps,R s:=by
 refine MT d (bO m) 0 [] (fun c f=>?_) (by simp)
 obtain⟨k,_,rfl⟩:=bh.1 f;show∀s∈((gF m k).map (·.2)).getD [],R s
 cases hg:gF m k with
 |none=>simp
 |some y=>exact De a [] m h e (by simp) y (l5 hg).1
def PK(w:Wr):Prop:=∀x∈w.l,A8 x.k
section
variable {w:Wr}
def lz(h:PK w)(b:A8 k):PK (fy w t f c k):=fun x a=>by
 rcases bp.1 (show x∈w.l++[_]from a)with a|a
 .exact h x a
 .simp at a;subst a;exact b
def s8(h:PK w)(ct:Int):PK (cJ w ct):=by
 unfold cJ;cases w.label !=0
 .exact h
 .exact lz h ⟨by decide,by decide⟩
def MU(h:PK w)(a:Tl x)(y z:Int):PK (testW w x y z):=by
 have b:PK (jw w x):=by
  unfold jw;cases x.mask !=4294967295
  .exact lz h (pq _)
  .exact lz (lz h (pq _)) a.1
 unfold testW;cases qI x.op<;>exact lz b a.2
def Tm(n yes no next:Int):∀(t:List Hf)(i:Int)(w:Wr),PK w->(∀h∈t,Tl h)->PK (tX n yes no next t i w)
 |[],_,_,h,_=>h
 |x::t,i,w,h,a=>by
  have b:=a x aW;unfold tX;refine Tm n yes no next t _ _ ?_ fun y c=>a y (aV _ c)
  cases decide (i<n-1)
  .cases no==next<;>exact MU h b _ _
  .exact MU h b _ _
def Dg(h:PK w)(a:∀x∈l,Tl x)(yes no next:Int):PK (dG w l yes no next):=by
 unfold dG;refine Tm _ _ _ _ l _ _ ?_ a;cases(bif(l.length:Int)==0 then yes !=0 else false)
 .exact h
 .exact lz h ⟨by decide,by decide⟩
def Tn(h:PK w)(s:Sp)(a e:Int):PK (AD s a e w):=by
 unfold AD;cases decide ((s.cl.length:Int)>0)
 .exact s8 h _
 .exact s8 (lz (s8 h _) (Ba _)) _
def To(s:Sp)(a e:Int):∀(t:List (List Hf))(i:Int)(w:Wr),PK w->(∀c∈t,∀h∈c,Tl h)->PK (w6 s a e t i w)
 |[],_,_,h,_=>Tn h s a e
 |x::t,i,w,h,b=>by
  have d:=b x aW;unfold w6;cases i==(s.cl.length:Int)-1
  .exact To s a e t _ _ (s8 (Dg (w:=dK w) h d _ _ _) _) fun c f=>b c (aV _ f)
  .exact Tn (Dg (w:=dK w) h d _ _ _) s a e
def IF(a:Act):∀(t:List Sp)(w:Wr),PK w->(∀s∈t,spQ Tl s)->PK (r7 a t w)
 |[],_,h,_=>lz h (Ba _)
 |s::t,w,h,b=>IF a t _ (To s _ _ s.cl 0 (dK (dK w)) h (b s aW)) fun x c=>b x (aV _ c)
def xc:∀(n:Nat)(l:List Sn)(w:Wr),l≠[]->PK w->(∀x∈l,A8 x.lo)->(∀x∈l,∀s∈x.steps,spQ Tl s)->l.length<=n->PK (fE n l w)
 |0,_,_,_,h,_,_,_=>h
 |n+1,l,w,j,h,c,b,k=>by
  unfold fE;cases hd:(l.length:Int)==1
  .have m:1<=l.length:=by cases l with|nil=>exact(j rfl).elim|cons=>simp
   have o:=gV hd;have d:(l.drop (l.length/2)).length=l.length-l.length/2:=gY ..;have e:(l.take (l.length/2)).length=l.length/2:=by simp;omega
   have f:l.length/2<l.length:=by omega
   have i:A8 (l.getD (l.length/2) hH).lo:=by
    rw[bR,bo f];exact c _ (fL f)
   have g:=xc n (l.take (l.length/2)) (fy (dK w) (w.aC+1) 0 53 (l.getD (l.length/2) hH).lo) (by intro h;rw[h]at e;simp at e;omega) (lz (w:=dK w) h i) (fun x a=>c x (List.take_subset _ _ a)) (fun x a=>b x (List.take_subset _ _ a)) (by omega)
   exact xc n (l.drop (l.length/2)) _ (by intro h;rw[h]at d;simp at d;omega) (s8 g _) (fun x a=>c x (List.drop_subset _ _ a)) (fun x a=>b x (List.drop_subset _ _ a)) (by omega)
  .match l,bZ hd with
   |[x],_=>exact IF x.act x.steps w h (b x aW)
end
def Vx(g:A8 ao)(i:∀x∈l,∀s∈x.steps,spQ Tl s):∀x∈(fH ao l).1,A8 x.k:=by
 unfold fH;cases hr : !gp l 0
 .have d:=nF l 0 (by simpa using hr)
  have m:=(pj d).2;have k:∀(l:List Sn)(a b:Int),fA l a b->∀x∈l,x.lo<=x.hi:=by
   intro l;induction l with
   |nil=>intro a b _ x c;simp at c
   |cons y l j=>
    intro a b h x c;rcases aY.1 c with rfl|c
    .exact h.2.1
    .exact j _ _ h.2.2 x c
  refine xc l.length l _ (by rintro rfl;have e:(0:Int)=4294967296:=d;simp at e) ?_ (fun x c=>?_) i (ar _)
  .refine lz (s8 (lz (lz (lz (w:=dK ⟨[],0,0⟩) (fun x c=>by simp[dK]at c) ⟨by decide,by decide⟩) g) (Ba _)) _) ⟨by decide,by decide⟩
  .have f:=m x c
   have n:=k l _ _ d x c;exact⟨f.1,by omega⟩
 .simp
def Bc:∀(t:List Sy)(q:List (Bool×Bool))(i:Nat),y∈dL k t q i->∃x∈t,∃j p,y∈fZ k j x p
 |[],q,i,h=>by cases q<;>simp[dL]at h
 |x::t,[],i,h=>by simp[dL]at h
 |x::t,p::q,i,h=>by
  rw[dL]at h;rcases bp.1 h with h|h
  .exact⟨x,aW,i,p,h⟩
  .obtain⟨z,a,r⟩:=Bc t q (i+1) h
   exact⟨z,aV _ a,r⟩
def z0:(-4611686018427387904:Int)<=0/\(0:Int)<=4611686018427387904:=by decide
def IG(f:∀x∈l,A8 x.k)(o:l.length<=2^30):∀x∈vG l,OP x:=by
 have ok:=C0 l;have m:=ok.pl;have t:=ok.fl;have c:∀i:Nat,0<=(fR l).place.getD i 0/\(fR l).place.getD i 0<=2^40:=by
  intro i;rw[bR];rcases bY i (fR l).place.length with h|h
  .rw[bo h]
   have:=AK (fR l).cG 0 ((fR l).place[i]) (by rw[<-m];exact fL h)
   show 0<=(fR l).place[i]/\(fR l).place[i]<=2^40
   omega
  .rw[eJ h];exact⟨by decide,by decide⟩
 intro y k;obtain⟨x,g,j,p,h⟩:=Bc l (fR l).cG 0 k;have d:=f x g;have e:∀ct,0<=kh (fR l) j ct/\kh (fR l) j ct<=2^40:=fun ct=>c _
 have q:0<=yK (fR l) j/\yK (fR l) j<=2^40:=c _;have ja:∀n,OP ⟨5,0,0,wrap .u32 n⟩:=fun n=>⟨pq n,z0,z0⟩
 have tt:=e x.t;have s:=e x.f;unfold fZ at h;cases hj:cT x.code<;>rw[hj]at h
 .cases h5:x.code==5<;>rw[h5]at h
  .simp at h;subst h;exact⟨d,z0,z0⟩
  .simp at h;subst h;exact ja _
 .rw[ai,pf]at h
  rcases aY.1 h with rfl|h
  .obtain⟨a,b⟩:=p
   refine⟨d,?_,?_⟩
   .cases a<;>simp only[ai,af]<;>omega
   .cases a<;>cases b<;>simp only[ai,af]<;>omega
  .obtain⟨a,b⟩:=p
   rcases bp.1 h with h|h
   .cases a<;>simp[jaI]at h
    subst h;exact ja _
   .cases b<;>simp[jaI]at h
    subst h;exact ja _
def MV(l:List In):∀(t:List In)(i:Nat)(b:List Int),ph l t i b = -1->∀(j:Nat)x,t[j]?=some x->gT l ((i+j:Nat):Int) x=true
 |[],i,b,_,j,x,a=>by simp at a
 |y::t,i,b,h,j,x,a=>by
  unfold ph at h;cases h1:gT l i y<;>rw[h1]at h
  .have:(i:Int)= -1:=h
   omega
  .cases h2:s6 y (b.getD i 0)<;>rw[h2]at h
   .cases j with
    |zero=>simp at a;subst a;exact h1
    |succ j=>
     have:=MV l t (i+1) _ h j x (by simpa using a)
     rw[show i+(j+1)=i+1+j by omega]
     exact this
   .have:(i:Int)= -1:=h
    omega
def pt(h:(jT l).2=true):0<l.length/\l.length<=4096/\∀(x:In),x∈l->jS x=true/\ya x=true:=by
 unfold jT at h;cases hb:Io l<;>rw[hb]at h
 .rw[af]at h
  have b:=bZ h;have hlen:0<l.length/\l.length<=4096:=by
   unfold Io at hb;cases h1:(l.length:Int)==0<;>rw[h1]at hb
   .have:=bI hb
    have:l.length≠0:=fun e=>by rw[e]at h1;simp at h1
    omega
   .simp at hb
  refine⟨hlen.1,hlen.2,fun x d=>?_⟩
  obtain⟨j,c⟩:=DU d;have a:=MV l l 0 _ b j x c;unfold gT at a;cases h1 : !(r8 x.code).isSome<;>rw[h1]at a
  .cases h2 : !jS x<;>rw[h2]at a
   .cases h3 : !ya x<;>rw[h3]at a
    .exact⟨by simpa using h2,by simpa using h3⟩
    .simp at a
   .simp at a
  .simp at a
 .simp at h
def Dh(h:(jT l).2=true)(j:∀x∈l,OP x):∀x∈l,WZ x:=fun x e=>by
 obtain⟨f,a⟩:=(pt h).2.2 x e;have d:=(j x e).k;simp[jS,cond_eq_ite]at f;refine⟨d,by omega,by omega,fun i=>?_⟩
 unfold ya at a;rw[i]at a;obtain⟨c,g⟩:=cn (b:=tmod x.k 4==0) (show(bif tmod x.k 4==0 then decide (x.k<=60)else false)=true from a)
 rw[beq_iff_eq,pB d.1]at c;exact⟨c,aU g⟩
def Di(n:Int):wrap .u8 n=n%256:=by simp[wrap,IntKind.signed,IntKind.bits]
def Zr(n:Int):wrap .u64 n=n%18446744073709551616:=by simp[wrap,IntKind.signed,IntKind.bits]
def Tp(n:Int):wrap .u32 n=n%4294967296:=by simp[wrap,IntKind.signed,IntKind.bits]
def orB(n:Nat){A C e:Nat}(a:A<2^e)(h:A+C*2^e<2^n):(BitVec.ofInt n (A:Int) ||| BitVec.ofInt n ((C*2^e:Nat):Int)).toNat=A+C*2^e:=by
 rw[BitVec.toNat_or,yi,yi,yc,yc,mZ (by omega),mZ (by omega)]
 rw[Nat.or_comm,lL,<-Nat.two_pow_add_eq_or_of_lt a,oN]
def orI(k:IntKind)(b:k = .u32\/k = .u64\/k = .i64)(f:0<=a/\a<2^e)(j:0<=c)(h:a+c*2^e<2^31\/(k = .u32/\a+c*2^e<2^32)\/(k = .u64/\a+c*2^e<2^64)):cf .or k a (c*2^e)=a+c*2^e:=by
 obtain⟨A,rfl⟩:=iT f.1;obtain⟨C,rfl⟩:=iT j;have i:A<2^e:=by have:=f.2;exact_mod_cast this
 have g:((C:Int)*2^e)=((C*2^e:Nat):Int):=by push_cast;rfl
 rw[g]at h⊢;have fin:∀n:Nat,A+C*2^e<2^n->((BitVec.ofInt n (A:Int) ||| BitVec.ofInt n ((C*2^e:Nat):Int)).toNat:Int)=(A:Int)+((C*2^e:Nat):Int):=fun n d=>by
  rw[orB n i d];push_cast;rfl
 generalize C*2^e=M at*;rcases b with rfl|rfl|rfl
 .have d:A+M<2^32:=by rcases h with h|⟨_,h⟩|⟨b,_⟩<;>first|omega|exact absurd b (by decide)
  show wrap .u32 ((BitVec.ofInt 32 (A:Int) ||| BitVec.ofInt 32 (M:Int)).toNat:Int)=_
  rw[fin 32 d,Tp];omega
 .have d:A+M<2^64:=by rcases h with h|⟨_,h⟩|⟨_,h⟩<;>omega
  show wrap .u64 ((BitVec.ofInt 64 (A:Int) ||| BitVec.ofInt 64 (M:Int)).toNat:Int)=_
  rw[fin 64 d,Zr];omega
 .have d:A+M<2^31:=by rcases h with h|⟨b,_⟩|⟨b,_⟩<;>first|omega|exact absurd b (by decide)
  show wrap .i64 ((BitVec.ofInt 64 (A:Int) ||| BitVec.ofInt 64 (M:Int)).toNat:Int)=_
  rw[fin 64 (by omega),om (by omega) (by omega)]
def sj(h:0<=n)(i:Nat)(a:i<8):j9 n i=n/2^(8*i)%256:=by
 unfold j9;rw[Di,yu _ (jo (oL (by decide))),show min (toNat ((8:Int)*(i:Int))) (IntKind.bits .u64)=8*i by simp[IntKind.bits];omega]
def mod_mul(n p q:Int)(a:0<p)(b:0<q):n%p+n/p%q*p=n%(p*q):=by
 have d:=Int.mul_ediv_add_emod n p;have f:=Int.mul_ediv_add_emod (n/p) q;have j:=mX n (ki a);have l:=pA n a;have i:=mX (n/p) (ki b);have k:=pA (n/p) b;have e:n=(n%p+n/p%q*p)+(p*q)*(n/p/q):=by
  have:p*(q*(n/p/q)+n/p%q)+n%p=n:=by rw[f];exact d
  rw[Int.mul_add]at this;rw[Int.mul_comm (n/p%q) p,Int.mul_assoc];omega
 have g:n%p+n/p%q*p<p*q:=by
  have:n/p%q*p<=(q-1)*p:=Jt (by omega) (jo a)
  rw[Int.sub_mul,Int.one_mul,Int.mul_comm q p]at this;omega
 have c:0<=n%p+n/p%q*p:=Int.add_nonneg j (uw i (jo a));generalize n%p+n/p%q*p=z at*;rw[e,Int.add_mul_emod_self_left,Int.emod_eq_of_lt c g]
def Dj(h:0<=n):∀(k i:Nat),i+k<=8->Il (gG n k i) i (n%2^(8*i))=n%2^(8*(i+k))
 |0,i,_=>rfl
 |k+1,i,j=>by
  have c:=sj h i (by omega)
  have a:(0:Int)<2^(8*i):=oL (by decide)
  have g:(2:Int)^(8*(i+1))=2^(8*i)*256:=by rw[Nat.mul_add,Int.pow_add];rfl
  have l:(2:Int)^(8*i)<=2^56:=by
   have:(2:Nat)^(8*i)<=2^56:=yj (by decide) (by omega)
   exact_mod_cast this
  have d:=mX n (ki a);have f:=pA n a;have b:0<=j9 n i/\j9 n i<256:=by rw[c];exact⟨mX _ (by decide),pA _ (by decide)⟩
  have e:n%2^(8*i)+j9 n i*2^(8*i)=n%2^(8*(i+1)):=by
   rw[c,g];exact mod_mul n _ 256 a (by decide)
  have m:j9 n i*2^(8*i)<=255*2^(8*i):=Jt (by omega) (jo a)
  rw[gG,Il,kJ (n:=j9 n i) (by omega) (by omega),show min (toNat ((8:Int)*(i:Int))) (IntKind.bits .u64)=8*i by simp[IntKind.bits];omega]
  rw[kJ (n:=j9 n i*2^(8*i)) (uw b.1 (jo a)) (by omega)]
  rw[orI .u64 (.inr (.inl rfl)) ⟨d,f⟩ b.1 (.inr (.inr ⟨rfl,by omega⟩)),e]
  have:=Dj h k (i+1) (by omega)
  rw[this,show i+1+k=i+(k+1) by omega]
def Be(h:0<=n)(k:Nat)(a:k<=8):kS (gG n k 0)=n%2^(8*k):=by
 have:=Dj h k 0 (by omega)
 rw[cv]at this;rw[<-this,kS];congr 1
 simp
def Vy(h:A8 n):wrap .u32 (kS (gG n 4 0))=n:=by
 have:=h.2;rw[Be h.1 4 (by decide),Tp]
 have e:(2:Int)^(8*4)=4294967296:=rfl;rw[e];have:=h.1;omega
def Lo(h:0<=n/\n<18446744073709551616):kS (gG n 8 0)=n:=by
 rw[Be h.1 8 (by decide)]
 have e:(2:Int)^(8*8)=18446744073709551616:=rfl;rw[e];omega
def Lq(h:C4 d):Te (l6 d)=d:=by
 have e:Te (l6 d)=⟨wrap .u32 (kS (gG d.nr 4 0)),wrap .u32 (kS (gG d.ao 4 0)),kS (gG d.ip 8 0),kS (gG d.a0 8 0),kS (gG d.a1 8 0),kS (gG d.a2 8 0),kS (gG d.a3 8 0),kS (gG d.a4 8 0),kS (gG d.a5 8 0)⟩:=rfl;rw[e,Vy h.nr,Vy h.ao,Lo h.ip,Lo h.a0,Lo h.a1,Lo h.a2,Lo h.a3,Lo h.a4,Lo h.a5]
def MW(h:C4 d):kK d 0=d.nr:=Vy h.nr
def Dk(h:C4 d):kK d 4=d.ao:=Vy h.ao
def xQ(h:0<=k)(i:Nat)(a:i<4):kB k i=k/2^(8*i)%256:=by
 unfold kB;rw[Di,yu _ (jo (oL (by decide))),show min (toNat ((8:Int)*(i:Int))) (IntKind.bits .u32)=8*i by simp[IntKind.bits];omega]
def F6{i:Nat}(e:i<4)(d:0<=c/\c<2^(8*i))(b:0<=x/\x<256):AP c x i=c+x*2^(8*i):=by
 have a:(0:Int)<2^(8*i):=oL (by decide)
 have f:(2:Int)^(8*i)<=2^24:=by
  have:(2:Nat)^(8*i)<=2^24:=yj (by decide) (by omega)
  exact_mod_cast this
 have g:x*2^(8*i)<=255*2^(8*i):=Jt (by omega) (jo a)
 unfold AP;rw[vD (n:=x) (by omega) (by omega),show min (toNat ((8:Int)*(i:Int))) (IntKind.bits .u32)=8*i by simp[IntKind.bits];omega]
 rw[vD (n:=x*2^(8*i)) (uw b.1 (jo a)) (by omega)]
 exact orI .u32 (.inl rfl) d b.1 (.inr (.inl ⟨rfl,by omega⟩))
def Bf(u:jS x=true)(o:A8 x.k)(r:List Int):Vl (ij x++r)=x:=by
 simp[jS,cond_eq_ite]at u;obtain⟨c,w,v,k⟩:=x;simp only at u o;have m:=o.1;have G:=o.2;have f:=xQ m 0 (by decide)
 have b:=xQ m 1 (by decide)
 have g:=xQ m 2 (by decide)
 have l:=xQ m 3 (by decide)
 simp only[Nat.mul_zero,Int.pow_zero,Int.ediv_one,Nat.mul_one]at f b;have d:(2:Int)^8=256:=rfl;have t2:(2:Int)^(8*2)=65536:=rfl;have h:(2:Int)^(8*3)=16777216:=rfl;rw[d]at b;rw[t2]at g;rw[h]at l;have z:AP (AP (AP (AP 0 (kB k 0) 0) (kB k 1) 1) (kB k 2) 2) (kB k 3) 3=k:=by
  have p:=F6 (c:=0) (x:=kB k 0) (i:=0) (by decide) ⟨by decide,by decide⟩ ⟨by rw[show kB k 0=k%256 from f];omega,by rw[show kB k 0=k%256 from f];omega⟩
  have p:AP 0 (kB k 0) 0=k%256:=by rw[show AP 0 (kB k 0) 0=0+kB k 0*2^(8*0)from p,show kB k 0=k%256 from f];simp
  have q:=F6 (c:=k%256) (x:=kB k 1) (i:=1) (by decide) ⟨by omega,by show k%256<256;omega⟩ ⟨by rw[show kB k 1=k/256%256 from b];omega,by rw[show kB k 1=k/256%256 from b];omega⟩
  have q:AP (k%256) (kB k 1) 1=k%65536:=by rw[show AP (k%256) (kB k 1) 1=k%256+kB k 1*256 from q,show kB k 1=k/256%256 from b];omega
  have s:=F6 (c:=k%65536) (x:=kB k 2) (i:=2) (by decide) ⟨by omega,by show k%65536<65536;omega⟩ ⟨by rw[show kB k 2=k/65536%256 from g];omega,by rw[show kB k 2=k/65536%256 from g];omega⟩
  have s:AP (k%65536) (kB k 2) 2=k%16777216:=by rw[show AP (k%65536) (kB k 2) 2=k%65536+kB k 2*65536 from s,show kB k 2=k/65536%256 from g];omega
  have t:=F6 (c:=k%16777216) (x:=kB k 3) (i:=3) (by decide) ⟨by omega,by show k%16777216<16777216;omega⟩ ⟨by rw[show kB k 3=k/16777216%256 from l];omega,by rw[show kB k 3=k/16777216%256 from l];omega⟩
  have t:AP (k%16777216) (kB k 3) 3=k:=by rw[show AP (k%16777216) (kB k 3) 3=k%16777216+kB k 3*16777216 from t,show kB k 3=k/16777216%256 from l];omega
  rw[p,q,s,t]
 have y:cf .or .i64 (wrap .i64 (wrap .u8 c)) (wrap .i64 ((wrap .i64 (wrap .u8 (fdiv c (2^(min (toNat 8) (IntKind.bits .i64))))))*2^(min (toNat 8) (IntKind.bits .i64))))=c:=by
  rw[show min (toNat 8) (IntKind.bits .i64)=8 from rfl,yu _ (by decide),Di,Di,d]
  rw[om (n:=c%256) (by omega) (by omega),om (n:=c/256%256) (by omega) (by omega),om (n:=c/256%256*256) (by omega) (by omega)]
  have:=orI .i64 (.inr (.inr rfl)) (a:=c%256) (c:=c/256%256) (e:=8) ⟨by omega,by rw[d];omega⟩ (by omega) (.inl (by rw[d];omega))
  rw[d]at this;rw[this];omega
 have j:∀n:Int,0<=n->n<=255->wrap .i64 (wrap .u8 n)=n:=fun n D E=>by rw[Di,om (by omega) (by omega)];omega
 show In.mk (cf .or .i64 (wrap .i64 (wrap .u8 c)) (wrap .i64 ((wrap .i64 (wrap .u8 (fdiv c (2^(min (toNat 8) (IntKind.bits .i64))))))*2^(min (toNat 8) (IntKind.bits .i64))))) (wrap .i64 (wrap .u8 w)) (wrap .i64 (wrap .u8 v)) (AP (AP (AP (AP 0 (kB k 0) 0) (kB k 1) 1) (kB k 2) 2) (kB k 3) 3)=_
 rw[y,z,j w (by omega) (by omega),j v (by omega) (by omega)]
def nG:∀(l:List In)(a b:List Int),fm l a=some b->b=a++l.flatMap ij/\∀x∈l,jS x=true
 |[],a,b,h=>by simp[fm]at h;subst h;simp
 |x::t,a,b,h=>by
  unfold fm at h;cases hr : !jS x<;>rw[hr]at h
  .obtain⟨d,e⟩:=nG t _ b h
   refine⟨by rw[d];simp,fun y c=>?_⟩
   rcases aY.1 c with rfl|c
   .simpa using hr
   .exact e y c
  .simp at h
def Dl:∀(l:List In)(n:Nat)(b:List In),(∀x∈l,jS x=true/\A8 x.k)->l.length<n->qs n (l.flatMap ij) b=b++l
 |[],n,b,_,a=>by
  cases n with
  |zero=>simp at a
  |succ n=>simp[qs]
 |x::t,0,b,_,a=>by simp at a
 |x::t,n+1,b,h,a=>by
  obtain⟨d,e⟩:=h x aW;have c:(ij x).length=8:=rfl;rw[eX,qs,bw (by simp[c];omega),ai,Bf d e,List.drop_append,yo (by omega),dP,c,lM,fK]
  rw[Dl t n _ (fun y f=>h y (aV _ f)) (by simpa using a)]
  simp
def IH(h:fm l []=some b)(e:∀x∈l,A8 x.k):Im b=(l,0):=by
 obtain⟨a,d⟩:=nG l [] b h;rw[dP]at a;have hlen:b.length=8*l.length:=by
  rw[a,List.length_flatMap];have:∀l:List In,(l.map fun x=>(ij x).length).sum=8*l.length:=by
   intro l;induction l with
   |nil=>rfl
   |cons x l f=>simp only[bG,eV,f,aD];show 8+_=_;omega
  exact this l
 unfold Im;rw[show(tmod (b.length:Int) 8 !=0)=false by rw[pB (by omega)];simp;omega,af]
 have:=Dl l (b.length+1) [] (fun x c=>⟨d x c,e x c⟩) (by omega)
 rw[<-a]at this;rw[this,dP]
abbrev xR:=Int×Int×Cx
def ik(rec:Int->Wv->Option (Except xR Wv))(l:List Fl):List Tok->Bool->Wv->Option (Except xR Wv)
 |[],_,x=>some (.ok {x with stack:=x.stack.dropLast})
 |t::a,soft,x=>bif(bif t.kind !=5 then true else !(t.text==ju))then ik rec l a soft {x with fq:=x.fq++[t]}else
  match a with
  |[]=>bif soft then none else some (.error (3,t.file,t.spot))
  |p::a=>bif soft then none else
   bif(fO l x p).2 !=0 then some (.error ((fO l x p).2,t.file,t.spot))else
   match rec (fO l x p).1 {x with n:=x.n+1}with
   |none=>none
   |some (.error f)=>some (.error f)
   |some (.ok y)=>ik rec l a true y
def iP(l:List Fl):Nat->Int->Wv->Option (Except xR Wv)
 |0,_,_=>none
 |d+1,m,x=>match l[m.toNat]? with
  |none=>none
  |some f=>match jN f.text m with
   |.error (e,c)=>some (.error (e,m,c))
   |.ok a=>ik (iP l d) l a false {x with stack:=x.stack++[m]}
def xd(d:∀m x y,rec m x=some (.ok y)->y.stack=x.stack/\y.fq.length<=x.fq.length+K):∀(a:List Tok)(soft:Bool)(x y:Wv),ik rec l a soft x=some (.ok y)->
  y.stack=x.stack.dropLast/\y.fq.length<=x.fq.length+a.length+(bif soft then 0 else K)
 |[],soft,x,y,h=>by
  simp only[ik,ay,Except.ok.injEq]at h;subst h;exact⟨rfl,by simp⟩
 |t::a,soft,x,y,h=>by
  unfold ik at h;cases h1:(bif t.kind !=5 then true else !(t.text==ju))<;>rw[h1]at h<;>simp only[ai,af]at h
  .match a,h with
   |[],h=>cases soft<;>simp at h
   |p::a,h=>
    cases soft with
    |true=>simp at h
    |false=>
     simp only[af]at h;cases h2:((fO l x p).2 !=0)<;>rw[h2]at h<;>simp only[ai,af]at h
     .split at h
      .simp at h
      .simp at h
      .rename_i z g
       obtain⟨e,f⟩:=d _ _ _ g;obtain⟨b,c⟩:=xd d a true z y h;simp only[ai,af,aD]at e f c⊢;exact⟨by rw[b,e],by omega⟩
     .simp at h
  .obtain⟨b,c⟩:=xd d a soft _ y h
   simp only[dC,aD,cS]at b c⊢;exact⟨b,by omega⟩
def xe(l:List Fl):∀(d:Nat)(m:Int)(x y:Wv),iP l d m x=some (.ok y)->y.stack=x.stack/\y.fq.length<=x.fq.length+20000*d
 |0,m,x,y,h=>by simp[iP]at h
 |d+1,m,x,y,h=>by
  unfold iP at h;split at h<;>try(simp at h;done)
  rename_i f g;split at h
  .simp at h
  .rename_i c e
   obtain⟨a,b⟩:=xd (xe l d) c false _ y h;have:=zQ e;simp only[af]at a b;refine⟨by rw[a];simp,by omega⟩
def Dm(a:List Tok)(t:Tok):a.map Tok.row++([[N t.kind,S t.text,N t.file,C t.spot]]:Rw)=(a++[t]).map Tok.row:=by simp[Tok.row]
def O1(l:List Fl)(K:List AV->List Bx->Prop):Except xR Wv->Prop
 |.error (e,f,c)=>e≠0/\∃y:Wv,K [.agg [N e,N f,C c]] [ZV l y]
 |.ok y=>K [.agg [N 0,N 0,C E3]] [ZV l y]
def O1.mono(h:O1 l K R)(k:∀r y,K r [ZV l y]->a r [ZV l y]):O1 l a R:=by
 revert h
 cases R with
 |error f=>exact fun⟨b,y,c⟩=>⟨b,y,k _ _ c⟩
 |ok y=>exact fun h=>k _ _ h
def ach(l:List Fl)(rec:Int->Wv->Option (Except xR Wv))(ae:List Tok)(w:ae.length<=2^40)(c d:Int)(f:Cx):∀(b:List Tok)(i:Nat)(x:Wv)(R:Except xR Wv),ae.drop i=b->x.stack≠[]->x.stack.length<=2^40->x.fq.length+b.length<=2^40->ik rec l b true x=some R ->
  O1 l (Lp f93 0 (oB (ae.map Tok.row) i (l.map Fl.row) (x.stack.map fun n=>[N n]) x.n (x.fq.map Tok.row) c d f) 1) R
 |[],i,x,R,h,k,o,j,a=>by
  simp only[ik,ay]at a;subst a;have:0<x.stack.length:=by cases hx:x.stack with|nil=>exact absurd hx k|cons=>simp
  refine Ry _ _ _ _ _ _ _ _ _ (aQ (l:=ae) (by simp) h ⟨au (by simp;omega) (by simp;omega),⟨by simp,by simp;omega,by simp;omega⟩,bE rfl ?_⟩)
  have e:drop 0 (take (toNat (((x.stack.map fun n=>[N n]).length:Int)-1)) (x.stack.map fun n=>[N n]))=x.stack.dropLast.map fun n=>[N n]:=by
   rw[fK,al,show toNat ((x.stack.length:Int)-1)=x.stack.length-1 by omega,DY,iD]
  rw[e]
 |t::b,i,x,R,h,k,o,j,a=>by
  obtain⟨q,s,z⟩:=bM h;have g:(ae.map Tok.row)[toNat (i:Int)]?=some [N t.kind,S t.text,N t.file,C t.spot]:=aP q;unfold ik at a;cases hk:(bif t.kind !=5 then true else !(t.text==ju))<;>rw[hk]at a<;>simp only[ai,af]at a
  .cases b<;>simp at a
  .have v:=ach l rec ae w c d f b (i+1) {x with fq:=x.fq++[t]} R s k o (by simp at j⊢; omega) a
   refine v.mono ?_;have step:∀r h,Lp f93 0 (oB (ae.map Tok.row) ((i:Int)+1) (l.map Fl.row) (x.stack.map fun n=>[N n]) x.n ((x.fq++[t]).map Tok.row) c d f) 1 r h ->
     Lp f93 0 (oB (ae.map Tok.row) i (l.map Fl.row) (x.stack.map fun n=>[N n]) x.n (x.fq.map Tok.row) c d f) 1 r h:=by
    intro r p u;have push:(x.fq.map Tok.row++([[N t.kind,S t.text,N t.file,C t.spot]]:Rw)).length*48<=2^47/\aq ((i:Int)+1)/\Lp f93 0 (oB (ae.map Tok.row) ((i:Int)+1) (l.map Fl.row) (x.stack.map fun n=>[N n]) x.n (x.fq.map Tok.row++([[N t.kind,S t.text,N t.file,C t.spot]]:Rw)) c d f) 1 r p:=by
     refine⟨by simp at j⊢; omega,au,?_⟩
     rw[Dm];exact u
    refine Ry _ _ _ _ _ _ _ _ _ (aL (l:=ae) (by simp) h ⟨_,_,_,_,by omega,g,ad (fun m=>⟨_,_,_,_,by omega,g,push⟩) fun m=>⟨_,_,_,_,by omega,g,bj ?_ ⟨_,_,_,_,by omega,g,push⟩⟩⟩)
    rw[m]at hk;exact hk
   exact fun r y=>step r _
abbrev aci(l:List Fl)(m:Int)(x:Wv)(R:Except xR Wv):Prop:=O1 l (ak 93 [.az 0 0,vN m] [wv l x]) R
def Tq(h:Lp f93 0 a 1 r [wv l y]):Lp f93 0 a 1 r [ZV l y]:=h.wc [(0,1)]
def L93(l:List Fl)(d:Nat)(hp:∀f∈l,f.path.length<=2^28)(A:∀m x R,iP l d m x=some R->WOK l x->0<=m->x.stack.length+d<=2^30->x.fq.length+20000*d<=2^40->aci l m x R)(ae:List Tok)(b2:ae.length<=2^30)(a4:∀t∈ae,t.text.length<=2^28)(c s:Int)(v:Cx):
  ∀(k:List Tok)(i:Nat)(x:Wv)(R:Except xR Wv),ae.drop i=k->x.stack≠[]->WOK l x->x.stack.length+d<=2^30->x.fq.length+k.length+20000*d<=2^40->ik (iP l d) l k false x=some R ->
   O1 l (Lp f93 0 (zR (ae.map Tok.row) i (l.map Fl.row) (x.stack.map fun n=>[N n]) x.n (x.fq.map Tok.row) c s v) 1) R
 |[],i,x,R,h,G,ok,M,E,g=>by
  simp only[ik,ay]at g;subst g;have hs:=ok.deep;have:0<x.stack.length:=by cases hx:x.stack with|nil=>exact absurd hx G|cons=>simp
  refine Rx _ _ _ _ _ _ _ _ _ (aQ (l:=ae) (by simp) h ⟨au (by simp;omega) (by simp;omega),⟨by simp,by simp;omega,by simp;omega⟩,bE rfl ?_⟩)
  have e:drop 0 (take (toNat (((x.stack.map fun n=>[N n]).length:Int)-1)) (x.stack.map fun n=>[N n]))=x.stack.dropLast.map fun n=>[N n]:=by
   rw[fK,al,show toNat ((x.stack.length:Int)-1)=x.stack.length-1 by omega,DY,iD]
  rw[e]
 |t::k,i,x,R,h,G,ok,M,E,g=>by
  obtain⟨h1,h2,h3⟩:=bM h;have q:(ae.map Tok.row)[toNat (i:Int)]?=some [N t.kind,S t.text,N t.file,C t.spot]:=aP h1;unfold ik at g;cases hk:(bif t.kind !=5 then true else !(t.text==ju))<;>rw[hk]at g<;>simp only[ai,af]at g
  .have a0:(t.kind !=5)=false:=by revert hk;cases t.kind !=5<;>simp
   have b1:(!(t.text==[35,105,110,99,108,117,100,101]))=false:=by rw[a0]at hk;exact hk
   have e:drop (toNat (i:Int)) (take (ae.map Tok.row).length (ae.map Tok.row))=(t::k).map Tok.row:=by
    rw[dE (ar _),toNat_cast,<-mV,h]
   have o:=afg l x (t::k) ok G (fun u hu=>a4 u (uE (h▸hu))) hp
   have J:∀r D,(∃target Z F,ak 130 [.az 0 0,vL 4 ((t::k).map Tok.row)] [wv l x] [vN target,vN Z] [.aH [vL 2 (l.map Fl.row),O 1 (x.stack.map fun n=>[N n]),vN F,O 4 (x.fq.map Tok.row)]]/\aI (Z !=0) (Fi r D [.agg [N Z,N t.file,C t.spot]] [.aH [vL 2 (l.map Fl.row),O 1 (x.stack.map fun n=>[N n]),vN F,O 4 (x.fq.map Tok.row)]])
     (∃Y a8 a9 Q T X,ak 93 [.az 0 0,vN target] [.aH [vL 2 (l.map Fl.row),O 1 (x.stack.map fun n=>[N n]),vN F,O 4 (x.fq.map Tok.row)]] [.agg [N Y,N a8,C a9]] [.aH [vL 2 (l.map Fl.row),vL 1 Q,vN T,O 4 X]]/\aI (Y !=0) (Fi r D [.agg [N Y,N a8,C a9]] [.aH [vL 2 (l.map Fl.row),vL 1 Q,vN T,O 4 X]])
     (aq ((i:Int)+1)/\aq (((i:Int)+1)+1)/\Lp f93 0 (oB (ae.map Tok.row) (((i:Int)+1)+1) (l.map Fl.row) Q T X c s v) 1 r D)))->
     Lp f93 0 (zR (ae.map Tok.row) i (l.map Fl.row) (x.stack.map fun n=>[N n]) x.n (x.fq.map Tok.row) c s v) 1 r D:=by
    intro r D ⟨a,b,n',e1,w⟩;refine Rx _ _ _ _ _ _ _ _ _ (aL (l:=ae) (by simp) h ⟨_,_,_,_,by omega,q,aw a0 ⟨_,_,_,_,by omega,q,aw b1 ⟨⟨by omega,by simp;omega,by omega⟩,a,b,n',by rw[e];exact e1,?_⟩⟩⟩)
    revert w
    cases(b !=0)with
    |true=>exact fun w=>⟨_,_,_,_,by omega,q,_,_,_,_,by omega,q,w⟩
    |false=>exact fun w=>w
   cases k with
   |nil=>
    simp at g;subst g;exact⟨by decide,_,Tq (y:=x) (J _ _ ⟨_,_,_,o,bj rfl fi⟩)⟩
   |cons p k=>
    simp only[kp,af]at g;rw[show vl l x (t::p::k)=fO l x p from rfl]at o
    cases Zs:((fO l x p).2 !=0)<;>rw[Zs]at g<;>simp only[ai,af]at g
    .have H:((fO l x p).2==0)=true:=by revert Zs;simp[bne]
     rw[H]at o;simp only[ai]at o;have a6:WOK l {x with n:=x.n+1}/\0<=(fO l x p).1:=by
      have j:(fO l x p).2=0:=by simpa using H
      unfold fO at j⊢;revert j
      cases p.kind !=4<;>simp only[ai,af]<;>try(intro j;simp at j;done)
      cases !(o7 (l.getD (x.stack.getLastD 0).toNat ⟨[],[]⟩).path p.text).2<;>simp only[ai,af]<;>try(intro j;simp at j;done)
      cases hf : !(fF l (o7 (l.getD (x.stack.getLastD 0).toNat ⟨[],[]⟩).path p.text).1).2<;>simp only[ai,af]<;>try(intro j;simp at j;done)
      cases x.stack.any ((fF l (o7 (l.getD (x.stack.getLastD 0).toNat ⟨[],[]⟩).path p.text).1).1 == ·)<;>simp only[ai,af]<;>try(intro j;simp at j;done)
      cases decide ((x.stack.length:Int)>=8)<;>simp only[ai,af]<;>try(intro j;simp at j;done)
      cases hn:decide (x.n>=1000)<;>simp only[ai,af]<;>try(intro j;simp at j;done)
      intro _;have hn:=bI hn;have:=ok.n;exact⟨⟨ok.len,ok.path,ok.stack,ok.deep,by simp;omega⟩,(vm (by simpa using hf)).1⟩
     have K:=fun R h=>A (fO l x p).1 {x with n:=x.n+1} R h a6.1 a6.2 M (by simp at E⊢; omega)
     cases hw:iP l d (fO l x p).1 {x with n:=x.n+1}with
     |none=>rw[hw]at g;simp at g
     |some R0=>
      rw[hw]at g;have a5:=K R0 hw;cases R0 with
      |error f=>
       obtain⟨e0,f1,f2⟩:=f;simp at g;subst g;obtain⟨a7,y,hy⟩:=a5;exact⟨a7,y,J _ _ ⟨_,_,_,o,aw Zs ⟨_,_,_,_,_,_,hy,bj (by simpa using a7) fi⟩⟩⟩
      |ok y=>
       obtain⟨I,y2⟩:=xe l d _ _ _ hw;have y2:y.fq.length<=x.fq.length+20000*d:=y2;have I:y.stack=x.stack:=I;have b0:ae.drop (i+2)=k:=by
        obtain⟨a1,a2,a3⟩:=bM h;exact(bM a2).2.1
       have hs:=ok.deep;have b4:=ach l (iP l d) ae (by omega) c s v k (i+2) y R b0 (by rw[I];exact G) (by rw[I];omega) (by simp only[aD]at E;omega) g
       refine b4.mono fun r z b3=>J _ _ ⟨_,_,_,o,aw Zs ⟨_,_,_,_,_,_,a5,aw rfl ⟨au,au,?_⟩⟩⟩
       exact b3
    .obtain rfl:=ax g
     have H:((fO l x p).2==0)=false:=by revert Zs;simp[bne]
     rw[H]at o;simp only[af]at o;exact⟨by simpa using Zs,_,Tq (y:=x) (J _ _ ⟨_,_,_,o,bj Zs fi⟩)⟩
  .have K:=L93 l d hp A ae b2 a4 c s v k (i+1) {x with fq:=x.fq++[t]} R h2 G ⟨ok.len,ok.path,ok.stack,ok.deep,ok.n⟩ M (by simp at E⊢; omega) g
   refine K.mono fun r y hh=>?_
   have push:(x.fq.map Tok.row++([[N t.kind,S t.text,N t.file,C t.spot]]:Rw)).length*48<=2^47/\aq ((i:Int)+1)/\Lp f93 0 (zR (ae.map Tok.row) ((i:Int)+1) (l.map Fl.row) (x.stack.map fun n=>[N n]) x.n (x.fq.map Tok.row++([[N t.kind,S t.text,N t.file,C t.spot]]:Rw)) c s v) 1 r [ZV l y]:=by
    refine⟨by simp at E⊢; omega,au,?_⟩
    rw[Dm];exact hh
   refine Rx _ _ _ _ _ _ _ _ _ (aL (l:=ae) (by simp) h ⟨_,_,_,_,by omega,q,ad (fun h4=>⟨_,_,_,_,by omega,q,push⟩) fun h4=>⟨_,_,_,_,by omega,q,bj ?_ ⟨_,_,_,_,by omega,q,push⟩⟩⟩)
   rw[h4]at hk;exact hk
def C93(l:List Fl)(k:∀f∈l,f.path.length<=2^28):∀(d:Nat)(m:Int)(x:Wv)(R:Except xR Wv),iP l d m x=some R->WOK l x->0<=m->x.stack.length+d<=2^30->x.fq.length+20000*d<=2^40->aci l m x R
 |0,m,x,R,h,_,_,_,_=>by simp[iP]at h
 |d+1,m,x,R,h,ok,i,G,D=>by
  unfold iP at h;split at h<;>try(simp at h;done)
  rename_i f g;have w:=aK g;have H:=(ok.path f w).2;have E:=ok.deep;have q:(l.map Fl.row)[toNat m]?=some [S f.path,S f.text]:=by rw[bu,g];rfl
  have b:=afa f.text m (by omega)
  split at h
  .rename_i e c a
   obtain rfl:=ax h;rw[a]at b;have p:e≠0:=by
    unfold jN at a;cases h1:decide ((f.text.length:Int)>20000)<;>rw[h1]at a<;>simp only[ai,af]at a
    .split at a<;>simp at a
     omega
    .simp at a
     omega
   exact⟨p,x,(W93 _ _ _ _ _ ⟨_,_,i,q,_,_,_,_,b,bj (by simpa using p) fi⟩).wc [(0,1)]⟩
  .rename_i o j
   rw[j]at b;have z:=zQ j;have v:=xB j;have:=L93 l d k (C93 l k d) o (by omega) (fun t h=>by have:=v t h;omega) 0 0 (some (0,0)) o 0 {x with stack:=x.stack++[m]} R rfl (by simp) ⟨ok.len,ok.path,fun s h=>?_,by simp;omega,ok.n⟩ (by simp;omega) (by simp;omega) h
   .refine this.mono fun r y u=>W93 _ _ _ _ _ ⟨_,_,i,q,_,_,_,_,b,aw rfl ⟨by simp;omega,?_⟩⟩
    rw[show x.stack.map (fun n=>[N n])++([[N m]]:Rw)=(x.stack++[m]).map fun n=>[N n] by simp]
    exact u
   .rcases bp.1 h with h|h
    .exact ok.stack s h
    .simp at h;subst h;exact⟨i,(aE.1 g).1⟩
def nH(l:List Fl)(a:By):Option (Except xR (List Tok)):=
 bif !(fF l a).2 then some (.error (4,-1,E3))else
 match iP l 9 (fF l a).1 ⟨[],0,[]⟩with
 |none=>none
 |some (.error f)=>some (.error f)
 |some (.ok y)=>some (.ok y.fq)
def Zt:Except xR (List Tok)->List AV
 |.ok l=>[vL 4 (l.map Tok.row),.agg [N 0,N 0,C E3]]
 |.error (e,f,c)=>[vL 4 [],.agg [N e,N f,C c]]
def C75(l:List Fl)(b:By)(g:l.length<=2^40)(d:∀f∈l,f.path.length<=2^28/\f.text.length<=2^28)(m:b.length<=2^31)(h:nH l b=some R):ak 75 [vL 2 (l.map Fl.row),vS b] [] (Zt R) []:=by
 unfold nH at h;refine W75 _ _ ⟨_,_,C76 l b g (fun f a=>by have:=(d f a).1;omega) m,ad (fun c=>?_) fun c=>?_⟩
 .rw[c]at h
  obtain rfl:=ax h;exact fi
 .rw[c]at h
  simp only[af]at h;have a:=vm (show(fF l b).2=true by simpa using c)
  have i:=fun R h=>C93 l (fun f a=>(d f a).1) 9 (fF l b).1 ⟨[],0,[]⟩ R h ⟨g,fun f a=>⟨by have:=(d f a).1;omega,by have:=(d f a).2;omega⟩,by simp,by simp,by simp⟩ a.1 (by simp) (by simp)
  split at h
  .simp at h
  .rename_i f e
   obtain rfl:=ax h;obtain⟨j,y,k⟩:=i _ e;exact⟨_,_,_,_,_,_,k,bj (by simpa using j) fi⟩
  .rename_i y e
   obtain rfl:=ax h;exact⟨_,_,_,_,_,_,i _ e,aw rfl fi⟩
def W31(H:∃e f g i j a k l,ak 55 [vL 2 b,vS c] [] [.agg [L 6 e,L 2 f,L 1 g,N i,N j],.agg [N a,N k,C l]] []/\aI (a !=0) (Fi r h [vL 4 [],.agg [N a,N k,C l]] [])
 (Ot 56 [.agg [L 6 e,L 2 f,L 1 g,N i,N j],vS d] [] fun n m=>aI (m !=0) (Fi r h [vL 4 [],.agg [N m,N (-1),C (some (0,0))]] [])
 (Fi r h [vL 4 n,.agg [N 0,N 0,C (some (0,0))]] []))):
  ak 31 [vL 2 b,vS c,vS d] [] r h:=.of func31 {an:=[(1,2,ah),(4,2,ah)]} H
def W55(a:Rw)(b:By)(H:∃e c f g,ak 75 [vL 2 a,vS b] [] [vL 4 e,.agg [N c,N f,C g]] []/\aI (c !=0) (Fi r h [.agg [L 6 [],L 2 [],L 1 [],N 0,N 0],.agg [N c,N f,C g]] [])
 (LY 76 [vL 2 a,vS b] [] fun d u=>Qj a d fun v s=>Qj a d fun w t=>∃i,ak 78 [vS s,vN (t.length:Int)] [] [vC i] []/\∃j k l m n o p q,ak 77 [vL 4 e,.agg [N 0,N d,C i]] [] [.agg [L 6 j,L 2 k,L 1 l,N m,N n],.agg [N o,N p,C q]] []/\Fi r h [.agg [L 6 j,L 2 k,L 1 l,N m,N n],.agg [N o,N p,C q]] [])):
  ak 55 [vL 2 a,vS b] [] r h:=.of func55 {an:=[(1,2,ah),(3,1,gw),(3,2,fv),(3,3,eP),(4,2,ah),(5,6,ah),(5,11,ah),(5,13,ah),(5,15,ah)]} H
def W56(H:∃k d,ak 79 [.agg [L 6 g,L 2 i,L 1 j,N a,N b],vS c] [] [vL 9 k,vN d] []/\aI (d !=0) (Fi r h [vL 4 [],vN d] [])
 (∃l e,ak 80 [vL 9 k] [] [vL 2 l,vN e] []/\aI (e !=0) (Fi r h [vL 4 [],vN e] [])
 (Jq 81 [vS c] [] fun p t=>Kf 83 [vL 2 l,.agg [N a,N b]] [] fun q=>∃m f,ak 82 [vW p,vL 5 q] [] [vL 5 m,vN f] []/\aI (f !=0) (Fi r h [vL 4 [],vN f] [])
 (Ot 84 [vL 5 m] [] fun n o=>aI (o !=0) (Fi r h [vL 4 [],vN o] [])
 (LY 35 [vL 4 n] [] fun u s=>aI (!s) (Fi r h [vL 4 [],vN 10] [])
 (Fi r h [vL 4 n,vN 0] [])))))):
  ak 56 [.agg [L 6 g,L 2 i,L 1 j,N a,N b],vS c] [] r h:=.of func56 {an:=[(1,2,ah),(4,1,ah),(7,1,ah),(8,4,ah),(8,5,ah),(11,1,ah),(14,1,ah)]} H
def W17(H:∃d e f g,ak 31 [vL 2 a,vS b,vS c] [] [vL 4 d,.agg [N e,N f,C g]] []/\Hb 32 [vL 4 d] [] fun i=>Fi r h [vL 1 i,.agg [N e,N f,C g]] []):
  ak 17 [vL 2 a,vS b,vS c] [] r h:=.of func17 {an:=[(1,3,ah),(2,1,ah)]} H
def W18(H:Ot 33 [vL 1 b] [] fun o p=>aI (p !=0) (Fi r h [vW 0,vN p] [])
 (∃d e f g i j k l m a,ak 34 [vL 1 c] [] [.agg [W d,W e,U f,U g,U i,U j,U k,U l,U m],vN a] []/\aI (a !=0) (Fi r h [vW 0,vN a] [])
 (LY 35 [vL 4 o] [] fun u t=>aI (!t) (Fi r h [vW 0,vN 10] [])
 (∃n q s,ak 36 [vL 4 o,.agg [W d,W e,U f,U g,U i,U j,U k,U l,U m]] [] [vW n,vN q,vB s] []/\Fi r h [vW n,vN 0] [])))):
  ak 18 [vL 1 b,vL 1 c] [] r h:=.of func18 {an:=[(1,1,ah),(4,1,ah),(7,1,ah),(10,2,ah)]} H
def sk{B:Nat}(e:∀m x y,rec m x=some (.ok y)->(∀t∈x.fq,t.text.length<=B)->∀t∈y.fq,t.text.length<=B):∀(b:List Tok)(soft:Bool)(x y:Wv),ik rec l b soft x=some (.ok y)->
  (∀t∈b,t.text.length<=B)->(∀t∈x.fq,t.text.length<=B)->∀t∈y.fq,t.text.length<=B
 |[],soft,x,y,h,_,c=>by
  simp only[ik,ay,Except.ok.injEq]at h;subst h;exact c
 |t::b,soft,x,y,h,d,c=>by
  unfold ik at h;cases h1:(bif t.kind !=5 then true else !(t.text==ju))<;>rw[h1]at h<;>simp only[ai,af]at h
  .match b,h with
   |[],h=>cases soft<;>simp at h
   |p::b,h=>
    cases soft with
    |true=>simp at h
    |false=>
     simp only[af]at h;cases h2:((fO l x p).2 !=0)<;>rw[h2]at h<;>simp only[ai,af]at h
     .split at h
      .simp at h
      .simp at h
      .rename_i z a
       exact sk e b true z y h (fun t h=>d t (aV _ (aV _ h))) (e _ _ _ a c)
     .simp at h
  .refine sk e b soft _ y h (fun t h=>d t (aV _ h)) fun z a=>?_
   rcases bp.1 a with a|a
   .exact c z a
   .simp at a;subst a;exact d z aW
def xS(l:List Fl):∀(d:Nat)(m:Int)(x y:Wv),iP l d m x=some (.ok y)->(∀t∈x.fq,t.text.length<=20000)->∀t∈y.fq,t.text.length<=20000
 |0,m,x,y,h,_=>by simp[iP]at h
 |d+1,m,x,y,h,a=>by
  unfold iP at h;split at h<;>try(simp at h;done)
  rename_i f e;split at h
  .simp at h
  .rename_i b c
   exact sk (xS l d) b false _ y h (xB c) a
def vP(l:List Fl)(a:By):Option (fT×xR):=match nH l a with
 |none=>none
 |some (.error f)=>some (⟨[],[],[],⟨0,0⟩⟩,f)
 |some (.ok b)=>some (Ad b 0 (fF l a).1 none)
structure Z1 (l:List Fl) (root:By):Prop where
 len:l.length<=2^40
 each:∀f∈l,f.path.length<=2^28/\f.text.length<=2^28
 root:root.length<=2^31
def O2(c:Z1 l b)(h:nH l b=some (.error f)):f.1≠0:=by
 unfold nH at h;cases h1 : !(fF l b).2<;>rw[h1]at h
 .rw[af]at h
  have a:=vm (show(fF l b).2=true by simpa using h1)
  have e:=fun R h=>C93 l (fun f a=>(c.each f a).1) 9 (fF l b).1 ⟨[],0,[]⟩ R h ⟨c.len,fun f a=>⟨by have:=(c.each f a).1;omega,by have:=(c.each f a).2;omega⟩,by simp,by simp,by simp⟩ a.1 (by simp) (by simp)
  split at h
  .simp at h
  .rename_i g d
   simp at h;subst h;exact(e _ d).1
  .simp at h
 .simp at h;subst h;decide
def Tr(h:nH l a=some (.ok c)):(fF l a).2=true/\TK c:=by
 unfold nH at h;cases h1 : !(fF l a).2<;>rw[h1]at h
 .rw[af]at h
  refine⟨by simpa using h1,?_⟩
  split at h
  .simp at h
  .simp at h
  .rename_i y b
   simp at h;subst h;have d:=(xe l 9 _ _ _ b).2;have e:=xS l 9 _ _ _ b (by simp)
   simp at d;exact⟨by omega,fun t f=>by have:=e t f;omega⟩
 .simp at h
def C55(l:List Fl)(b:By)(a:Z1 l b)(h:vP l b=some R):ak 55 [vL 2 (l.map Fl.row),vS b] [] [qm R.1,R4 R.2] []:=by
 unfold vP at h;split at h
 .simp at h
 .rename_i f c
  have m:=O2 a c;obtain rfl:=ax h;exact W55 _ _ ⟨_,_,_,_,C75 l b a.len a.each a.root c,bj (by simpa using m) fi⟩
 .rename_i k c
  obtain⟨g,tk⟩:=Tr c;obtain⟨f1,f2⟩:=vm g;obtain rfl:=ax h;have d:l[(fF l b).1.toNat]?=some l[(fF l b).1.toNat]:=bo f2;have j:=aK d;have e:(l.map Fl.row)[toNat (fF l b).1]?=some [S (l[(fF l b).1.toNat]).path,S (l[(fF l b).1.toNat]).text]:=by rw[bu,d];rfl
  exact W55 _ _ ⟨_,_,_,_,C75 l b a.len a.each a.root c,aw rfl ⟨_,_,C76 l b a.len (fun f i=>by have:=(a.each f i).1;omega) a.root,_,_,f1,e,_,_,f1,e,_,C78 _ (by have:=(a.each _ j).2;omega),_,_,_,_,_,_,_,_,C77 k 0 _ none tk,fi⟩⟩
def lowerB(ao:By)(d:Act)(b:List Bd):List In×Int:=match qp b with
 |.error e=>([],e)
 |.ok a=>bif(fH (dh ao).1 (cC a d)).2 !=0 then([],(fH (dh ao).1 (cC a d)).2)else
  bif(gK (fH (dh ao).1 (cC a d)).1).2 !=0 then([],(gK (fH (dh ao).1 (cC a d)).1).2)else
  bif !(jT (gK (fH (dh ao).1 (cC a d)).1).1).2 then([],10)else((gK (fH (dh ao).1 (cC a d)).1).1,0)
def db(u:fT)(ao:By):List In×Int:=match eS u ao with
 |.error e=>([],e)
 |.ok a=>lowerB ao u.ch a
def II:∀{l:List gP}{b:List Bd}{e:Int},iN u ao a l b = .error e->(e !=0)=true
 |[],b,e,h=>by simp[iN]at h
 |r::t,b,e,h=>by
  unfold iN at h;cases hz:(eu u ao r a).2 !=0<;>rw[hz]at h
  .exact II h
  .simp at h;subst h;exact hz
def xf:∀{l:List cQ}{a:List Bd}{e:Int},gC u ao l a = .error e->(e !=0)=true
 |[],a,e,h=>by simp[gC]at h
 |p::t,a,e,h=>by
  unfold gC at h;split at h
  .rename_i c b
   simp at h;subst h;exact II b
  .exact xf h
def Dn(h:eS u ao = .error e):(e !=0)=true:=by
 unfold eS at h;cases h1 : !(dh ao).2<;>rw[h1]at h
 .cases h2 : !jm u<;>rw[h2]at h
  .rw[af,af]at h
   split at h
   .rename_i i b a
    simp at h;subst h;exact wV a
   .split at h
    .rename_i b a
     simp at h;subst h;exact H0 a
    .exact xf h
  .simp at h;subst h;rfl
 .simp at h;subst h;rfl
def xg:∀{a:List Bd}{m:List Mk}{e:Int},cE a m = .error e->(e !=0)=true
 |[],m,e,h=>by simp[cE]at h
 |b::t,m,e,h=>by
  unfold cE at h;cases h1 : !(cg b.act).2<;>rw[h1]at h
  .cases h2:(cA b.cond).2 !=0<;>rw[h2]at h
   .exact xg h
   .simp at h;subst h;exact h2
  .simp at h;subst h;rfl
def Bg:∀{m:List Mk}{y:Mk},y∈m->y.2.length<=kM m
 |z::m,y,h=>by
  rcases aY.1 h with rfl|h
  .simp only[kM,bG,eV];omega
  .have:=Bg h
   simp only[kM,bG,eV]at this⊢;omega
def Ts(h:Z0 s):H8 s:=⟨by have:=h.1;omega,fun l a=>by have:=h.2 l a;omega⟩
def Zu(h:cE a []=.ok m)(d:Vw a):(bO m).length<=2^30/\∀c∈bO m,Ve c:=by
 have b:=A2 a [] m 0 h ⟨by simp,by simp[kM],by simp⟩ d.sz
 have i:=b.len;have j:=b.st;have l:=d.len;refine⟨by unfold bO;rw[al,wZ,al];omega,fun c f=>?_⟩
 obtain⟨k,_,rfl⟩:=bh.1 f;show(eH m k).length<=2^40/\∀s∈eH m k,H8 s
 unfold eH;cases hg:gF m k with
 |none=>simp
 |some y=>
  have e:=(l5 hg).1;have:=Bg e;exact⟨by show y.2.length<=_;omega,fun s g=>Ts (b.each y e s g)⟩
def Dp:∀(l:List Sp),l.length<=gJ l
 |[]=>by simp
 |s::l=>by have:=Dp l;simp only[gJ,aD];omega
def Dq:∀{l:List Sn}{x:Sn},x∈l->x.steps.length<=iy l
 |y::l,x,h=>by
  rcases aY.1 h with rfl|h
  .have:=Dp x.steps;simp only[iy];omega
  .have:=Dq h;simp only[iy];omega
def IJ(a:By):A8 (dh a).1:=by
 have k:∀n:Int,0<=n->n<4294967296->A8 n:=fun n b c=>⟨b,c⟩
 unfold dh;cases a==[97,97,114,99,104,54,52]
 .cases a==[105,51,56,54]
  .cases a==[120,56,54,95,54,52]
   .exact k 0 (by decide) (by decide)
   .exact k 3221225534 (by decide) (by decide)
  .exact k 1073741827 (by decide) (by decide)
 .exact k 3221225655 (by decide) (by decide)
def IK(h:(gK l).2=0):(gK l).1=vG l/\l.length<=4096:=by
 unfold gK at h⊢;cases h1 : !(dr l).1<;>rw[h1]at h
 .rw[af]at h⊢
  cases h2:decide ((l.length:Int)>4096)<;>rw[h2]at h
  .rw[af]at h⊢
   cases h3:decide (((vG l).length:Int)>4096)<;>rw[h3]at h
   .exact⟨rfl,by have:=bI h2;omega⟩
   .simp at h
  .simp at h
 .simp at h
structure acj (ao:By) (d:Act) (bs:List Bd) (m:List Mk):Prop where
 syms:∀x∈(fH (dh ao).1 (cC (bO m) d)).1,A8 x.k
 len:(fH (dh ao).1 (cC (bO m) d)).1.length<=2^40
def Tt(h:cE a []=.ok m)(c:Vw a):acj ao d a m:=by
 have j:=A6 d h c;refine⟨Vx (IJ ao) (Df d h fun b _=>O0 b.cond),?_⟩
 unfold fH;cases hr : !gp (cC (bO m) d) 0
 .have g:WB (fy (cJ (nT (fy (fy (dK ⟨[],0,0⟩) 0 0 32 4) 1 0 21 (dh ao).1) ⟨1,0⟩) 1) 0 0 32 0) 4:=⟨by simp[fy,cJ,nT,dK],by simp[fy,cJ,nT,dK],by simp[fy,cJ,nT,dK]⟩
  have i:1<=(cC (bO m) d).length:=by
   have e:=(kL d h c.nr).1;cases hsp:cC (bO m) d with
   |nil=>rw[hsp]at e;have f:(0:Int)=4294967296:=e;simp at f
   |cons x t=>simp
  have:=(s4 (cC (bO m) d).length (cC (bO m) d) _ 4 (ar _) i g).l;simp only[af];omega
 .simp
def C56(u:fT)(ao:By)(z:og u)(w:∀g,eS u ao = .ok g->Vw g):ak 56 [qm u,vS ao] [] [vL 4 ((db u ao).1.map In.row),vN (db u ao).2] []:=by
 have n:=C79 u ao z;apply W56;unfold db;cases hr:eS u ao with
 |error e=>
  rw[hr]at n;exact⟨_,_,n,bj (Dn hr) fi⟩
 |ok g=>
  rw[hr]at n;have f:=w g hr;have Z:=f.len;have k:=C80 g (by omega) (fun b p=>by have:=f.sz b p;omega) f.nr
  refine⟨_,_,n,aw rfl ?_⟩;simp only[lowerB];unfold qp at k⊢;cases hc:cE g []with
  |error e=>
   rw[hc]at k;exact⟨_,_,k,bj (xg hc) fi⟩
  |ok m=>
   rw[hc]at k;have t:=Tt (ao:=ao) (d:=u.ch) hc f;obtain⟨E,G⟩:=Zu hc f;have q:=(kL u.ch hc f.nr).1;have Y:=A6 u.ch hc f;have X:=Df (R:=Z0) u.ch hc fun b p=>⟨r6 b.cond,fun x c=>by have:=A0 b.cond x c;have:=f.sz b p;omega⟩
   have M:∀(l:List Sn)(a b:Int),fA l a b->∀x∈l,x.lo<=x.hi:=by
    intro l;induction l with
    |nil=>intro a b _ x c;simp at c
    |cons y l D=>
     intro a b h x c;rcases aY.1 c with rfl|c
     .exact h.2.1
     .exact D _ _ h.2.2 x c
   have T:∀x∈cC (bO m) u.ch,w5 x:=fun x c=>⟨by have:=Dq c;omega,fun s Q=>Ts (X x c s Q)⟩
   have r:∀x∈cC (bO m) u.ch,0<=x.lo/\x.lo<4294967296/\0<=x.hi/\x.hi<4294967296:=fun x c=>by
    have i:=(pj q).2 x c;have j:=M _ _ _ q x c;omega
   have J:=C82 (dh ao).1 (cC (bO m) u.ch) (by omega) T r Y
   have K:=C84 (fH (dh ao).1 (cC (bO m) u.ch)).1 t.len;refine⟨_,_,k,aw rfl ⟨_,_,C81 ao,_,C83 (bO m) u.ch E G (pn hc f.nr),_,_,J,?_⟩⟩;simp only;refine ad (fun i=>aZ (by rw[i];rfl)) fun i=>⟨_,_,K,ad (fun j=>aZ (by rw[i,j];rfl)) fun j=>?_⟩
   have v:(gK (fH (dh ao).1 (cC (bO m) u.ch)).1).2=0:=by simpa using j
   obtain⟨H,F⟩:=IK v;have I:=C35 (gK (fH (dh ao).1 (cC (bO m) u.ch)).1).1 (by rw[H];exact IG t.syms (by omega))
   exact⟨_,_,I,ad (fun o=>aZ (by rw[i,j,o];rfl)) fun o=>aZ (by rw[i,j,o];rfl)⟩
def jF(R:fT×xR)(ao:By):List In×xR:=bif R.2.1 !=0 then([],R.2)else bif(db R.1 ao).2 !=0 then([],((db R.1 ao).2,-1,some (0,0)))else((db R.1 ao).1,(0,0,some (0,0)))
def USm(R:fT×xR)(ao:By):Prop:=R.2.1=0->og R.1/\∀a,eS R.1 ao = .ok a->Vw a
def C31(l:List Fl)(b ao:By)(d:Z1 l b)(h:vP l b=some R)(e:USm R ao):ak 31 [vL 2 (l.map Fl.row),vS b,vS ao] [] [vL 4 ((jF R ao).1.map In.row),R4 (jF R ao).2] []:=by
 apply W31;refine⟨_,_,_,_,_,_,_,_,C55 l b d h,ad (fun a=>aZ (by rw[jF,a];rfl)) fun a=>?_⟩
 obtain⟨f,g⟩:=e (by simpa using a)
 exact⟨_,_,C56 R.1 ao f g,ad (fun c=>aZ (by rw[jF,a,c];rfl)) fun c=>aZ (by rw[jF,a,c];rfl)⟩
def O3(u:fT)(ao:By):(db u ao).1.length<=4096:=by
 unfold db lowerB;split
 .simp
 .split
  .simp
  .rename_i a _
   cases h1:(fH (dh ao).1 (cC a u.ch)).2 !=0
   .cases h2:(gK (fH (dh ao).1 (cC a u.ch)).1).2 !=0
    .cases h3:(jT (gK (fH (dh ao).1 (cC a u.ch)).1).1).2
     .simp
     .exact(pt h3).2.1
    .simp
   .simp
def lg(R:fT×xR)(ao:By):(jF R ao).1.length<=4096:=by
 unfold jF;cases R.2.1 !=0
 .cases(db R.1 ao).2 !=0
  .exact O3 _ _
  .simp
 .simp
def qu(R:fT×xR)(ao:By):List Int:=(fm (jF R ao).1 []).getD []
def C17(l:List Fl)(a ao:By)(b:Z1 l a)(h:vP l a=some R)(c:USm R ao):ak 17 [vL 2 (l.map Fl.row),vS a,vS ao] [] [vL 1 (gj (qu R ao)),R4 (jF R ao).2] []:=by
 apply W17;exact⟨_,_,_,_,C31 l a ao b h c,_,C32 _ (by have:=lg R ao;omega),fi⟩
def C18(f:fm code []=some b)(a:(jT code).2=true)(c:∀x∈code,OP x)(d:Da)(g:C4 d)(H:iB (kK d) code 0 v m):ak 18 [vL 1 (gj b),vL 1 (gj (l6 d))] [] [vW v,vN 0] []:=by
 have hlen:=(pt a).2.1;have q:=IH f fun x k=>(c x k).k
 have p:b.length<=2^40:=by
  obtain⟨e,_⟩:=nG code [] b f;rw[e,dP,List.length_flatMap];have:∀l:List In,(l.map fun x=>(ij x).length).sum=8*l.length:=by
   intro l;induction l with
   |nil=>rfl
   |cons x l n=>simp only[bG,eV,n,aD];show 8+_=_;omega
  rw[this];omega
 have i:=C33 b p;rw[q]at i;have j:=C34 (l6 d) (xa d);rw[Lq g]at j;have o:=C35 code c;apply W18;exact⟨_,_,i,aw rfl ⟨_,_,_,_,_,_,_,_,_,_,j,aw rfl ⟨_,_,o,aw (by rw[a];rfl) ⟨_,_,_,C36 code d g hlen (Dh a c) H,fi⟩⟩⟩⟩
structure aiR (u:fT) (ao:By) (bs:List Bd) (m:List Mk):Prop where
 chain:cE bs []=.ok m
 Z2:(jT (db u ao).1).2=true
 iok:∀x∈(db u ao).1,OP x
 run:∀wd:Int->Int,wd 4=(dh ao).1->A8 (wd 0)->∃x∈cC (bO m) u.ch,x.lo<=wd 0/\wd 0<=x.hi/\∃n,iB wd (db u ao).1 0 (sb (fS wd u.ch (uj (wd 0) bs))) n/\(x.steps=[]->∀D,(cC (bO m) u.ch).length<=2^D->n<=5+2*D)
def Bh(r:∀b,eS u ao = .ok b->Vw b)(h:(db u ao).2=0):∃b m,eS u ao = .ok b/\aiR u ao b m:=by
 cases hr:eS u ao with
 |error e=>
  have a:(db u ao).2=e:=by unfold db;rw[hr]
  have:=Dn hr;rw[<-a,h]at this;simp at this
 |ok b=>
  have j:=r b hr;cases hc:cE b []with
  |error e=>
   have a:(db u ao).2=e:=by unfold db;rw[hr];simp only[lowerB];unfold qp;rw[hc]
   have:=xg hc;rw[<-a,h]at this;simp at this
  |ok m=>
   have I:=Tt (ao:=ao) (d:=u.ch) hc j;have a:db u ao=bif(fH (dh ao).1 (cC (bO m) u.ch)).2 !=0 then([],(fH (dh ao).1 (cC (bO m) u.ch)).2)else
     bif(gK (fH (dh ao).1 (cC (bO m) u.ch)).1).2 !=0 then([],(gK (fH (dh ao).1 (cC (bO m) u.ch)).1).2)else
     bif !(jT (gK (fH (dh ao).1 (cC (bO m) u.ch)).1).1).2 then([],10)else((gK (fH (dh ao).1 (cC (bO m) u.ch)).1).1,0):=by
    unfold db;rw[hr];simp only[lowerB];unfold qp;rw[hc]
   rw[a]at h;generalize t:fH (dh ao).1 (cC (bO m) u.ch)=q at*;cases g:q.2 !=0<;>rw[g]at h a
   .have g:q.2=0:=by simpa using g
    rw[af]at h a;cases f:(gK q.1).2 !=0<;>rw[f]at h a
    .have f:(gK q.1).2=0:=by simpa using f
     rw[af]at h a;cases i : !(jT (gK q.1).1).2<;>rw[i]at h a
     .have i:(jT (gK q.1).1).2=true:=by simpa using i
      rw[af]at h a;obtain⟨E,M⟩:=IK f;refine⟨b,m,rfl,hc,by rw[a];exact i,?_,?_⟩
      .rw[a]
       show∀x∈(gK q.1).1,OP x
       have v:=I.syms;rw[t]at v;rw[E];exact IG v (by omega)
      .intro wd y s
       obtain⟨x,k,p,o⟩:=xM (kL u.ch hc j.nr).1 (wd 0) s.1 s.2;obtain⟨c,w,J⟩:=Tb (wd:=wd) (ao:=(dh ao).1) (l:=cC (bO m) u.ch) (syms:=q.1) (by rw[t,<-g]) (Tk u.ch hc j.nr) y x k p o
       rw[Lm u.ch hc j.nr x k (wd 0) p o]at w;obtain⟨n,K,G⟩:=OT (code:=(gK q.1).1) (by rw[<-f]) w
       refine⟨x,k,p,o,n,by rw[a];exact G,fun H D z=>?_⟩
       have:=J H D z;omega
     .simp at h
    .rw[ai]at h;simp only at h;rw[h]at f;simp at f
   .rw[ai]at h;simp only at h;rw[h]at g;simp at g
def Bi:∀(l:List In)(a:List Int),(∀x∈l,jS x=true)->∃b,fm l a=some b
 |[],a,_=>⟨a,rfl⟩
 |x::t,a,h=>by
  unfold fm;rw[h x aW];exact Bi t _ fun x c=>h x (aV _ c)
def sn(h:(jT l).2=true):∃b,fm l []=some b/\0<b.length:=by
 obtain⟨c,-,d⟩:=pt h;obtain⟨b,a⟩:=Bi l [] fun x f=>(d x f).1
 refine⟨b,a,?_⟩;obtain⟨e,-⟩:=nG l [] b a;match l,c with
 |x::t,_=>rw[e];simp[ij]
abbrev Tu(a:By)(b c:Rw)(d:Int)r h:=Lp f7 0 ⟨aO 55 [(0,vS a),(3,.own 0 0 3 b),(4,vL 5 c),(5,vN d)],[some 0],[]⟩ 0 r h
abbrev Dr(a:By)(b c:Rw)(d e:Int)r h:=Rp f7 14 ⟨aO 55 [(0,vS a),(3,.own 0 0 3 b),(4,vL 5 c),(5,vN d),(6,vN e)],[some 0],[]⟩ 0 r h
def A7:df:={an:=[(2,0,ah),(9,4,ah),(11,4,ah),(13,4,ah),(15,5,ah),(15,12,ah)],cut:=[(4,{bl:=[0,3,4,5],cN:=[(3,3)],owns:=[3]})],join:=[(14,{bl:=[0,3,4,5,6],cN:=[(3,3)],owns:=[3]})]}
def W7(H:Kf 20 [] [] fun b=>Tu a [] b 0 r h):
  ak 7 [vS a] [] r h:=.of func7 A7 H
def ack(c:By)(H:bP (b<(a.length:Int)) (aI (c==[97,97,114,99,104,54,52]) (rJ a b fun i j k l e=>Dr c d a b e r h)
 (aI (c==[105,51,56,54]) (rJ a b fun m n o f p=>Dr c d a b f r h)
 (aI (c==[120,56,54,95,54,52]) (rJ a b fun q s g t u=>Dr c d a b g r h)
 (Dr c d a b (-1) r h))))
 (Fi r h [.own 0 0 3 d] [])):
  Tu c d a b r h:=.of A7 H
def acm(c b:Rw)(H:bP (d>=0) (rJ b a fun f i j k l=>rJ b a fun m g n o p=>(c++([[S f,W (wrap .u32 d),L 1 g]]:Rw)).length*48<=2^47/\aq (a+1)/\Tu e (c++([[S f,W (wrap .u32 d),L 1 g]]:Rw)) b (a+1) r h)
 (aq (a+1)/\Tu e c b (a+1) r h)):
  Dr e c b a d r h:=x7.of A7 H
abbrev Vz(a:By)(b:Rw)(c:Int)(d:By)(e:Int)(f:Rw)r h:=Lp f9 0 ⟨aO 28 [(1,vS a),(4,.az 0 0),(6,vL 3 b),(7,vN c)],[],[.aH [vS d,vW e,O 1 f]]⟩ 0 r h
def A9:df:={an:=[(1,1,ah),(5,4,ah),(6,3,ah)],cut:=[(3,{bl:=[1,4,6,7]})]}
def W9(H:∃c,ak 7 [vS a] [] [vL 3 c] []/\Vz b c 0 [] 0 [] r h):
  ak 9 [vS a,vS b] [] r h:=.of func9 A9 H
def acn(H:bP (a<(b.length:Int)) (EG b a fun g l m=>aI (g==c) (EG b a fun i j k=>Fi r h [.agg [S i,W j,L 1 k],vB true] [])
 (aq (a+1)/\Vz c b (a+1) d e f r h))
 (Fi r h [.agg [S [],W 0,L 1 []],vB false] [])):
  Vz c b a d e f r h:=.of A9 H
abbrev MX(a:By)(b c:Rw)(d:Int)(e f g:Rw)(i j:Int)r h:=Lp f12 0 ⟨aO 93 [(1,vS a),(2,.az 0 0),(11,vL 4 b),(12,.own 0 0 9 c),(13,vN d)],[some 0],[.aH [vL 6 e,vL 2 f,vL 1 g,vN i,vN j]]⟩ 0 r h
abbrev MY(a:By)(b c:Rw)(d e:Int)(f g i:Rw)(j k:Int)r h:=Lp f12 1 ⟨aO 93 [(1,vS a),(2,.az 0 0),(11,vL 4 b),(12,.own 0 0 9 c),(13,vN d),(14,vN e)],[some 0],[.aH [vL 6 f,vL 2 g,vL 1 i,vN j,vN k]]⟩ 0 r h
def A12:df:={an:=[(1,1,ah),(2,4,ah),(4,2,ah),(7,4,ah),(15,5,ah),(17,0,fv),(17,6,ah),(17,11,ah),(17,14,ah),(17,15,ah),(17,20,eP)],cut:=[(12,{bl:=[1,2,11,12,13],cN:=[(12,9)],owns:=[12]}),(15,{bl:=[1,2,11,12,13,14],cN:=[(12,9)],owns:=[12]})]}
def W12(H:Jq 15 [vS f] [] fun o l=>aI (!l) (Fi r h [vL 9 [],vN 1] []) (cb 22 [.agg [L 6 a,L 2 b,L 1 c,N d,N e]] [] fun m=>aI (!m) (Fi r h [vL 9 [],vN 1] [])
 (∃j k g,ak 24 [vL 6 a] [] [vL 1 j,vN k,vN g] []/\aI (g !=0) (Fi r h [vL 9 [],vN g] [])
 (Ot 25 [vL 2 b,vL 1 c] [] fun n i=>aI (i !=0) (Fi r h [vL 9 [],vN i] [])
 (MX f n [] 0 a b c d e r h))))):
  ak 12 [.agg [L 6 a,L 2 b,L 1 c,N d,N e],vS f] [] r h:=.of func12 A12 H
def W4(H:bP (c<(a.length:Int)) (MY d a b c 0 e f g i j r h)
 (Fi r h [.own 0 0 9 b,vN 0] [])):
  MX d a b c e f g i j r h:=.of A12 H
def Xa(b e:Rw)(H:gO b a fun I J K w=>bP (c<(w.length:Int)) (gO b a fun M x y Q=>gO b a fun T X Y z=>pP z c fun D E G=>∃l m n o p q s t u v,ak 26 [.agg [L 6 f,L 2 g,L 1 i,N j,N k],vS d,.agg [N x,N y],.agg [S D,L 1 E,L 5 G]] [] [.agg [W l,N m,N n,N o,N p,N q,U s,U t,L 6 u],vN v] []/\aI (v !=0) (Fi r h [vL 9 [],vN v] [])
 ((e++([[W l,N m,N n,N o,N p,N q,U s,U t,L 6 u]]:Rw)).length*88<=2^47/\aq (c+1)/\MY d b (e++([[W l,N m,N n,N o,N p,N q,U s,U t,L 6 u]]:Rw)) a (c+1) f g i j k r h))
 (aq (a+1)/\MX d b e (a+1) f g i j k r h)):
  MY d b e a c f g i j k r h:=.of A12 H
abbrev qv(a:Int)(b:Bool)(c d:Int)r h:=Rp f13 21 ⟨aO 47 [(1,.az 0 0),(4,vW a),(5,vB b)],[],[.aH [vN c,vN d]]⟩ 0 r h
def A13:df:={an:=[(21,2,aa),(21,3,aa),(21,4,aa),(21,5,aa),(21,6,aa),(21,7,aa),(21,8,aa),(21,9,aa),(21,12,aa),(21,13,aa),(21,14,aa),(21,15,aa),(21,16,aa),(21,17,aa),(21,18,aa)],join:=[(21,{bl:=[1,4,5]})]}
def W13(H:aI (a==1) (qv 2147483648 false a b r h)
 (aI (a==2) (qv 0 false a b r h)
 (aI (a==3) (qv 196608 true a b r h)
 (aI (a==4) (qv 327680 true a b r h)
 (aI (a==5) (qv 2146435072 true a b r h)
 (aI (a==6) (qv 2147221504 false a b r h)
 (aI (a==7) (qv 2147418112 false a b r h)
 (Fi r h [vW 0,vB false] [])))))))):
  ak 13 [.agg [N a,N b]] [] r h:=.of func13 A13 H
def Zv(H:aI (bif(bif b then(bif(decide (a<0))then true else(decide (a>65535)))else false)then true else(bif(!b)then(a !=0)else false)) (Fi r h [vW 0,vB false] [])
 (Fi r h [vW (wrap .u32 (c+(wrap .u32 a))),vB true] [])):
  qv c b d a r h:=x7.of A13 H
def W15(a:By)(H:aI (a==[97,97,114,99,104,54,52]) (Fi r h [vW 3221225655,vB true] [])
 (aI (a==[105,51,56,54]) (Fi r h [vW 1073741827,vB true] [])
 (aI (a==[120,56,54,95,54,52]) (Fi r h [vW 3221225534,vB true] [])
 (Fi r h [vW 0,vB false] [])))):
  ak 15 [vS a] [] r h:=.of func15 {} H
def W20(H:Fi r h [vL 5 [[S [98,114,107],L 1 [[S [97,100,100,114]]],N 12,N 45,N 214],[S [99,108,111,115,101],L 1 [[S [102,100]]],N 3,N 6,N 57],[S [100,117,112],L 1 [[S [102,100]]],N 32,N 41,N 23],[S [101,120,105,116],L 1 [[S [99,111,100,101]]],N 60,N 1,N 93],[S [101,120,105,116,95,103,114,111,117,112],L 1 [[S [99,111,100,101]]],N 231,N 252,N 94],[S [103,101,116,112,105,100],L 1 [],N 39,N 20,N 172],[S [105,111,99,116,108],L 1 [[S [102,100]],[S [114,101,113,117,101,115,116]],[S [97,114,103]]],N 16,N 54,N 29],[S [107,105,108,108],L 1 [[S [112,105,100]],[S [115,105,103]]],N 62,N 37,N 129],[S [109,109,97,112],L 1 [[S [97,100,100,114]],[S [108,101,110]],[S [112,114,111,116]],[S [102,108,97,103,115]],[S [102,100]],[S [111,102,102]]],N 9,N 90,N 222],[S [109,112,114,111,116,101,99,116],L 1 [[S [97,100,100,114]],[S [108,101,110]],[S [112,114,111,116]]],N 10,N 125,N 226],[S [109,117,110,109,97,112],L 1 [[S [97,100,100,114]],[S [108,101,110]]],N 11,N 91,N 215],[S [111,112,101,110],L 1 [[S [112,97,116,104]],[S [102,108,97,103,115]],[S [109,111,100,101]]],N 2,N 5,N (-1)],[S [111,112,101,110,97,116],L 1 [[S [100,105,114]],[S [112,97,116,104]],[S [102,108,97,103,115]],[S [109,111,100,101]]],N 257,N 295,N 56],[S [112,114,99,116,108],L 1 [[S [111,112,116,105,111,110]],[S [97]],[S [98]],[S [99]],[S [100]]],N 157,N 172,N 167],[S [114,101,97,100],L 1 [[S [102,100]],[S [98,117,102]],[S [99,111,117,110,116]]],N 0,N 3,N 63],[S [115,111,99,107,101,116],L 1 [[S [102,97,109,105,108,121]],[S [116,121,112,101]],[S [112,114,111,116,111,99,111,108]]],N 41,N 359,N 198],[S [119,114,105,116,101],L 1 [[S [102,100]],[S [98,117,102]],[S [99,111,117,110,116]]],N 1,N 4,N 64]]] []):
  ak 20 [] [] r h:=.of func20 {} H
abbrev MZ(a:Int)(b c d:Rw)(e f:Int)r h:=Lp f22 0 ⟨aO 88 [(1,.az 0 0),(3,vN a)],[],[.aH [vL 6 b,vL 2 c,vL 1 d,vN e,vN f]]⟩ 0 r h
abbrev M0(a:Int)(b c d:Rw)(e f:Int)r h:=Lp f22 1 ⟨aO 88 [(1,.az 0 0),(4,vN a)],[],[.aH [vL 6 b,vL 2 c,vL 1 d,vN e,vN f]]⟩ 0 r h
abbrev M1(a b:Int)(c d e:Rw)(f g:Int)r h:=Lp f22 2 ⟨aO 88 [(1,.az 0 0),(4,vN a),(5,vN b)],[],[.aH [vL 6 c,vL 2 d,vL 1 e,vN f,vN g]]⟩ 0 r h
def A22:df:={an:=[(4,5,ah),(4,6,ah),(4,14,ah),(4,15,ah),(9,5,ah),(9,6,ah),(12,6,ah),(14,5,ah),(14,8,ah),(14,9,ah),(16,2,ah),(17,2,aa),(17,3,aa),(17,4,aa),(17,5,aa),(17,10,ah)],cut:=[(12,{bl:=[1,4,5]}),(2,{bl:=[1,3]}),(7,{bl:=[1,4]})]}
def W22(H:MZ 0 a b c d e r h):
  ak 22 [.agg [L 6 a,L 2 b,L 1 c,N d,N e]] [] r h:=.of func22 A22 H
def Xb(H:bP (a<(b.length:Int)) (ej b a fun g p q s t u=>cb 40 [vS g] [] fun i=>aI (!i) (Fi r h [vB false] []) (ej b a fun v j k l m n=>cb 41 [.agg [N j,S k,S l,U m,L 5 n]] [] fun o=>aI (!o) (Fi r h [vB false] [])
 (aq (a+1)/\MZ (a+1) b c d e f r h)))
 (M0 0 b c d e f r h)):
  MZ a b c d e f r h:=.of A22 H
def Xc(H:bP (a<(b.length:Int)) (lV b a fun g l=>cb 40 [vS g] [] fun i=>aI (!i) (Fi r h [vB false] [])
 (M1 a 0 f b c d e r h))
 (Jq 13 [.agg [N d,N e]] [] fun m j=>aI (bif j then(decide ((c.length:Int)>0))else false) (cb 43 [vL 1 c] [] fun k=>Fi r h [vB k] []) (Fi r h [vB false] []))):
  M0 a f b c d e r h:=.of A22 H
def Xd(H:lV c a fun p i=>bP (b<(i.length:Int)) (lV c a fun q j=>gO j b fun k l m n=>cb 42 [.agg [S k,N l,N m,L 3 n]] [] fun o=>aI (!o) (Fi r h [vB false] [])
 (aq (b+1)/\M1 a (b+1) d c e f g r h))
 (aq (a+1)/\M0 (a+1) d c e f g r h)):
  M1 a b d c e f g r h:=.of A22 H
abbrev M3(a:By)(b:Int)(c d e:Rw)(f g:Int)r h:=Lp f23 0 ⟨aO 94 [(1,.az 0 0),(3,vS a),(4,vN b)],[],[.aH [vL 6 c,vL 2 d,vL 1 e,vN f,vN g]]⟩ 0 r h
abbrev M4(a:By)(b:Int)(c d e:Rw)(f g:Int)r h:=Lp f23 1 ⟨aO 94 [(1,.az 0 0),(3,vS a),(5,vN b)],[],[.aH [vL 6 c,vL 2 d,vL 1 e,vN f,vN g]]⟩ 0 r h
abbrev M5(a:By)(b:Int)(c:Rw)(d:Int)(e f g:Rw)(i j:Int)r h:=Lp f23 2 ⟨aO 94 [(1,.az 0 0),(3,vS a),(5,vN b),(6,.own 0 0 1 c),(7,vN d)],[some 0],[.aH [vL 6 e,vL 2 f,vL 1 g,vN i,vN j]]⟩ 0 r h
def A23:df:={an:=[(1,1,ah),(7,7,ah),(7,15,ah),(7,16,ah),(13,6,ah),(15,6,ah),(15,9,ah),(15,10,ah),(16,7,ah),(16,11,ah),(17,4,ah),(17,9,ah)],cut:=[(13,{bl:=[1,3,5,6,7],cN:=[(6,1)],owns:=[6]}),(5,{bl:=[1,3,4]}),(9,{bl:=[1,3,5]})]}
def W23(H:cb 22 [.agg [L 6 a,L 2 b,L 1 c,N d,N e]] [] fun f=>aI (!f) (Fi r h [vS []] [])
 (M3 [] 0 a b c d e r h)):
  ak 23 [.agg [L 6 a,L 2 b,L 1 c,N d,N e]] [] r h:=.of func23 A23 H
def Xe(a:By)(H:bP (b<(c.length:Int)) (a.length+([35,100,101,102,105,110,101,32]:By).length<=9223372036854775807/\ej c b fun d p q s t u=>(a++([35,100,101,102,105,110,101,32]:By)).length+d.length<=9223372036854775807/\((a++([35,100,101,102,105,110,101,32]:By))++d).length+([32]:By).length<=9223372036854775807/\ej c b fun v k l m n o=>x8 44 [.agg [N k,S l,S m,U n,L 5 o]] [] fun j=>(((a++([35,100,101,102,105,110,101,32]:By))++d)++([32]:By)).length+j.length<=9223372036854775807/\((((a++([35,100,101,102,105,110,101,32]:By))++d)++([32]:By))++j).length+([10]:By).length<=9223372036854775807/\aq (b+1)/\M3 (((((a++([35,100,101,102,105,110,101,32]:By))++d)++([32]:By))++j)++([10]:By)) (b+1) c e f g i r h)
 (M4 a 0 c e f g i r h)):
  M3 a b c e f g i r h:=.of A23 H
def Xf(H:bP (c<(d.length:Int)) (M5 a c [] 0 j d e f g r h)
 (a.length+([85,83,69,32]:By).length<=9223372036854775807/\x8 47 [vL 1 e,vS [44,32]] [] fun b=>(a++([85,83,69,32]:By)).length+b.length<=9223372036854775807/\((a++([85,83,69,32]:By))++b).length+([32,68,69,70,65,85,76,84,32]:By).length<=9223372036854775807/\x8 48 [.agg [N f,N g]] [] fun i=>(((a++([85,83,69,32]:By))++b)++([32,68,69,70,65,85,76,84,32]:By)).length+i.length<=9223372036854775807/\((((a++([85,83,69,32]:By))++b)++([32,68,69,70,65,85,76,84,32]:By))++i).length+([10]:By).length<=9223372036854775807/\Fi r h [vS (((((a++([85,83,69,32]:By))++b)++([32,68,69,70,65,85,76,84,32]:By))++i)++([10]:By))] [])):
  M4 a c j d e f g r h:=.of A23 H
def Xg(f:Rw)(H:lV c b fun u n=>bP (d<(n.length:Int)) (lV c b fun v o=>gO o d fun p q s t=>x8 45 [.agg [S p,N q,N s,L 3 t]] [] fun m=>(f++([[S m]]:Rw)).length*16<=2^47/\aq (d+1)/\M5 a b (f++([[S m]]:Rw)) (d+1) g c i j k r h)
 (a.length+([80,79,76,73,67,89,32]:By).length<=9223372036854775807/\lV c b fun e w=>(a++([80,79,76,73,67,89,32]:By)).length+e.length<=9223372036854775807/\((a++([80,79,76,73,67,89,32]:By))++e).length+([32]:By).length<=9223372036854775807/\x8 46 [vL 1 f] [] fun l=>(((a++([80,79,76,73,67,89,32]:By))++e)++([32]:By)).length+l.length<=9223372036854775807/\((((a++([80,79,76,73,67,89,32]:By))++e)++([32]:By))++l).length+([10]:By).length<=9223372036854775807/\aq (b+1)/\M4 (((((a++([80,79,76,73,67,89,32]:By))++e)++([32]:By))++l)++([10]:By)) (b+1) g c i j k r h)):
  M5 a b f d g c i j k r h:=.of A23 H
abbrev M6(a b:Rw)(c:Int)r h:=Lp f24 0 ⟨aO 54 [(0,vL 6 a),(5,.own 0 0 1 b),(6,vN c)],[some 0],[]⟩ 0 r h
abbrev M7(a b:Rw)(c d:Int)r h:=Lp f24 1 ⟨aO 54 [(0,vL 6 a),(5,.own 0 0 1 b),(6,vN c),(7,vN d)],[some 0],[]⟩ 0 r h
def A24:df:={an:=[(8,4,ah),(8,9,ah),(10,7,ah),(10,8,ah)],cut:=[(3,{bl:=[0,5,6],cN:=[(5,1)],owns:=[5]}),(6,{bl:=[0,5,6,7],cN:=[(5,1)],owns:=[5]})]}
def W24(H:M6 a [] 0 r h):
  ak 24 [vL 6 a] [] r h:=.of func24 A24 H
def Xh(H:bP (c<(a.length:Int)) (M7 a b c 0 r h)
 (Fi r h [.own 0 0 1 b,vN (-1),vN 0] [])):
  M6 a b c r h:=.of A24 H
def Xi(H:bP (c<a) (ej b c fun g o p q s t=>ej b a fun i u v w x y=>aI (g==i) (Fi r h [vL 1 [],vN a,vN 8] [])
 (aq (c+1)/\M7 b d a (c+1) r h))
 ((0<=(0:Int)/\(0:Int)<=a/\a<=(b.length:Int))/\ej b a fun z j k l m n=>Ud 49 [vL 6 (drop 0 (take (toNat a) b)),.agg [N j,S k,S l,U m,L 5 n]] [] fun e f=>aI (f !=0) (Fi r h [vL 1 [],vN a,vN f] [])
 ((d++([[U e]]:Rw)).length*8<=2^47/\aq (a+1)/\M6 b (d++([[U e]]:Rw)) (a+1) r h))):
  M7 b d a c r h:=.of A24 H
abbrev M8(a b:Rw)(c:Int)r h:=Lp f25 0 ⟨aO 60 [(0,vL 2 a),(1,vL 1 b),(6,vN c)],[],[]⟩ 0 r h
abbrev M9(a b:Rw)(c d:Int)r h:=Lp f25 1 ⟨aO 60 [(0,vL 2 a),(1,vL 1 b),(6,vN c),(7,vN d)],[],[]⟩ 0 r h
abbrev Na(a b c:Rw)(d e:Int)r h:=Lp f25 2 ⟨aO 60 [(0,vL 2 a),(1,vL 1 b),(8,.own 0 0 4 c),(9,.az 0 0),(10,vN d)],[some 0],[.aH [vN e]]⟩ 0 r h
def A25:df:={an:=[(7,4,ah),(7,9,ah),(14,5,ah)],mod:=[(14,6,[(0,[0])])],cut:=[(12,{bl:=[0,1,8,9,10],cN:=[(8,4)],owns:=[8]}),(2,{bl:=[0,1,6]}),(5,{bl:=[0,1,6,7]})]}
def W25(H:M8 a b 0 r h):
  ak 25 [vL 2 a,vL 1 b] [] r h:=.of func25 A25 H
def Xj(H:bP (c<(a.length:Int)) (M9 a b c 0 r h)
 (Na a b [] 0 0 r h)):
  M8 a b c r h:=.of A25 H
def Tv(H:bP (c<a) (lV b c fun e g=>lV b a fun f i=>aI (e==f) (Fi r h [vL 4 [],vN 8] [])
 (aq (c+1)/\M9 b d a (c+1) r h))
 (aq (a+1)/\M8 b d (a+1) r h)):
  M9 b d a c r h:=.of A25 H
def Tw(H:bP (a<(b.length:Int)) (Hc b a fun j=>∃e f i,ak 50 [.az 0 0,vL 2 d,vS j,vL 1 []] [.aH [vN g]] [vL 4 e,vN f] [.aH [vN i]]/\aI (f !=0) (Fi r h [vL 4 [],vN f] [])
 ((c++e).length*56<=2^47/\aq (a+1)/\Na d b (c++e) (a+1) i r h))
 (Fi r h [.own 0 0 4 c,vN 0] [])):
  Na d b c a g r h:=.of A25 H
abbrev Nb(a:Int)(b c d:Rw)(e f g i:Int)(j:By)(k l:Rw)(m n o p q s t u:Int)(v:Rw)(w:By)(x:Int)(y:Rw)r h:=Lp f26 0 ⟨aO 97 [(4,.az 0 0),(6,.az 1 0),(7,.az 2 0),(8,.az 3 0),(10,.az 4 0),(12,vN a)],[],[.aH [vL 6 b,vL 2 c,vL 1 d,vN e,vN f],.aH [vN g,vN i],.aH [vS j,vL 1 k,vL 5 l],K4 m n o p q s t u v,.aH [vS w,vW x,vL 1 y]]⟩ 0 r h
abbrev Nc(a b:Int)(c d e:Rw)(f g i j:Int)(k:By)(l m:Rw)(n o p q s t u v:Int)(w:Rw)(x:By)(y:Int)(z:Rw)r h:=Lp f26 1 ⟨aO 97 [(4,.az 0 0),(6,.az 1 0),(7,.az 2 0),(8,.az 3 0),(10,.az 4 0),(12,vN a),(13,vN b)],[],[.aH [vL 6 c,vL 2 d,vL 1 e,vN f,vN g],.aH [vN i,vN j],.aH [vS k,vL 1 l,vL 5 m],K4 n o p q s t u v w,.aH [vS x,vW y,vL 1 z]]⟩ 0 r h
def A26:df:={an:=[(1,3,ah),(12,4,ah),(12,9,ah),(17,1,fv),(17,4,gw),(17,6,ah),(17,7,ah),(17,12,{fb:=some [6]})],cut:=[(10,{bl:=[4,6,7,8,10,12,13]}),(7,{bl:=[4,6,7,8,10,12]})]}
def W26(H:∃n o c p,ak 9 [vS j,vS a] [] [.agg [S n,W o,L 1 c],vB p] []/\aI (!p) (Fi r h [.agg [W 0,N 0,N 0,N 0,N 0,N 0,U 0,U 0,L 6 []],vN 7] [])
 (bP ((b.length:Int)>(c.length:Int)) (Fi r h [.agg [W 0,N 0,N 0,N 0,N 0,N 0,U 0,U 0,L 6 []],vN 9] [])
 (Nb 0 d e f g i k l a b m 0 0 0 0 0 0 0 0 [] n o c r h))):
  ak 26 [.agg [L 6 d,L 2 e,L 1 f,N g,N i],vS j,.agg [N k,N l],.agg [S a,L 1 b,L 5 m]] [] r h:=.of func26 A26 H
def Xk(H:bP (g<(a.length:Int)) (Nc g 0 i k l m n c d o a e p q s t u v w x y z f b r h)
 (bP ((e.length:Int)>0) (a.length*16<=2^47/\(0<=(a.length:Int)/\(a.length:Int)<=(b.length:Int)/\(b.length:Int)<=(b.length:Int))/\(a++(drop (toNat (a.length:Int)) (take b.length b))).length*16<=2^47/\br e 0 fun M Q T X Y=>∃D E G I J K j,ak 51 [vL 6 i,vL 1 (a++(drop (toNat (a.length:Int)) (take b.length b))),.agg [N M,S Q,S T,U X,L 5 Y]] [] [.agg [N D,N E,N G,U I,U J,L 6 K],vN j] []/\aI (j !=0) (Fi r h [.agg [W 0,N 0,N 0,N 0,N 0,N 0,U 0,U 0,L 6 []],vN j] [])
 (Fi r h [.agg [W f,N c,N d,N D,N E,N G,U I,U J,L 6 K],vN 0] []))
 (Fi r h [.agg [W f,N c,N d,N 1,N 0,N 0,U 0,U 0,L 6 []],vN 0] []))):
  Nb g i k l m n c d o a e p q s t u v w x y z f b r h:=.of A26 H
def Xl(H:bP (b<a) (Hc c a fun D=>Hc c b fun E=>aI (D==E) (Fi r h [.agg [W 0,N 0,N 0,N 0,N 0,N 0,U 0,U 0,L 6 []],vN 8] [])
 (aq (b+1)/\Nc a (b+1) d e f g i j k l c m n o p q s t u v w x y z r h))
 (aq (a+1)/\Nb (a+1) d e f g i j k l c m n o p q s t u v w x y z r h)):
  Nc a b d e f g i j k l c m n o p q s t u v w x y z r h:=.of A26 H
abbrev IL(a:By)(b:Int)r h:=Lp f40 0 ⟨aO 34 [(0,vS a),(3,vN b)],[],[]⟩ 0 r h
def A40:df:={an:=[(1,5,ah),(6,3,ah),(6,9,ah),(8,2,ah)],cut:=[(4,{bl:=[0,3]})]}
def W40(a:By)(H:aI (a==[]) (Fi r h [vB false] []) ((0<=(0:Int)/\0<(a.length:Int))/\cb 66 [vY (UInt8.toNat (List.getD a (toNat 0) 0):Int)] [] fun b=>aI (!b) (Fi r h [vB false] [])
 (IL a 0 r h))):
  ak 40 [vS a] [] r h:=.of func40 A40 H
def Xm(b:By)(H:bP (a<(b.length:Int)) ((0<=a/\a<(b.length:Int))/\cb 66 [vY (UInt8.toNat (List.getD b (toNat a) 0):Int)] [] fun c=>aI (!c) ((0<=a/\a<(b.length:Int))/\cb 67 [vY (UInt8.toNat (List.getD b (toNat a) 0):Int)] [] fun d=>aI (!d) (Fi r h [vB false] [])
 (aq (a+1)/\IL b (a+1) r h)) (aq (a+1)/\IL b (a+1) r h))
 (cb 68 [vL 1 [[S [80,79,76,73,67,89]],[S [85,83,69]],[S [68,69,70,65,85,76,84]],[S [65,76,76,79,87]],[S [76,79,71]],[S [75,73,76,76]],[S [75,73,76,76,95,80,82,79,67,69,83,83]],[S [84,82,65,80]],[S [69,82,82,78,79]],[S [84,82,65,67,69]]],vS b] [] fun e=>Fi r h [vB (!e)] [])):
  IL b a r h:=.of A40 H
def W41(H:aI (b !=8) (cb 69 [.agg [N b,S c,S d,U e,L 5 a]] [] fun f=>Fi r h [vB f] [])
 (aI (bif(bif(bif(c==[])then(d==[])else false)then(e==0)else false)then((a.length:Int)==2)else false) (br a 0 fun g i j k l=>cb 41 [.agg [N g,S i,S j,U k,L 5 l]] [] fun m=>aI m (br a 1 fun n o p q s=>cb 69 [.agg [N n,S o,S p,U q,L 5 s]] [] fun t=>Fi r h [vB t] []) (Fi r h [vB false] [])) (Fi r h [vB false] []))):
  ak 41 [.agg [N b,S c,S d,U e,L 5 a]] [] r h:=.of func41 {an:=[(2,1,ah),(3,4,aa),(3,5,aa),(3,6,aa),(3,9,aa),(3,10,aa),(3,11,aa),(3,14,aa),(3,15,aa),(3,16,aa),(3,17,aa),(3,23,ah),(3,24,ah),(3,30,ah),(3,31,ah)]} H
abbrev qK(a:Bool)(b:Int)(c:By)(d e:Int)(f:Rw)r h:=Lp f42 0 ⟨aO 82 [(1,.az 0 0),(4,vB a),(5,vN b)],[],[.aH [vS c,vN d,vN e,vL 3 f]]⟩ 0 r h
def A42:df:={an:=[(2,2,ah),(2,10,aa),(2,11,aa),(2,12,aa),(2,13,aa),(3,2,ah),(5,6,aa),(7,4,ah),(8,2,ah),(8,6,ah),(8,9,aa),(8,10,aa),(8,11,aa),(8,12,aa),(8,23,ah),(8,24,ah),(8,29,ah),(8,30,ah)],cut:=[(5,{bl:=[1,4,5]})]}
def W42(a:By)(H:aI (!(a==[])) (cb 40 [vS a] [] fun e=>aI e (Fi r h [vB (bif((true&&(b==0))&&(c==0))then((d.length:Int)==0)else false)] []) (Fi r h [vB (bif false then((d.length:Int)==0)else false)] []))
 (Jq 13 [.agg [N b,N c]] [] fun g f=>qK f 0 a b c d r h)):
  ak 42 [.agg [S a,N b,N c,L 3 d]] [] r h:=.of func42 A42 H
def Xn(H:aI (bif(decide (a<(b.length:Int)))then g else false) (pP b a fun i j f=>cb 40 [vS i] [] fun k=>aI k (cb 43 [vL 1 j] [] fun l=>aI (bif l then(decide ((f.length:Int)<=1))else false) (aI ((f.length:Int)==0) (aq (a+1)/\qK true (a+1) c d e b r h) (br f 0 fun m n o p q=>cb 70 [.agg [N m,S n,S o,U p,L 5 q]] [] fun s=>aI s (br f 0 fun t u v w x=>kQ 71 [.agg [N t,S u,S v,U w,L 5 x]] [] fun y=>aq (a+1)/\qK (decide (y<=30)) (a+1) c d e b r h) (aq (a+1)/\qK false (a+1) c d e b r h))) (aq (a+1)/\qK false (a+1) c d e b r h)) (aI (bif false then(decide ((f.length:Int)<=1))else false) (aI ((f.length:Int)==0) (aq (a+1)/\qK true (a+1) c d e b r h) (br f 0 fun z D E G I=>cb 70 [.agg [N z,S D,S E,U G,L 5 I]] [] fun J=>aI J (br f 0 fun K M Q T X=>kQ 71 [.agg [N K,S M,S Q,U T,L 5 X]] [] fun Y=>aq (a+1)/\qK (decide (Y<=30)) (a+1) c d e b r h) (aq (a+1)/\qK false (a+1) c d e b r h))) (aq (a+1)/\qK false (a+1) c d e b r h)))
 (Fi r h [vB g] [])):
  qK g a c d e b r h:=.of A42 H
abbrev Nd(a:Rw)(b:Int)r h:=Lp f43 0 ⟨aO 16 [(0,vL 1 a),(3,vN b)],[],[]⟩ 0 r h
def A43:df:={an:=[(4,3,ah),(4,4,ah)],cut:=[(2,{bl:=[0,3]})]}
def W43(H:Nd a 0 r h):
  ak 43 [vL 1 a] [] r h:=.of func43 A43 H
def Xo(H:bP (a<(b.length:Int)) (Hc b a fun c=>cb 40 [vS c] [] fun d=>aI (!d) (Fi r h [vB false] [])
 (aq (a+1)/\Nd b (a+1) r h))
 (Fi r h [vB true] [])):
  Nd b a r h:=.of A43 H
def Xp(c d:By)(H:aI (b==1) (br a 0 fun q s t u v=>x8 44 [.agg [N q,S s,S t,U u,L 5 v]] [] fun e=>([40]:By).length+e.length<=9223372036854775807/\(([40]:By)++e).length+([32,124,124,32]:By).length<=9223372036854775807/\br a 1 fun w x y z D=>x8 44 [.agg [N w,S x,S y,U z,L 5 D]] [] fun i=>((([40]:By)++e)++([32,124,124,32]:By)).length+i.length<=9223372036854775807/\(((([40]:By)++e)++([32,124,124,32]:By))++i).length+([41]:By).length<=9223372036854775807/\Fi r h [vS ((((([40]:By)++e)++([32,124,124,32]:By))++i)++([41]:By))] [])
 (aI (b==2) (br a 0 fun E G I J K=>x8 44 [.agg [N E,S G,S I,U J,L 5 K]] [] fun f=>([40]:By).length+f.length<=9223372036854775807/\(([40]:By)++f).length+([32,38,38,32]:By).length<=9223372036854775807/\br a 1 fun M Q T X Y=>x8 44 [.agg [N M,S Q,S T,U X,L 5 Y]] [] fun j=>((([40]:By)++f)++([32,38,38,32]:By)).length+j.length<=9223372036854775807/\(((([40]:By)++f)++([32,38,38,32]:By))++j).length+([41]:By).length<=9223372036854775807/\Fi r h [vS ((((([40]:By)++f)++([32,38,38,32]:By))++j)++([41]:By))] [])
 (aI (b==3) (br a 0 fun Z F A R a3=>x8 44 [.agg [N Z,S F,S A,U R,L 5 a3]] [] fun m=>([33]:By).length+m.length<=9223372036854775807/\Fi r h [vS (([33]:By)++m)] [])
 (aI (b==4) (br a 0 fun a4 a5 a6 a7 a8=>x8 44 [.agg [N a4,S a5,S a6,U a7,L 5 a8]] [] fun g=>g.length+([32]:By).length<=9223372036854775807/\(g++([32]:By)).length+c.length<=9223372036854775807/\((g++([32]:By))++c).length+([32]:By).length<=9223372036854775807/\br a 1 fun a9 b0 b1 b2 b3=>x8 44 [.agg [N a9,S b0,S b1,U b2,L 5 b3]] [] fun n=>(((g++([32]:By))++c)++([32]:By)).length+n.length<=9223372036854775807/\Fi r h [vS ((((g++([32]:By))++c)++([32]:By))++n)] [])
 (aI (b==6) (d.length+([32,38,32]:By).length<=9223372036854775807/\br a 0 fun b4 b5 b6 b7 b8=>x8 44 [.agg [N b4,S b5,S b6,U b7,L 5 b8]] [] fun o=>(d++([32,38,32]:By)).length+o.length<=9223372036854775807/\Fi r h [vS ((d++([32,38,32]:By))++o)] [])
 (aI (b==8) (br a 0 fun b9 c0 c1 c2 c3=>x8 44 [.agg [N b9,S c0,S c1,U c2,L 5 c3]] [] fun k=>k.length+([32,124,32]:By).length<=9223372036854775807/\br a 1 fun c4 c5 c6 c7 c8=>x8 44 [.agg [N c4,S c5,S c6,U c7,L 5 c8]] [] fun p=>(k++([32,124,32]:By)).length+p.length<=9223372036854775807/\Fi r h [vS ((k++([32,124,32]:By))++p)] [])
 (aI (b==7) (x8 72 [vU l] [] fun c9=>Fi r h [vS c9] [])
 (Fi r h [vS d] [])))))))):
  ak 44 [.agg [N b,S c,S d,U l,L 5 a]] [] r h:=.of func44 {an:=[(3,3,ah),(3,4,ah),(3,10,ah),(3,11,ah),(5,3,ah),(5,4,ah),(5,10,ah),(5,11,ah),(7,3,ah),(7,4,ah),(9,3,ah),(9,4,ah),(9,13,ah),(9,14,ah),(11,6,ah),(11,7,ah),(13,3,ah),(13,4,ah),(13,9,ah),(13,10,ah),(15,2,ah)]} H
abbrev IM(a:Rw)(b:Int)(c:By)(d e:Int)(f:Rw)r h:=Lp f45 0 ⟨aO 62 [(1,.az 0 0),(3,.own 0 0 1 a),(4,vN b)],[some 0],[.aH [vS c,vN d,vN e,vL 3 f]]⟩ 0 r h
abbrev F7(a:Rw)(b:Int)(c d:By)(e f:Int)(g:Rw)(i:By)(j k:Rw)r h:=Rp f45 11 ⟨aO 62 [(1,.az 0 0),(3,.own 0 0 1 a),(4,vN b),(5,.az 1 0),(6,vS c)],[some 0],[.aH [vS d,vN e,vN f,vL 3 g],.aH [vS i,vL 1 j,vL 5 k]]⟩ 0 r h
def A45:df:={an:=[(7,4,ah),(10,4,ah),(12,5,ah),(12,6,ah),(14,2,ah),(14,5,ah)],cut:=[(5,{bl:=[1,3,4],cN:=[(3,1)],owns:=[3]})],join:=[(11,{bl:=[1,3,4,5,6],cN:=[(3,1)],owns:=[3]})]}
def W45(a:By)(H:aI (!(a==[])) (([85,83,69,32]:By).length+a.length<=9223372036854775807/\Fi r h [vS (([85,83,69,32]:By)++a)] [])
 (IM [] 0 a b c d r h)):
  ak 45 [.agg [S a,N b,N c,L 3 d]] [] r h:=.of func45 A45 H
def Xq(H:bP (b<(c.length:Int)) (pP c b fun a g l=>bP ((g.length:Int)>0) (a.length+([40]:By).length<=9223372036854775807/\x8 47 [vL 1 g,vS [44,32]] [] fun j=>(a++([40]:By)).length+j.length<=9223372036854775807/\((a++([40]:By))++j).length+([41]:By).length<=9223372036854775807/\F7 d b (((a++([40]:By))++j)++([41]:By)) i e f c a g l r h)
 (F7 d b a i e f c a g l r h))
 (x8 48 [.agg [N e,N f]] [] fun k=>k.length+([32]:By).length<=9223372036854775807/\x8 46 [vL 1 d] [] fun m=>(k++([32]:By)).length+m.length<=9223372036854775807/\Fi r h [vS ((k++([32]:By))++m)] [])):
  IM d b i e f c r h:=.of A45 H
def Zw(b:Rw)(a e:By)(H:bP ((j.length:Int)>0) (a.length+([32,123,32]:By).length<=9223372036854775807/\br j 0 fun m n o p q=>x8 44 [.agg [N m,S n,S o,U p,L 5 q]] [] fun d=>(a++([32,123,32]:By)).length+d.length<=9223372036854775807/\((a++([32,123,32]:By))++d).length+([32,125]:By).length<=9223372036854775807/\(b++([[S (((a++([32,123,32]:By))++d)++([32,125]:By))]]:Rw)).length*16<=2^47/\aq (c+1)/\IM (b++([[S (((a++([32,123,32]:By))++d)++([32,125]:By))]]:Rw)) (c+1) e f g i r h)
 ((b++([[S a]]:Rw)).length*16<=2^47/\aq (c+1)/\IM (b++([[S a]]:Rw)) (c+1) e f g i r h)):
  F7 b c a e f g i k l j r h:=x7.of A45 H
def W46(H:aI ((a.length:Int)==0) (Fi r h [vS [123,32,125]] [])
 (x8 47 [vL 1 a,vS [44,32]] [] fun b=>([123,32]:By).length+b.length<=9223372036854775807/\(([123,32]:By)++b).length+([32,125]:By).length<=9223372036854775807/\Fi r h [vS ((([123,32]:By)++b)++([32,125]:By))] [])):
  ak 46 [vL 1 a] [] r h:=.of func46 {an:=[(3,1,ah)]} H
abbrev IN(a:Rw)(b c:By)(d:Int)r h:=Lp f47 0 ⟨aO 25 [(0,vL 1 a),(1,vS b),(5,vS c),(6,vN d)],[],[]⟩ 0 r h
def A47:df:={an:=[(7,4,ah)],cut:=[(3,{bl:=[0,1,5,6]})]}
def W47(H:IN a b [] 0 r h):
  ak 47 [vL 1 a,vS b] [] r h:=.of func47 A47 H
def Nf(H:bP (a<(c.length:Int)) (bP (a>0) (b.length+d.length<=9223372036854775807/\Hc c a fun e=>(b++d).length+e.length<=9223372036854775807/\aq (a+1)/\IN c d ((b++d)++e) (a+1) r h)
 (Hc c a fun f=>b.length+f.length<=9223372036854775807/\aq (a+1)/\IN c d (b++f) (a+1) r h))
 (Fi r h [vS b] [])):
  IN c d b a r h:=.of A47 H
def W48(H:Hc [[S []],[S [75,73,76,76,95,80,82,79,67,69,83,83]],[S [75,73,76,76]],[S [84,82,65,80]],[S [69,82,82,78,79]],[S [84,82,65,67,69]],[S [76,79,71]],[S [65,76,76,79,87]]] b fun a=>aI (bif(decide (b>=3))then(decide (b<=5))else false) (a.length+([40]:By).length<=9223372036854775807/\x8 72 [vU (wrap .u64 d)] [] fun c=>(a++([40]:By)).length+c.length<=9223372036854775807/\((a++([40]:By))++c).length+([41]:By).length<=9223372036854775807/\Fi r h [vS (((a++([40]:By))++c)++([41]:By))] [])
 (Fi r h [vS a] [])):
  ak 48 [.agg [N b,N d]] [] r h:=.of func48 {an:=[(1,4,ah),(2,4,aa),(2,5,aa),(2,6,aa),(3,5,ah)]} H
abbrev Ng(a:Rw)(b c:Int)(d e:By)(f:Int)(g:Rw)r h:=Lp f49 0 ⟨aO 74 [(0,vL 6 a),(3,.az 0 0),(10,vN b)],[],[.aH [vN c,vS d,vS e,vU f,vL 5 g]]⟩ 0 r h
def A49:df:={an:=[(1,1,ah),(7,4,ah),(7,5,ah),(10,4,ah),(10,5,ah),(17,4,ah),(18,7,ah),(18,8,ah)],cut:=[(15,{bl:=[0,3,10]})]}
def W49(H:cb 41 [.agg [N a,S e,S f,U d,L 5 b]] [] fun j=>aI (!j) (Fi r h [vU 0,vN 1] [])
 (aI (a==7) (Fi r h [vU d,vN 0] [])
 (aI (a==8) (br b 0 fun k l m n o=>Ud 49 [vL 6 c,.agg [N k,S l,S m,U n,L 5 o]] [] fun p g=>aI (g !=0) (Fi r h [vU 0,vN g] [])
 (br b 1 fun q s t u v=>Ud 49 [vL 6 c,.agg [N q,S s,S t,U u,L 5 v]] [] fun w i=>aI (i !=0) (Fi r h [vU 0,vN i] [])
 (Fi r h [vU (cf .or .u64 p w),vN 0] [])))
 (Ng c 0 a e f d b r h)))):
  ak 49 [vL 6 c,.agg [N a,S e,S f,U d,L 5 b]] [] r h:=.of func49 A49 H
def Xr(H:bP (a<(b.length:Int)) (ej b a fun i q s t u v=>aI (i==c) ((0<=(0:Int)/\(0:Int)<=a/\a<=(b.length:Int))/\ej b a fun w j k l m n=>Ud 49 [vL 6 (drop 0 (take (toNat a) b)),.agg [N j,S k,S l,U m,L 5 n]] [] fun o p=>Fi r h [vU o,vN p] [])
 (aq (a+1)/\Ng b (a+1) d e c f g r h))
 (Fi r h [vU 0,vN 7] [])):
  Ng b a d e c f g r h:=.of A49 H
abbrev IP(a:Rw)(b:By)(c:Rw)(d e f:Int)r h:=Lp f50 0 ⟨aO 94 [(0,.az 0 0),(1,vL 2 a),(2,vS b),(3,vL 1 c),(10,vN d),(11,vN e)],[],[.aH [vN f]]⟩ 1 r h
abbrev Ds(a b:Rw)(c:Int)(d:Rw)(e f:Int)r h:=Lp f50 1 ⟨aO 94 [(0,.az 0 0),(1,vL 2 a),(3,vL 1 b),(10,vN c),(12,.own 0 0 4 d),(13,vN e)],[some 0],[.aH [vN f]]⟩ 1 r h
def A50:df:={an:=[(5,4,ah),(9,2,ah),(14,5,ah),(16,4,ah),(16,7,ah)],mod:=[(22,5,[(0,[0])])],cut:=[(14,{bl:=[0,1,3,10,12,13],cN:=[(12,4)],owns:=[12]}),(3,{bl:=[0,1,2,3,10,11]})]}
def W50(H:IP b c d (-1) 0 a r h):
  ak 50 [.az 0 0,vL 2 b,vS c,vL 1 d] [.aH [vN a]] r h:=.of func50 A50 H
def IQ(H:bP (a<(d.length:Int)) (lV d a fun g j=>aI (g==b) (aq (a+1)/\IP d b c a (a+1) e r h)
 (aq (a+1)/\IP d b c f (a+1) e r h))
 (bP (f<0) (Fi r h [vL 4 [],vN 7] [.aH [vN e]])
 (cb 68 [vL 1 c,vS b] [] fun i=>aI i (Fi r h [vL 4 [],vN 5] [.aH [vN e]])
 (c.length*16<=2^47/\(c++([[S b]]:Rw)).length*16<=2^47/\Ds d (c++([[S b]]:Rw)) f [] 0 e r h)))):
  IP d b c f a e r h:=.of A50 H
def IS(d:Rw)(H:lV c e fun q o=>bP (a<(o.length:Int)) (lV c e fun s p=>gO p a fun g l m n=>aI (g==[]) (aq (b+1)/\bP ((b+1)>500) (Fi r h [vL 4 [],vN 9] [.aH [vN (b+1)]])
 ((d++([[S g,N l,N m,L 3 n]]:Rw)).length*56<=2^47/\aq (a+1)/\Ds c f e (d++([[S g,N l,N m,L 3 n]]:Rw)) (a+1) (b+1) r h))
 (∃i j k,ak 50 [.az 0 0,vL 2 c,vS g,vL 1 f] [.aH [vN b]] [vL 4 i,vN j] [.aH [vN k]]/\aI (j !=0) (Fi r h [vL 4 [],vN j] [.aH [vN k]])
 ((d++i).length*56<=2^47/\aq (a+1)/\Ds c f e (d++i) (a+1) k r h)))
 (Fi r h [.own 0 0 4 d,vN 0] [.aH [vN b]])):
  Ds c f e d a b r h:=.of A50 H
abbrev xT(a b:Rw)(c d:Int)(e f:By)(g:Int)(i:Rw)(j k l m n:Int)(o:Rw)(p q s t u:Int)(v:Rw)r h:=Lp f51 0 ⟨aO 128 [(0,vL 6 a),(1,vL 1 b),(5,.az 0 0),(6,.az 1 0),(9,.az 2 0),(10,vN c)],[],[.aH [vN d,vS e,vS f,vU g,vL 5 i],K6 j k l m n o,K6 p q s t u v]⟩ 0 r h
abbrev vQ(a b:Rw)(c d:Int)(e f:By)(g:Int)(i:Rw)(j k l m n:Int)(o:Rw)(p:Int)(q s:By)(t:Int)(u:Rw)(v w x y:Int)r h:=Lp f51 1 ⟨aO 128 [(0,vL 6 a),(1,vL 1 b),(5,.az 0 0),(6,.az 1 0),(13,.az 2 0),(14,.az 3 0),(15,vN c)],[],[.aH [vN d,vS e,vS f,vU g,vL 5 i],K6 j k l m n o,.aH [vN p,vS q,vS s,vU t,vL 5 u],.aH [vN v,vN w,vU x,vU y]]⟩ 0 r h
def A51:df:={an:=[(14,6,ah),(14,7,ah),(17,1,{take:=true}),(17,6,{take:=true}),(19,3,ah),(20,2,ah),(22,5,aa),(22,6,aa),(22,7,aa),(24,3,ah),(29,4,ah),(29,5,ah),(33,4,ah),(33,5,ah)],cut:=[(12,{bl:=[0,1,5,6,9,10]}),(22,{bl:=[0,1,5,6,13,14,15]})]}
def W51(H:aI (c==1) (bP ((4:Int)>0) (xT d e 0 c a f g b 0 0 0 0 0 [] 4 0 0 0 0 [] r h)
 (br b 0 fun i j k l m=>kQ 73 [vS a] [] fun n=>vQ d e 0 c a f g b 0 0 0 0 0 [] i j k l m (-1) n 18446744073709551615 0 r h))
 (aI (c==2) (bP ((3:Int)>0) (xT d e 0 c a f g b 0 0 0 0 0 [] 3 0 0 0 0 [] r h)
 (br b 0 fun o p q s t=>kQ 73 [vS a] [] fun u=>vQ d e 0 c a f g b 0 0 0 0 0 [] o p q s t (-1) u 18446744073709551615 0 r h))
 (aI (c==3) (bP ((2:Int)>0) (xT d e 0 c a f g b 0 0 0 0 0 [] 2 0 0 0 0 [] r h)
 (br b 0 fun v w x y z=>kQ 73 [vS a] [] fun D=>vQ d e 0 c a f g b 0 0 0 0 0 [] v w x y z (-1) D 18446744073709551615 0 r h))
 (bP ((0:Int)>0) (xT d e 0 c a f g b 0 0 0 0 0 [] 0 0 0 0 0 [] r h)
 (br b 0 fun E G I J K=>kQ 73 [vS a] [] fun M=>vQ d e 0 c a f g b 0 0 0 0 0 [] E G I J K (-1) M 18446744073709551615 0 r h))))):
  ak 51 [vL 6 d,vL 1 e,.agg [N c,S a,S f,U g,L 5 b]] [] r h:=.of func51 A51 H
def Xs(c:Rw)(H:bP (a<(b.length:Int)) (br b a fun I J K M Q=>∃l m n o p q s,ak 51 [vL 6 d,vL 1 e,.agg [N I,S J,S K,U M,L 5 Q]] [] [.agg [N l,N m,N n,U o,U p,L 6 q],vN s] []/\aI (s !=0) (Fi r h [.agg [N 0,N 0,N 0,U 0,U 0,L 6 []],vN s] [])
 ((c++([[N l,N m,N n,U o,U p,L 6 q]]:Rw)).length*64<=2^47/\aq (a+1)/\xT d e (a+1) t u v w b x y z D E G f g i j k (c++([[N l,N m,N n,U o,U p,L 6 q]]:Rw)) r h))
 (Fi r h [.agg [N f,N g,N i,U j,U k,L 6 c],vN 0] [])):
  xT d e a t u v w b x y z D E G f g i j k c r h:=.of A51 H
def Xt(H:aI (bif(decide (a<(d.length:Int)))then(decide (c<0))else false) (Hc d a fun G=>aI (G==i) (aq (a+1)/\vQ b d (a+1) l m n o e p q s t u v g w i x j a f k y r h)
 (aq (a+1)/\vQ b d (a+1) l m n o e p q s t u v g w i x j c f k y r h))
 (bP (c<0) (Fi r h [.agg [N 0,N 0,N 0,U 0,U 0,L 6 []],vN 7] [])
 (aI (g==6) (br j 0 fun I J K M Q=>Ud 49 [vL 6 b,.agg [N I,S J,S K,U M,L 5 Q]] [] fun T z=>aI (z !=0) (Fi r h [.agg [N 0,N 0,N 0,U 0,U 0,L 6 []],vN z] [])
 (br e 1 fun X Y Z F A=>Ud 49 [vL 6 b,.agg [N X,S Y,S Z,U F,L 5 A]] [] fun R D=>aI (D !=0) (Fi r h [.agg [N 0,N 0,N 0,U 0,U 0,L 6 []],vN D] [])
 (Fi r h [.agg [N 5,N c,N f,U T,U R,L 6 []],vN 0] [])))
 (br e 1 fun a3 a4 a5 a6 a7=>Ud 49 [vL 6 b,.agg [N a3,S a4,S a5,U a6,L 5 a7]] [] fun a8 E=>aI (E !=0) (Fi r h [.agg [N 0,N 0,N 0,U 0,U 0,L 6 []],vN E] [])
 (Fi r h [.agg [N 5,N c,N f,U k,U a8,L 6 []],vN 0] []))))):
  vQ b d a l m n o e p q s t u v g w i x j c f k y r h:=.of A51 H
abbrev Nh(a:Rw)(b:By)(c:Int)r h:=Lp f68 0 ⟨aO 18 [(0,vL 1 a),(1,vS b),(5,vN c)],[],[]⟩ 0 r h
def A68:df:={an:=[(4,3,ah)],cut:=[(2,{bl:=[0,1,5]})]}
def W68(H:Nh a b 0 r h):
  ak 68 [vL 1 a,vS b] [] r h:=.of func68 A68 H
def Xu(H:bP (a<(b.length:Int)) (Hc b a fun d=>aI (d==c) (Fi r h [vB true] [])
 (aq (a+1)/\Nh b c (a+1) r h))
 (Fi r h [vB false] [])):
  Nh b c a r h:=.of A68 H
def W69(c d:By)(H:aI (b==7) (Fi r h [vB (bif(bif(c==[])then(d==[])else false)then((a.length:Int)==0)else false)] [])
 (aI (b==5) (aI (c==[]) (cb 40 [vS d] [] fun f=>Fi r h [vB (bif(bif f then(e==0)else false)then((a.length:Int)==0)else false)] []) (Fi r h [vB (bif(bif false then(e==0)else false)then((a.length:Int)==0)else false)] []))
 (Fi r h [vB false] []))):
  ak 69 [.agg [N b,S c,S d,U e,L 5 a]] [] r h:=.of func69 {an:=[(3,4,aa),(3,5,aa),(3,6,aa),(3,9,aa),(3,10,aa),(3,11,aa),(3,12,aa),(5,6,ah),(5,9,aa),(5,10,aa),(5,11,aa),(5,14,aa),(5,15,aa),(5,16,aa),(5,17,aa)]} H
def W70(c g:By)(H:aI (bif(!(g==[]))then true else(i !=0)) (Fi r h [vB false] [])
 (aI (b==1) (aI (bif(c==[])then((a.length:Int)==2)else false) (br a 0 fun l m n o p=>cb 70 [.agg [N l,S m,S n,U o,L 5 p]] [] fun q=>aI q (br a 1 fun s t u v w=>cb 70 [.agg [N s,S t,S u,U v,L 5 w]] [] fun x=>Fi r h [vB x] []) (Fi r h [vB false] [])) (Fi r h [vB false] []))
 (aI (b==2) (aI (bif(c==[])then((a.length:Int)==2)else false) (br a 0 fun y z D E G=>cb 70 [.agg [N y,S z,S D,U E,L 5 G]] [] fun I=>aI I (br a 1 fun J K M Q T=>cb 70 [.agg [N J,S K,S M,U Q,L 5 T]] [] fun X=>Fi r h [vB X] []) (Fi r h [vB false] [])) (Fi r h [vB false] []))
 (aI (b==3) (aI (bif(c==[])then((a.length:Int)==1)else false) (br a 0 fun Y Z F A R=>cb 70 [.agg [N Y,S Z,S F,U A,L 5 R]] [] fun a3=>Fi r h [vB a3] []) (Fi r h [vB false] []))
 (aI (b==4) (aI ((a.length:Int) !=2) (Fi r h [vB false] []) (kQ 73 [vS c] [] fun a4=>aI (a4==0) (Fi r h [vB false] []) (br a 1 fun a5 a6 a7 a8 a9=>cb 41 [.agg [N a5,S a6,S a7,U a8,L 5 a9]] [] fun b0=>aI (!b0) (Fi r h [vB false] [])
 (br a 0 fun e j k f d=>aI (e==5) (cb 69 [.agg [N e,S j,S k,U f,L 5 d]] [] fun b1=>Fi r h [vB b1] [])
 (aI (bif(e==6)then(j==[])else false) (cb 40 [vS k] [] fun b2=>aI (bif(bif b2 then(f==0)else false)then((d.length:Int)==1)else false) (br d 0 fun b3 b4 b5 b6 b7=>cb 69 [.agg [N b3,S b4,S b5,U b6,L 5 b7]] [] fun b8=>Fi r h [vB b8] []) (Fi r h [vB false] [])) (aI (bif(bif false then(f==0)else false)then((d.length:Int)==1)else false) (br d 0 fun b9 c0 c1 c2 c3=>cb 69 [.agg [N b9,S c0,S c1,U c2,L 5 c3]] [] fun c4=>Fi r h [vB c4] []) (Fi r h [vB false] [])))))))
 (Fi r h [vB false] [])))))):
  ak 70 [.agg [N b,S c,S g,U i,L 5 a]] [] r h:=.of func70 {an:=[(1,4,aa),(1,5,aa),(1,6,aa),(6,4,aa),(6,5,aa),(6,6,aa),(6,7,aa),(6,13,ah),(6,14,ah),(6,20,ah),(6,21,ah),(8,4,aa),(8,5,aa),(8,6,aa),(8,7,aa),(8,13,ah),(8,14,ah),(10,7,ah),(10,14,ah),(10,15,ah),(12,3,ah),(14,1,ah),(15,4,aa),(15,5,aa),(15,6,aa),(15,11,ah),(15,14,aa),(15,15,aa),(15,16,aa),(15,19,aa),(15,20,aa),(15,21,aa),(15,22,aa),(15,28,ah),(15,29,ah)]} H
abbrev IT(a b c:Int)(d e:By)(f:Int)(g:Rw)r h:=Lp f71 0 ⟨aO 25 [(1,.az 0 0),(3,vN a),(4,vN b)],[],[.aH [vN c,vS d,vS e,vU f,vL 5 g]]⟩ 0 r h
def A71:df:={an:=[(5,4,ah),(5,5,ah)],cut:=[(3,{bl:=[1,3,4]})]}
def W71(H:IT 0 0 a b c d e r h):
  ak 71 [.agg [N a,S b,S c,U d,L 5 e]] [] r h:=.of func71 A71 H
def Xv(H:bP (a<(c.length:Int)) (br c a fun j k l m n=>kQ 71 [.agg [N j,S k,S l,U m,L 5 n]] [] fun i=>bP (i>b) (aq (a+1)/\IT i (a+1) d e f g c r h)
 (aq (a+1)/\IT b (a+1) d e f g c r h))
 (aq (b+1)/\Fi r h [vN (b+1)] [])):
  IT b a d e f g c r h:=.of A71 H
def W73(a:By)(H:aI (a==[61,61]) (Fi r h [vN 1] [])
 (aI (a==[33,61]) (Fi r h [vN 2] [])
 (aI (a==[60]) (Fi r h [vN 3] [])
 (aI (a==[60,61]) (Fi r h [vN 4] [])
 (aI (a==[62]) (Fi r h [vN 5] [])
 (aI (a==[62,61]) (Fi r h [vN 6] [])
 (Fi r h [vN 0] []))))))):
  ak 73 [vS a] [] r h:=.of func73 {} H
abbrev Ni(a b:Rw)(c:Int)r h:=Lp f14 0 ⟨aO 65 [(0,vL 1 a),(4,.own 0 0 4 b),(5,vN c)],[some 0],[]⟩ 0 r h
abbrev Nj(a b:Rw)(c d e f g i:Int)r h:=Lp f14 1 ⟨aO 65 [(0,vL 1 a),(4,.own 0 0 4 b),(5,vN c),(6,.az 0 0),(7,vN d)],[some 0],[.aH [vN e,vN f,vN g,vW i]]⟩ 0 r h
def A14:df:={an:=[(7,3,ah),(7,9,ah),(7,17,ah),(7,23,ah),(11,8,ah)],cut:=[(5,{bl:=[0,4,5],cN:=[(4,4)],owns:=[4]}),(9,{bl:=[0,4,5,6,7],cN:=[(4,4)],owns:=[4]})]}
def W14(H:(8:Int)≠0/\aI ((tmod (a.length:Int) 8) !=0) (Fi r h [vL 4 [],vN 2] [])
 (Ni a [] 0 r h)):
  ak 14 [vL 1 a] [] r h:=.of func14 A14 H
def Xw(H:bP (a<(b.length:Int)) (Pv b a fun d=>aq (a+1)/\Pv b (a+1) fun e=>0<=(8:Int)/\aq (a+2)/\Pv b (a+2) fun f=>aq (a+3)/\Pv b (a+3) fun g=>Nj b c a 7 (cf .or .i64 (wrap .i64 d) (wrap .i64 ((wrap .i64 e)*2^(min (toNat 8) (IntKind.bits .i64))))) (wrap .i64 f) (wrap .i64 g) 0 r h)
 (Fi r h [.own 0 0 4 c,vN 0] [])):
  Ni b c a r h:=.of A14 H
def IU(H:bP (b>=4) (0<=(8:Int)/\aq (a+b)/\Pv c (a+b) fun j=>aq (b-1)/\Nj c d a (b-1) e f g (cf .or .u32 (wrap .u32 (i*2^(min (toNat 8) (IntKind.bits .u32)))) (wrap .u32 j)) r h)
 ((d++([[N e,N f,N g,W i]]:Rw)).length*32<=2^47/\aq (a+8)/\Ni c (d++([[N e,N f,N g,W i]]:Rw)) (a+8) r h)):
  Nj c d a b e f g i r h:=.of A14 H
abbrev qL(a:Rw)(b c d e f g i j k l m n o p q s t u v w x y z D E G I J K:Int)r h:=Lp f16 0 ⟨aO 127 [(0,vL 4 a),(3,.az 0 0),(7,.az 1 0),(8,vN b),(9,vN c)],[],[K1 d e f g i j k l m,K3 n o p q s t u v w x y z D E G I J K]⟩ 0 r h
abbrev so(a:Rw)(b c d e f g i j k l m n o p q s t u v w x y z D E G I J K M:Int)r h:=Rp f16 27 ⟨aO 127 [(0,vL 4 a),(3,.az 0 0),(7,.az 1 0),(8,vN b),(9,vN c),(11,vN d)],[],[K1 e f g i j k l m n,K3 o p q s t u v w x y z D E G I J K M]⟩ 0 r h
def A16:df:={an:=[(6,3,aa),(6,4,aa),(6,5,aa),(6,6,aa),(8,3,ah),(23,2,ah),(25,1,gw),(25,5,eP),(25,8,gw),(25,10,gw),(25,11,eP),(25,12,ah),(27,9,aa),(27,10,aa),(27,11,aa),(27,12,aa)],mod:=[(10,6,[(0,[0,1,2,3,4,5,6,7,8,9,10,11,12,13,14,15,16,17])])],cut:=[(4,{bl:=[0,3,7,8,9]})],join:=[(27,{bl:=[0,3,7,8,9,11]})]}
def W16(H:qL a 0 0 b c d e f g i j k 0 0 0 0 0 0 0 0 0 0 0 0 0 0 0 0 0 0 r h):
  ak 16 [vL 4 a,.agg [W b,W c,U d,U e,U f,U g,U i,U j,U k]] [] r h:=.of func16 A16 H
def Nk(c3:bP (a<4096) (aI (bif(decide (d<0))then true else(decide (d>=(c.length:Int)))) (Fi r h [vW 0,vN a,vB false] [])
 (zz c d fun M b8 b9 Q=>aq (d+1)/\aI (M==6) (aq (a+1)/\Fi r h [vW Q,vN (a+1),vB true] [])
 (aI (M==22) (aq (a+1)/\Fi r h [vW b,vN (a+1),vB true] [])
 (aI (M==5) (bP ((wrap .u64 Q)>(wrap .u64 (c.length:Int))) (aq (a+1)/\qL c (c.length:Int) (a+1) x y z D E G I J K b e f g i j k l m n o p q s t u v w r h)
 (aq ((d+1)+(wrap .i64 Q))/\aq (a+1)/\qL c ((d+1)+(wrap .i64 Q)) (a+1) x y z D E G I J K b e f g i j k l m n o p q s t u v w r h))
 (cb 27 [vN M] [] fun c0=>aI c0 ((∃T,ak 29 [.az 0 0,vN M,vW Q] [K3 b e f g i j k l m n o p q s t u v w] [vW T] [K3 b e f g i j k l m n o p q s t u v w]/\cb 28 [vN M,vW b,vW T] [] fun c1=>aI c1 (so c (d+1) a b8 x y z D E G I J K b e f g i j k l m n o p q s t u v w r h)
 (so c (d+1) a b9 x y z D E G I J K b e f g i j k l m n o p q s t u v w r h))/\(∃X,ak 29 [.az 0 0,vN M,vW Q] [K3 b e f g i j k l m n o p q s t u v w] [vW X] [K3 b e f g i j k l m n o p q s t u v w]/\cb 28 [vN M,vW b,vW X] [] fun c2=>aI c2 (so c (d+1) a b8 x y z D E G I J K b e f g i j k l m n o p q s t u v w r h)
 (so c (d+1) a b9 x y z D E G I J K b e f g i j k l m n o p q s t u v w r h)))
 (∃Y Z H F A R a4 a5 a6 a7 a8 a9 b0 b1 b2 b3 b4 b5 b6 b7,ak 30 [.az 0 0,vN M,vW Q,.agg [W x,W y,U z,U D,U E,U G,U I,U J,U K]] [K3 b e f g i j k l m n o p q s t u v w] [vB Y,vB Z] [K3 H F A R a4 a5 a6 a7 a8 a9 b0 b1 b2 b3 b4 b5 b6 b7]/\aI Z (aq (a+1)/\Fi r h [vW 0,vN (a+1),vB true] [])
 (aI (!Y) (Fi r h [vW 0,vN a,vB false] [])
 (aq (a+1)/\qL c (d+1) (a+1) x y z D E G I J K H F A R a4 a5 a6 a7 a8 a9 b0 b1 b2 b3 b4 b5 b6 b7 r h))))))))
 (Fi r h [vW 0,vN 4096,vB false] [])):
  qL c d a x y z D E G I J K b e f g i j k l m n o p q s t u v w r h:=.of A16 c3
def Zx(H:bP (a<0) (aq (d+a)/\aI (bif(decide ((d+a)<0))then true else(decide (a>(b.length:Int)))) (aq (c+1)/\qL b (b.length:Int) (c+1) e f g i j k l m n o p q s t u v w x y z D E G I J K M r h)
 (aq (d+a)/\aq (c+1)/\qL b (d+a) (c+1) e f g i j k l m n o p q s t u v w x y z D E G I J K M r h)) (aI (bif false then true else(decide (a>(b.length:Int)))) (aq (c+1)/\qL b (b.length:Int) (c+1) e f g i j k l m n o p q s t u v w x y z D E G I J K M r h)
 (aq (d+a)/\aq (c+1)/\qL b (d+a) (c+1) e f g i j k l m n o p q s t u v w x y z D E G I J K M r h))):
  so b d c a e f g i j k l m n o p q s t u v w x y z D E G I J K M r h:=x7.of A16 H
abbrev IV(a:Rw)(b c d e f g i j k l:Int)r h:=Lp f19 0 ⟨aO 27 [(1,.az 0 0),(3,.own 0 0 1 a),(4,vN b)],[some 0],[K1 c d e f g i j k l]⟩ 0 r h
def A19:df:={an:=[(1,3,{fz:=true,bF:=true,cons:=[0]}),(1,7,{fz:=true,bF:=true,cons:=[0]}),(1,10,{fz:=true,bF:=true,cons:=[0]}),(5,5,{fz:=true,bF:=true,cons:=[0]})],cut:=[(3,{bl:=[1,3,4],cN:=[(3,1)],owns:=[3]})]}
def W19(H:∃k,ak 37 [.own 0 0 1 [],vU (wrap .u64 a),vN 4] [] [.own 0 0 1 k] []/\∃l,ak 37 [.own 0 0 1 k,vU (wrap .u64 b),vN 4] [] [.own 0 0 1 l] []/\∃m,ak 37 [.own 0 0 1 l,vU c,vN 8] [] [.own 0 0 1 m] []/\IV m 0 a b c d e f g i j r h):
  ak 19 [.agg [W a,W b,U c,U d,U e,U f,U g,U i,U j]] [] r h:=.of func19 A19 H
def Xx(b:Rw)(H:bP (a<6) ((0<=a/\a<6)/\∃m,([vW c,vW d,vU e,vU f,vU g,vU i,vU j,vU k,vU l]:List AV)[3+toNat a*1+0]?=some (.v (U m))/\∃n,ak 37 [.own 0 0 1 b,vU m,vN 8] [] [.own 0 0 1 n] []/\aq (a+1)/\IV n (a+1) c d e f g i j k l r h)
 (Fi r h [.own 0 0 1 b] [])):
  IV b a c d e f g i j k l r h:=.of A19 H
def W27(H:aI (a==21) (Fi r h [vB true] [])
 (aI (a==29) (Fi r h [vB true] [])
 (aI (a==37) (Fi r h [vB true] [])
 (aI (a==45) (Fi r h [vB true] [])
 (aI (a==53) (Fi r h [vB true] [])
 (aI (a==61) (Fi r h [vB true] [])
 (aI (a==69) (Fi r h [vB true] [])
 (aI (a==77) (Fi r h [vB true] [])
 (Fi r h [vB false] []))))))))):
  ak 27 [vN a] [] r h:=.of func27 {} H
def W28(H:aI (c==21) (Fi r h [vB (a==b)] [])
 (aI (c==29) (Fi r h [vB (a==b)] [])
 (aI (c==37) (Fi r h [vB (decide (a>b))] [])
 (aI (c==45) (Fi r h [vB (decide (a>b))] [])
 (aI (c==53) (Fi r h [vB (decide (a>=b))] [])
 (aI (c==61) (Fi r h [vB (decide (a>=b))] [])
 (Fi r h [vB ((cf .and .u32 a b) !=0)] []))))))):
  ak 28 [vN c,vW a,vW b] [] r h:=.of func28 {} H
def W29(H:aI ((cf .and .i64 u 8) !=0) (Fi r h [vW a] [K3 b a c d e f g i j k l m n o p q s t])
 (Fi r h [vW v] [K3 b a c d e f g i j k l m n o p q s t])):
  ak 29 [.az 0 0,vN u,vW v] [K3 b a c d e f g i j k l m n o p q s t] r h:=.of func29 {} H
abbrev F8(a b c d e f g i j k l m n o p q s t u v:Int)r h:=Rp f30 33 ⟨aO 161 [(0,.az 0 0),(1,vN a),(2,vW b)],[],[K3 c d e f g i j k l m n o p q s t u v]⟩ 1 r h
def A30:df:={an:=[(1,1,ah),(5,3,aa),(5,4,aa),(5,7,aa),(5,8,aa),(7,7,ah),(26,2,ah)],join:=[(33,{bl:=[0,1,2]})]}
def W30(H:cb 52 [vN a] [] fun Q=>aI Q (aI ((cf .and .i64 a 8) !=0) (aI (bif(bif(a==52)then true else(a==60))then(b==0)else false) (Fi r h [vB false,vB (a==60)] [K3 u b c d e f g i j k l m n o p q s t])
 (∃K,ak 53 [vN a,vW u,vW b] [] [vW K] []/\Fi r h [vB true,vB false] [K3 K b c d e f g i j k l m n o p q s t]))
 (aI (bif(bif(a==52)then true else(a==60))then(v==0)else false) (Fi r h [vB false,vB (a==60)] [K3 u b c d e f g i j k l m n o p q s t])
 (∃M,ak 53 [vN a,vW u,vW v] [] [vW M] []/\Fi r h [vB true,vB false] [K3 M b c d e f g i j k l m n o p q s t])))
 (aI (a==0) (Fi r h [vB true,vB false] [K3 v b c d e f g i j k l m n o p q s t])
 (aI (a==1) (Fi r h [vB true,vB false] [K3 u v c d e f g i j k l m n o p q s t])
 (aI (a==128) (Fi r h [vB true,vB false] [K3 64 b c d e f g i j k l m n o p q s t])
 (aI (a==129) (Fi r h [vB true,vB false] [K3 u 64 c d e f g i j k l m n o p q s t])
 (aI (a==132) (Fi r h [vB true,vB false] [K3 (wrap .u32 ((0:Int)-u)) b c d e f g i j k l m n o p q s t])
 (aI (a==7) (Fi r h [vB true,vB false] [K3 u u c d e f g i j k l m n o p q s t])
 (aI (a==135) (Fi r h [vB true,vB false] [K3 b b c d e f g i j k l m n o p q s t])
 (aI (a==32) (Jq 54 [.agg [W w,W x,U y,U z,U D,U E,U G,U I,U J],vW v] [] fun T X=>Fi r h [vB X,vB false] [K3 T b c d e f g i j k l m n o p q s t])
 (aI (a==2) (F8 a v u b c d e f g i j k l m n o p q s t r h)
 (aI (a==3) (F8 a v u b c d e f g i j k l m n o p q s t r h)
 (aI (a==96) (F8 a v u b c d e f g i j k l m n o p q s t r h)
 (aI (a==97) (F8 a v u b c d e f g i j k l m n o p q s t r h)
 (Fi r h [vB false,vB false] [K3 u b c d e f g i j k l m n o p q s t])))))))))))))):
  ak 30 [.az 0 0,vN a,vW v,.agg [W w,W x,U y,U z,U D,U E,U G,U I,U J]] [K3 u b c d e f g i j k l m n o p q s t] r h:=.of func30 A30 H
abbrev Nl(a:Rw)(b c d:Int)r h:=Lp f37 0 ⟨aO 24 [(0,.own 0 0 1 a),(1,vU b),(2,vN c),(7,vN d)],[some 0],[]⟩ 0 r h
def A37:df:={cut:=[(2,{bl:=[0,1,2,7],cN:=[(0,1)],owns:=[0]})]}
def W37(H:Nl a b c 0 r h):
  ak 37 [.own 0 0 1 a,vU b,vN c] [] r h:=.of func37 A37 H
def Xy(b:Rw)(H:bP (a<d) (aq ((8:Int)*a)/\0<=(wrap .u64 ((8:Int)*a))/\(b++([[Y (wrap .u8 (cf .and .u64 (fdiv c (2^(min (toNat (wrap .u64 ((8:Int)*a))) (IntKind.bits .u64)))) 255))]]:Rw)).length*1<=2^47/\aq (a+1)/\Nl (b++([[Y (wrap .u8 (cf .and .u64 (fdiv c (2^(min (toNat (wrap .u64 ((8:Int)*a))) (IntKind.bits .u64)))) 255))]]:Rw)) c d (a+1) r h)
 (Fi r h [.own 0 0 1 b] [])):
  Nl b c d a r h:=.of A37 H
def W52(H:aI (a==4) (Fi r h [vB true] [])
 (aI (a==12) (Fi r h [vB true] [])
 (aI (a==20) (Fi r h [vB true] [])
 (aI (a==28) (Fi r h [vB true] [])
 (aI (a==36) (Fi r h [vB true] [])
 (aI (a==44) (Fi r h [vB true] [])
 (aI (a==52) (Fi r h [vB true] [])
 (aI (a==60) (Fi r h [vB true] [])
 (aI (a==68) (Fi r h [vB true] [])
 (aI (a==76) (Fi r h [vB true] [])
 (aI (a==84) (Fi r h [vB true] [])
 (aI (a==92) (Fi r h [vB true] [])
 (aI (a==164) (Fi r h [vB true] [])
 (aI (a==172) (Fi r h [vB true] [])
 (aI (a==100) (Fi r h [vB true] [])
 (aI (a==108) (Fi r h [vB true] [])
 (aI (a==116) (Fi r h [vB true] [])
 (aI (a==124) (Fi r h [vB true] [])
 (Fi r h [vB false] []))))))))))))))))))):
  ak 52 [vN a] [] r h:=.of func52 {} H
def W53(H:aI (c==4) (Fi r h [vW (wrap .u32 (b+a))] [])
 (aI (c==12) (Fi r h [vW (wrap .u32 (b+a))] [])
 (aI (c==20) (Fi r h [vW (wrap .u32 (b-a))] [])
 (aI (c==28) (Fi r h [vW (wrap .u32 (b-a))] [])
 (aI (c==36) (Fi r h [vW (wrap .u32 (b*a))] [])
 (aI (c==44) (Fi r h [vW (wrap .u32 (b*a))] [])
 (aI (c==52) (a≠0/\Fi r h [vW (wrap .u32 (tdiv b a))] [])
 (aI (c==60) (a≠0/\Fi r h [vW (wrap .u32 (tdiv b a))] [])
 (aI (c==68) (Fi r h [vW (cf .or .u32 b a)] [])
 (aI (c==76) (Fi r h [vW (cf .or .u32 b a)] [])
 (aI (c==84) (Fi r h [vW (cf .and .u32 b a)] [])
 (aI (c==92) (Fi r h [vW (cf .and .u32 b a)] [])
 (aI (c==164) (Fi r h [vW (cf .xor .u32 b a)] [])
 (aI (c==172) (Fi r h [vW (cf .xor .u32 b a)] [])
 (aI (c==100) ((32:Int)≠0/\0<=(tmod a 32)/\Fi r h [vW (wrap .u32 (b*2^(min (toNat (tmod a 32)) (IntKind.bits .u32))))] [])
 (aI (c==108) ((32:Int)≠0/\0<=(tmod a 32)/\Fi r h [vW (wrap .u32 (b*2^(min (toNat (tmod a 32)) (IntKind.bits .u32))))] [])
 ((32:Int)≠0/\0<=(tmod a 32)/\Fi r h [vW (fdiv b (2^(min (toNat (tmod a 32)) (IntKind.bits .u32))))] []))))))))))))))))):
  ak 53 [vN c,vW b,vW a] [] r h:=.of func53 {} H
def W54(b c d e f g i j k a:Int)(H:(4:Int)≠0/\aI (bif((tmod a 4) !=0)then true else(decide (a>60))) (Fi r h [vW 0,vB false] [])
 (Hb 19 [.agg [W b,W c,U d,U e,U f,U g,U i,U j,U k]] [] fun l=>Ke 74 [vL 1 l,vN (wrap .i64 a),vN 4] [] fun m=>Fi r h [vW (wrap .u32 m),vB true] [])):
  ak 54 [.agg [W b,W c,U d,U e,U f,U g,U i,U j,U k],vW a] [] r h:=.of func54 {an:=[(1,4,aa),(1,5,aa),(3,1,ah),(3,4,ah)]} H
def W66(H:Fi r h [vB (bif(bif(bif(decide (a>=97))then(decide (a<=122))else false)then true else(bif(decide (a>=65))then(decide (a<=90))else false))then true else(a==95))] []):
  ak 66 [vY a] [] r h:=.of func66 {an:=[(1,3,aa),(1,4,aa),(1,7,aa),(1,8,aa),(1,9,aa),(1,10,aa),(1,11,aa),(1,12,aa),(1,15,aa),(1,16,aa)]} H
def W67(H:Fi r h [vB (bif(decide (a>=48))then(decide (a<=57))else false)] []):
  ak 67 [vY a] [] r h:=.of func67 {an:=[(1,3,aa),(1,4,aa)]} H
def W72(a:Int)(H:(10:Int)≠0/\(10:Int)≠0/\(0<=(tmod a 10)/\(tmod a 10)<=(wrap .u64 ((tmod a 10)+1))/\(wrap .u64 ((tmod a 10)+1))<=(([48,49,50,51,52,53,54,55,56,57]:By).length:Int))/\bP (a>9) ((10:Int)≠0/\x8 72 [vU (wrap .u64 (tdiv a 10))] [] fun b=>b.length+(drop (toNat (tmod a 10)) (take (toNat (wrap .u64 ((tmod a 10)+1))) ([48,49,50,51,52,53,54,55,56,57]:By))).length<=9223372036854775807/\Fi r h [vS (b++(drop (toNat (tmod a 10)) (take (toNat (wrap .u64 ((tmod a 10)+1))) ([48,49,50,51,52,53,54,55,56,57]:By))))] [])
 (Fi r h [vS (drop (toNat (tmod a 10)) (take (toNat (wrap .u64 ((tmod a 10)+1))) ([48,49,50,51,52,53,54,55,56,57]:By)))] [])):
  ak 72 [vU a] [] r h:=.of func72 {an:=[(3,2,ah)]} H
abbrev Tx(a:Rw)(b c d:Int)r h:=Lp f74 0 ⟨aO 26 [(0,vL 1 a),(1,vN b),(7,vU c),(8,vN d)],[],[]⟩ 0 r h
def A74:df:={an:=[(5,7,ah)],cut:=[(3,{bl:=[0,1,7,8]})]}
def W74(H:aq (a-1)/\Tx b c 0 (a-1) r h):
  ak 74 [vL 1 b,vN c,vN a] [] r h:=.of func74 A74 H
def IW(H:bP (a>=0) (0<=(8:Int)/\aq (b+a)/\Pv c (b+a) fun e=>aq (a-1)/\Tx c b (cf .or .u64 (wrap .u64 (d*2^(min (toNat 8) (IntKind.bits .u64)))) (wrap .u64 e)) (a-1) r h)
 (Fi r h [vU d] [])):
  Tx c b d a r h:=.of A74 H
def C66(c:Int):ak 66 [vY c] [] [vB (dj c)] []:=by
 apply W66;refine aZ ?_;unfold dj;cases(c==95)<;>cases(bif decide (c>=97)then decide (c<=122)else false)<;>cases(bif decide (c>=65)then decide (c<=90)else false)<;>rfl
def C67(c:Int):ak 67 [vY c] [] [vB (gQ c)] []:=by apply W67;exact fi
def C68(l:List By)(s:By)(k:l.length<=2^40):ak 68 [vL 1 (aJ l),vS s] [] [vB (gh s l)] []:=by
 have b:(aJ l).length=l.length:=al ..;have key:∀(t:List By)(i:Nat),l.drop i=t->Nh (aJ l) s i [vB (gh s t)] []:=by
  intro t;induction t with
  |nil=>intro i a;apply Xu;rw[b];exact aQ (l:=l) rfl a fi
  |cons x t g=>
   intro i a;obtain⟨c,d,j⟩:=bM a;apply Xu;rw[b];refine aL (l:=l) rfl a ⟨x,by omega,aP c,ad (fun h=>aZ ?_) fun h=>⟨au,?_⟩⟩
   .rw[gh,kj,bZ h];simp
   .have f:(s==x)=false:=by rw[ko]at h⊢; intro e;exact h (by rw[bZ e];simp)
    have:=g (i+1) d;rw[gh,kj,f,mW];exact this
 apply W68;exact key l 0 rfl
def F9(p:Int->Bool):∀(s:By),((runN p s:Int)==(s.length:Int))=s.all fun c=>p c.toNat
 |[]=>rfl
 |c::s=>by
  have a:=F9 p s;unfold runN;rw[bJ,<-a];cases hc:p (c.toNat:Int)
  .simp only[af,Bool.false_and,aD]
   rw[gk];omega
  .simp only[ai,Bool.true_and,aD]
   rw[Bool.eq_iff_iff,beq_iff_eq,beq_iff_eq];omega
def Zy(s:By)(o:s.length<=2^40):ak 40 [vS s] [] [vB (bQ s)] []:=by
 have key:∀(t:By)(i:Nat),s.drop i=t->IL s i [vB (bif t.all (fun c=>bS c.toNat)then !gh s keys else false)] []:=by
  intro t;induction t with
  |nil=>
   intro i e;apply Xm;exact aQ (l:=s) rfl e ⟨_,C68 keys s (by decide),fi⟩
  |cons c t m=>
   intro i e;obtain⟨j,d,n⟩:=bM e;have k:=byte_at j;apply Xm;rw[k];have g:=m (i+1) d;refine aL (l:=s) rfl e ⟨⟨by omega,by omega⟩,_,C66 _,ad (fun h=>⟨⟨by omega,by omega⟩,_,C67 _,ad (fun f=>aZ ?_) fun f=>⟨au,?_⟩⟩) fun h=>⟨au,?_⟩⟩
   .have a:dj (c.toNat:Int)=false:=by simpa using h
    have b:gQ (c.toNat:Int)=false:=by simpa using f
    rw[bJ,bS,a,b];rfl
   .have a:dj (c.toNat:Int)=false:=by simpa using h
    have b:gQ (c.toNat:Int)=true:=by simpa using f
    rw[bJ,bS,a,b];exact g
   .have a:dj (c.toNat:Int)=true:=by simpa using h
    rw[bJ,bS,a];exact g
 apply W40;refine ad (fun h=>aZ (by rw[bQ,mo,h];rfl)) fun h=>?_
 have p:0<s.length:=by
  cases s with
  |nil=>simp at h
  |cons c s=>simp
 refine⟨⟨by omega,by omega⟩,_,C66 _,ad (fun d=>aZ ?_) fun d=>?_⟩
 .rw[bQ,mo,h]
  rw[show dj (UInt8.toNat (s.getD 0 0):Int)=false from by simpa using d];rfl
 .rw[bQ,mo,h]
  rw[show dj (UInt8.toNat (s.getD 0 0):Int)=true from by simpa using d,F9]
  exact key s 0 rfl
def C43(l:List By)(j:l.length<=2^40)(e:∀s∈l,s.length<=2^40):ak 43 [vL 1 (aJ l)] [] [vB (l.all bQ)] []:=by
 have c:(aJ l).length=l.length:=al ..;have key:∀(t:List By)(i:Nat),l.drop i=t->Nd (aJ l) i [vB (t.all bQ)] []:=by
  intro t;induction t with
  |nil=>intro i a;apply Xo;rw[c];exact aQ (l:=l) rfl a fi
  |cons x t f=>
   intro i a;obtain⟨b,d,g⟩:=bM a;apply Xo;rw[c];refine aL (l:=l) rfl a ⟨x,by omega,aP b,_,Zy x (e x (aK b)),ad (fun h=>aZ ?_) fun h=>⟨au,?_⟩⟩
   .rw[bJ,show bQ x=false by simpa using h];rfl
   .rw[bJ,show bQ x=true by simpa using h];exact f (i+1) d
 apply W43;exact key l 0 rfl
def et(l:List Ex):(bt l).length=l.length:=by rw[dw,al]
def eT{i:Nat}(h:l[i]?=some x):(bt l)[toNat (i:Int)]?=some [N x.kind,S x.op,S x.name,U x.num,L 5 (bt x.kids)]:=by
 rw[dw,<-Ex.cu];exact aP h
def C69(e:Ex)(g:rT e):ak 69 [oC e] [] [vB (fG e)] []:=by
 have c:=((kE e).1 g).2.1;obtain⟨k,o,n,m,l⟩:=e;have c:n.length<=2^40:=c;apply W69;rw[et];refine ad (fun h=>?_) fun h=>ad (fun a=>ad (fun b=>⟨_,Zy n c,aZ ?_⟩) fun b=>aZ ?_) fun a=>aZ ?_
 .have h:(k==7)=true:=h
  have f:=bZ h;refine aZ ?_;have d:(k==5)=false:=by rw[f];rfl
  unfold fG fw eo;simp only[Ex.kind,Ex.op,Ex.name,Ex.num,Ex.kids,h,d];cases o==[]<;>cases n==[]<;>cases((l.length:Int)==0)<;>rfl
 .have a:(k==5)=true:=a
  have h:(k==7)=false:=h;have b:(o==[])=true:=b;unfold fG fw eo;simp only[Ex.kind,Ex.op,Ex.name,Ex.num,Ex.kids,h,a,b];cases bQ n<;>cases m==0<;>cases((l.length:Int)==0)<;>rfl
 .have a:(k==5)=true:=a
  have h:(k==7)=false:=h;have b:(o==[])=false:=b;unfold fG fw eo;simp only[Ex.kind,Ex.op,Ex.name,Ex.num,Ex.kids,h,a,b];cases bQ n<;>cases m==0<;>cases((l.length:Int)==0)<;>rfl
 .have a:(k==5)=false:=a
  have h:(k==7)=false:=h;unfold fG fw eo;simp only[Ex.kind,Ex.op,Ex.name,Ex.num,Ex.kids,h,a];rfl
def C41:∀(d:Nat)(e:Ex),bL e<=d->rT e->ak 41 [oC e] [] [vB (gB e)] []
 |0,e,h,_=>by rw[cO]at h;omega
 |d+1,e,h,j=>by
  have f:=((kE e).1 j).2.2.2;obtain⟨k,o,n,m,l⟩:=e;have f:Uf l:=f;have h:cy l+1<=d+1:=h;apply W41;rw[et];refine ad (fun a=>⟨_,C69 _ j,aZ ?_⟩) fun a=>?_
  .have a:(k !=8)=true:=a
   rw[yF (by simpa using a)]
  .have a:(k !=8)=false:=a
   obtain rfl:k=8:=by simpa using a
   have p:ea (.mk 8 o n m l)=(bif(bif(bif o==[]then n==[]else false)then m==0 else false)then((l.length:Int)==2)else false):=by
    unfold ea;simp only[Ex.kind,Ex.op,Ex.name,Ex.num,Ex.kids];cases o==[]<;>cases n==[]<;>cases m==0<;>cases((l.length:Int)==2)<;>rfl
   refine ad (fun c=>?_) fun c=>aZ (by rw[KW (by rw[p];exact c)])
   have q:ea (.mk 8 o n m l)=true:=by rw[p];exact c
   obtain⟨x,y,rfl⟩:=N8 (cn (b:=(bif(bif o==[]then n==[]else false)then m==0 else false)) c).2;have s:=dZ (l:=[x,y]) f x (by simp)
   have t:=dZ (l:=[x,y]) f y (by simp)
   have u:=ek (l:=[x,y]) x (by simp)
   refine⟨_,_,_,_,_,by omega,eT (i:=0) (x:=x) rfl,_,C41 d x (by omega) s,ad (fun g=>⟨_,_,_,_,_,by omega,eT (i:=1) (x:=y) rfl,_,C69 y t,aZ ?_⟩) fun g=>aZ ?_⟩
   .simp only[gB,q,g];cases fG y<;>rfl
   .simp only[gB,q,g];cases fG y<;>rfl
def Py(s:By):Int:=bif s==[61,61]then 1 else bif s==[33,61]then 2 else bif s==[60]then 3 else bif s==[60,61]then 4 else bif s==[62]then 5 else bif s==[62,61]then 6 else 0
def C73(s:By):ak 73 [vS s] [] [vN (Py s)] []:=by
 apply W73;exact ad (fun h=>aZ (by rw[Py,h];rfl)) fun a=>ad (fun h=>aZ (by rw[Py,a,h];rfl)) fun b=>ad (fun h=>aZ (by rw[Py,a,b,h];rfl)) fun c=>ad (fun h=>aZ (by rw[Py,a,b,c,h];rfl)) fun d=>
  ad (fun h=>aZ (by rw[Py,a,b,c,d,h];rfl)) fun e=>ad (fun h=>aZ (by rw[Py,a,b,c,d,e,h];rfl)) fun h=>aZ (by rw[Py,a,b,c,d,e,h];rfl)
def Nn(s:By):(Py s==0)= !gh s ops:=by
 unfold Py gh ops;simp only[kj,List.any_nil,Bool.or_false];cases s==[61,61]<;>cases s==[33,61]<;>cases s==[60]<;>cases s==[60,61]<;>cases s==[62]<;>cases s==[62,61]<;>rfl
def C71:∀(d:Nat)(e:Ex),bL e<=d->d<=2^41->mq e->ak 71 [oC e] [] [vN (bL e)] []
 |0,e,h,_,_=>by rw[cO]at h;omega
 |d+1,e,h,s,m=>by
  rw[cO]at h;obtain⟨u,p⟩:=(z6 e).1 m;have key:∀(t:List Ex)(i:Nat)(n:Nat),e.kids.drop i=t->max n (cy t)<=2^41->IT (n:Int) i e.kind e.op e.name e.num (bt e.kids) [vN ((max n (cy t)+1:Nat):Int)] []:=by
   intro t;induction t with
   |nil=>
    intro i n a b;apply Xv;rw[et];exact aQ (l:=e.kids) rfl a ⟨au (by omega) (by simp[cy]at b;omega),aZ (by simp[cy])⟩
   |cons x t o=>
    intro i n a b;obtain⟨g,k,q⟩:=bM a;have j:=aK g;have v:=ek x j;have f:max n (cy (x::t))=max (max n (bL x)) (cy t):=by simp only[cy];omega
    rw[f]at b;have K:=o (i+1) _ k b;apply Xv;rw[et,f];refine aL (l:=e.kids) rfl a ⟨x.kind,x.op,x.name,x.num,bt x.kids,by omega,eT g,_,C71 d x (by omega) (by omega) (sU p x j),ad (fun c=>⟨au,?_⟩) fun c=>⟨au,?_⟩⟩
    .have:=aU c
     rw[show max n (bL x)=bL x by omega]at K⊢
     exact K
    .have:=bI c
     rw[show max n (bL x)=n by omega]at K⊢
     exact K
  have:=key e.kids 0 0 rfl (by omega)
  rw[show max 0 (cy e.kids)+1=bL e by rw[cO];omega]at this
  apply W71;exact this
def Bj{o n:By}(h:(bif !(n==[])then true else m !=0)=true)(l:List Ex):ea (.mk k o n m l)=false/\iL (.mk k o n m l)=false/\fY (.mk k o n m l)=false:=by
 unfold ea iL fY;simp only[Ex.kind,Ex.op,Ex.name,Ex.num,Ex.kids];generalize(bif(bif k==1 then true else k==2)then true else k==8)=a;cases hn:n==[]<;>cases hm:m==0
 .cases a<;>cases k==4<;>cases k==3<;>cases o==[]<;>exact⟨rfl,rfl,rfl⟩
 .cases a<;>cases k==4<;>cases k==3<;>cases o==[]<;>exact⟨rfl,rfl,rfl⟩
 .cases a<;>cases k==4<;>cases k==3<;>cases o==[]<;>exact⟨rfl,rfl,rfl⟩
 .rw[hn,bne,hm]at h;simp at h
def O4{o n:By}(h:(bif !(n==[])then true else m !=0)=true):∀(l:List Ex),cz (.mk k o n m l)=false
 |[]=>rfl
 |[x]=>by simp only[cz,(Bj h [x]).2.2];cases k==3<;>rfl
 |[x,y]=>by simp only[cz,(Bj h [x,y]).1,(Bj h [x,y]).2.1];cases(bif k==1 then true else k==2)<;>cases k==4<;>rfl
 |_::_::_::_=>rfl
def C70:∀(d:Nat)(e:Ex),bL e<=d->rT e->ak 70 [oC e] [] [vB (cz e)] []
 |0,e,h,_=>by rw[cO]at h;omega
 |d+1,e,h,hs=>by
  have b6:=(kE e).1 hs;obtain⟨k,o,n,m,l⟩:=e;have Z:Uf l:=b6.2.2.2;have h:cy l+1<=d+1:=h;have a1:∀x∈l,ak 70 [oC x] [] [vB (cz x)] []:=fun x u=>C70 d x (by have:=ek x u;omega) (dZ Z x u)
  apply W70;rw[et];refine ad (fun c=>aZ (by rw[show cz (.mk k o n m l)=false from O4 (k:=k) (o:=o) (n:=n) (m:=m) c l])) fun c=>?_
  have c:(bif !(n==[])then true else m !=0)=false:=c;have b4:n=[]/\m=0:=by
   cases hn:n==[]
   .rw[hn]at c;simp at c
   .rw[hn]at c;exact⟨by simpa using hn,by simpa using c⟩
  obtain⟨rfl,rfl⟩:=b4;have a6:∀{r:List AV}{s:List Bx},(k=1\/k=2)->([vB (cz (.mk k o [] 0 l))]=r)->([]=s)->aI (bif o==[]then((l.length:Int)==2)else false) (∃v w D E G,0<=(0:Int)/\(bt l)[toNat 0]?=some [N v,S w,S D,U E,L 5 G]/\∃b,ak 70 [.agg [N v,S w,S D,U E,L 5 G]] [] [vB b] []/\
    aI b (∃v w D E G,0<=(1:Int)/\(bt l)[toNat 1]?=some [N v,S w,S D,U E,L 5 G]/\∃b1,ak 70 [.agg [N v,S w,S D,U E,L 5 G]] [] [vB b1] []/\Fi r s [vB b1] []) (Fi r s [vB false] [])) (Fi r s [vB false] []):=by
   rintro r s R rfl rfl;have t:ea (.mk k o [] 0 l)=(bif o==[]then((l.length:Int)==2)else false):=by
    unfold ea;simp only[Ex.kind,Ex.op,Ex.name,Ex.num,Ex.kids];rcases R with rfl|rfl<;>cases o==[]<;>cases((l.length:Int)==2)<;>rfl
   have a2:(bif k==1 then true else k==2)=true:=by rcases R with rfl|rfl<;>rfl
   have b0:(k==3)=false:=by rcases R with rfl|rfl<;>rfl
   refine ad (fun f=>?_) fun f=>?_
   .have Q:ea (.mk k o [] 0 l)=true:=by rw[t];exact f
    obtain⟨x,y,rfl⟩:=N8 (cn (b:=o==[]) f).2;refine⟨_,_,_,_,_,by omega,eT (i:=0) (x:=x) rfl,_,a1 x (by simp),ad (fun g=>⟨_,_,_,_,_,by omega,eT (i:=1) (x:=y) rfl,_,a1 y (by simp),aZ ?_⟩) fun g=>aZ ?_⟩
    .simp only[cz,a2,Q,g];rfl
    .simp only[cz,a2,Q,g];rfl
   .have Q:ea (.mk k o [] 0 l)=false:=by rw[t];exact f
    refine aZ ?_;match l with
    |[]=>rfl
    |[x]=>simp only[cz,b0];rfl
    |[x,y]=>simp only[cz,a2,Q];rfl
    |_::_::_::_=>rfl
  refine ad (fun T=>a6 (.inl (bZ T)) rfl rfl) fun T=>ad (fun f=>a6 (.inr (bZ f)) rfl rfl) fun f=>ad (fun g=>?_) fun g=>ad (fun H=>?_) fun H=>?_
  .obtain rfl:k=3:=bZ g
   have t:fY (.mk 3 o [] 0 l)=(bif o==[]then((l.length:Int)==1)else false):=by
    unfold fY;simp only[Ex.kind,Ex.op,Ex.name,Ex.num,Ex.kids];cases o==[]<;>cases((l.length:Int)==1)<;>rfl
   refine ad (fun a=>?_) fun a=>aZ ?_
   .have A:fY (.mk 3 o [] 0 l)=true:=by rw[t];exact a
    obtain⟨x,rfl⟩:=P4 (cn (b:=o==[]) a).2;refine⟨_,_,_,_,_,by omega,eT (i:=0) (x:=x) rfl,_,a1 x (by simp),aZ ?_⟩
    simp only[cz,A];rfl
   .have A:fY (.mk 3 o [] 0 l)=false:=by rw[t];exact a
    match l with
    |[]=>rfl
    |[x]=>simp only[cz,A];rfl
    |[x,y]=>rfl
    |_::_::_::_=>rfl
  .obtain rfl:k=4:=bZ H
   refine ad (fun a=>aZ ?_) fun a=>?_
   .match l,a with
    |[],_=>rfl
    |[x],_=>rfl
    |_::_::_::_,_=>rfl
   .obtain⟨x,y,rfl⟩:=N8 (l:=l) (by have a:((l.length:Int) !=2)=false:=a;simpa using a)
    have u:=dZ Z x (by simp)
    have hy:=dZ Z y (by simp)
    have dy:=ek (l:=[x,y]) y (by simp)
    have Y:cz (.mk 4 o [] 0 [x,y])=bif gh o ops then(bif j8 x then gB y else false)else false:=rfl;refine⟨_,C73 o,ad (fun q=>aZ ?_) fun q=>⟨_,_,_,_,_,by omega,eT (i:=1) (x:=y) rfl,_,C41 d y (by omega) hy,ad (fun X=>aZ ?_) fun X=>?_⟩⟩
    .rw[Nn]at q
     rw[Y,show gh o ops=false by simpa using q];rfl
    .rw[Y,show gB y=false by simpa using X]
     cases gh o ops<;>cases j8 x<;>rfl
    .rw[Nn]at q
     have hm:gh o ops=true:=by simpa using q
     have b5:gB y=true:=by simpa using X
     have J:cz (.mk 4 o [] 0 [x,y])=j8 x:=by rw[Y,hm,b5];cases j8 x<;>rfl
     have a5:=(kE x).1 u;refine⟨_,_,_,_,_,by omega,eT (i:=0) (x:=x) rfl,ad (fun I=>⟨_,C69 x u,aZ ?_⟩) fun I=>?_⟩
     .rw[J]
      have b3:fw x=false:=by unfold fw;rw[bZ I];rfl
      have b2:iK x=false:=by unfold iK;rw[bZ I];rfl
      unfold j8 fG;rw[b3,b2];cases eo x<;>rfl
     .have a0:eo x=false:=by unfold eo;rw[I];rfl
      have a3:iK x=(bif(bif x.kind==6 then x.op==[]else false)then(bif x.num==0 then((x.kids.length:Int)==1)else false)else false):=by
       unfold iK;cases x.kind==6<;>cases x.op==[]<;>cases x.num==0<;>cases((x.kids.length:Int)==1)<;>rfl
      rw[et];have last:∀b,(bif x.kind==6 then x.op==[]else false)=true->bQ x.name=b->aI (bif(bif b then x.num==0 else false)then((x.kids.length:Int)==1)else false) (∃y0 y1 y2 y3 y4,0<=(0:Int)/\(bt x.kids)[toNat 0]?=some [N y0,S y1,S y2,U y3,L 5 y4]/\∃p,ak 69 [.agg [N y0,S y1,S y2,U y3,L 5 y4]] [] [vB p] []/\Fi [vB (cz (.mk 4 o [] 0 [x,y]))] [] [vB p] [])
        (Fi [vB (cz (.mk 4 o [] 0 [x,y]))] [] [vB false] []):=by
       intro b j a4;refine ad (fun K=>?_) fun K=>aZ ?_
       .obtain⟨a7,M⟩:=cn (b:=(bif b then x.num==0 else false)) K
        obtain⟨a8,a9⟩:=cn (b:=b) a7;obtain⟨z,F⟩:=P4 M;have b7:rT z:=dZ a5.2.2.2 z (by rw[F];simp)
        refine⟨_,_,_,_,_,by omega,eT (i:=0) (x:=z) (by rw[F];rfl),_,C69 z b7,aZ ?_⟩
        rw[J,j8,a0,a3,j,a9,M,a4,a8,lx,F];rfl
       .rw[J,j8,a0,a3,j,a4]
        cases b<;>cases hq:x.num==0<;>cases hr:((x.kids.length:Int)==1)<;>rw[hq,hr]at K<;>first|rfl|simp at K
      refine ad (fun j=>⟨_,Zy x.name a5.2.1,?_⟩) fun j=>?_
      .exact last _ j rfl
      .refine aw ?_ (aZ ?_)
       .rfl
       .rw[J,j8,a0,a3,j];rfl
  .refine aZ ?_
   have M:(bif k==1 then true else k==2)=false:=by rw[show(k==1)=false from T];exact f
   have g3:(k==3)=false:=g;have g4:(k==4)=false:=H;clear g H;match l with
   |[]=>rfl
   |[x]=>simp only[cz,g3];rfl
   |[x,y]=>simp only[cz,M,g4];rfl
   |_::_::_::_=>rfl
abbrev No(a b:Int)(c d e:Rw)(f g:Int)r h:=Lp f38 0 ⟨aO 184 [(1,.az 0 0),(3,vN a),(4,vN b)],[],[.aH [vL 6 c,vL 2 d,vL 1 e,vN f,vN g]]⟩ 0 r h
abbrev Np(a b:Int)(c d e:Rw)(f g:Int)r h:=Lp f38 1 ⟨aO 184 [(1,.az 0 0),(3,vN a),(5,vN b)],[],[.aH [vL 6 c,vL 2 d,vL 1 e,vN f,vN g]]⟩ 0 r h
abbrev Nq(a b:Int)(c d e:Rw)(f g:Int)r h:=Lp f38 2 ⟨aO 184 [(1,.az 0 0),(3,vN a),(6,vN b)],[],[.aH [vL 6 c,vL 2 d,vL 1 e,vN f,vN g]]⟩ 0 r h
abbrev Nr(a b:Int)(c:Rw)(d:Int)(e f g:Rw)(i j:Int)r h:=Lp f38 3 ⟨aO 184 [(1,.az 0 0),(3,vN a),(6,vN b),(7,vL 4 c),(8,vN d)],[],[.aH [vL 6 e,vL 2 f,vL 1 g,vN i,vN j]]⟩ 0 r h
abbrev Ns(a b:Int)(c:Rw)(d e:Int)(f g i:Rw)(j k:Int)r h:=Lp f38 4 ⟨aO 184 [(1,.az 0 0),(3,vN a),(6,vN b),(7,vL 4 c),(8,vN d),(9,vN e)],[],[.aH [vL 6 f,vL 2 g,vL 1 i,vN j,vN k]]⟩ 0 r h
abbrev Nt(a b:Int)(c:Rw)(d e f:Int)(g i j:Rw)(k l:Int)(m:By)(n o:Rw)r h:=Lp f38 5 ⟨aO 184 [(1,.az 0 0),(3,vN a),(6,vN b),(7,vL 4 c),(8,vN d),(9,vN e),(10,.az 1 0),(11,vN f)],[],[.aH [vL 6 g,vL 2 i,vL 1 j,vN k,vN l],.aH [vS m,vL 1 n,vL 5 o]]⟩ 0 r h
abbrev Nu(a b:Int)(c:Rw)(d e f:Int)(g i j:Rw)(k l:Int)(m:By)(n o:Rw)r h:=Lp f38 6 ⟨aO 184 [(1,.az 0 0),(3,vN a),(6,vN b),(7,vL 4 c),(8,vN d),(9,vN e),(10,.az 1 0),(12,vN f)],[],[.aH [vL 6 g,vL 2 i,vL 1 j,vN k,vN l],.aH [vS m,vL 1 n,vL 5 o]]⟩ 0 r h
def Xz:df:={an:=[(1,5,aa),(1,6,aa),(1,7,aa),(1,8,aa),(1,11,aa),(1,12,aa),(1,13,aa),(1,14,aa),(7,5,ah),(7,6,ah),(7,14,ah),(12,4,ah),(17,5,ah),(18,9,ah),(23,4,ah),(23,12,ah),(26,5,ah),(28,4,ah),(28,7,ah),(30,5,aa),(30,6,aa),(30,7,aa),(30,8,aa),(30,11,aa),(30,12,aa),(30,13,aa),(30,14,aa),(30,17,aa),(30,18,aa),(35,4,ah),(40,4,ah),(40,5,ah)],cut:=[(10,{bl:=[1,3,5]}),(15,{bl:=[1,3,6]}),(21,{bl:=[1,3,6,7,8]}),(26,{bl:=[1,3,6,7,8,9]}),(33,{bl:=[1,3,6,7,8,9,10,11]}),(38,{bl:=[1,3,6,7,8,9,10,12]}),(5,{bl:=[1,3,4]})]}
def W38(H:aI (bif(bif(decide ((a.length:Int)>12))then true else(decide ((b.length:Int)>8)))then true else(decide ((c.length:Int)>8))) (Fi r h [vB false] [])
 (No 0 0 a b c d e r h)):
  ak 38 [.agg [L 6 a,L 2 b,L 1 c,N d,N e]] [] r h:=.of func38 Xz H
def XA(H:bP (a<(b.length:Int)) (ej b a fun p i j k l m=>cb 63 [.agg [N i,S j,S k,U l,L 5 m]] [] fun n=>aI (!n) (Fi r h [vB false] []) (ej b a fun o q s t u v=>bP ((o.length:Int)>60) (Fi r h [vB false] [])
 (aq (a+1)/\No c (a+1) b d e f g r h)))
 (Np c 0 b d e f g r h)):
  No c a b d e f g r h:=.of Xz H
def XB(H:bP (a<(b.length:Int)) (Hc b a fun i=>bP ((i.length:Int)>60) (Fi r h [vB false] [])
 (aq (a+1)/\Np c (a+1) d e b f g r h))
 (Nq c 0 d e b f g r h)):
  Np c a d e b f g r h:=.of Xz H
def XC(H:bP (a<(b.length:Int)) (lV b a fun k i=>bP ((i.length:Int)>12) (Fi r h [vB false] []) (lV b a fun j l=>bP ((j.length:Int)>60) (Fi r h [vB false] [])
 (Nr c a i 0 d b e f g r h)))
 (Fi r h [vB true] [])):
  Nq c a d b e f g r h:=.of Xz H
def XD(H:bP (b<(a.length:Int)) (gO a b fun k m n o=>bP ((k.length:Int)>60) (Fi r h [vB false] []) (gO a b fun p q s l=>bP ((l.length:Int)>12) (Fi r h [vB false] [])
 (Ns d c a b 0 e f g i j r h)))
 (aq (c+1)/\Nq d (c+1) e f g i j r h)):
  Nr d c a b e f g i j r h:=.of Xz H
def XE(H:gO c a fun q s t o=>bP (d<(o.length:Int)) (gO c a fun u v w p=>pP p d fun l m n=>aq (b+1)/\aI (bif(bif(bif(decide ((l.length:Int)>60))then true else(decide ((m.length:Int)>10)))then true else(decide ((n.length:Int)>3)))then true else(decide ((b+1)>60))) (Fi r h [vB false] [])
 (Nt (b+1) e c a d 0 f g i j k l m n r h))
 (aq (a+1)/\Nr b e c (a+1) f g i j k r h)):
  Ns b e c a d f g i j k r h:=.of Xz H
def XF(H:bP (a<(b.length:Int)) (Hc b a fun p=>bP ((p.length:Int)>60) (Fi r h [vB false] [])
 (aq (a+1)/\Nt c d e f g (a+1) i j k l m n b o r h))
 (Nu c d e f g 0 i j k l m n b o r h)):
  Nt c d e f g a i j k l m n b o r h:=.of Xz H
def XG(H:bP (a<(c.length:Int)) (br c a fun p q s t u=>cb 63 [.agg [N p,S q,S s,U t,L 5 u]] [] fun v=>aI (!v) (Fi r h [vB false] [])
 (aq (a+1)/\Nu d e f g b (a+1) i j k l m n o c r h))
 (aq (b+1)/\Ns d e f g (b+1) i j k l m r h)):
  Nu d e f g b a i j k l m n o c r h:=.of Xz H
def W63(H:kQ 92 [.agg [N a,S b,S c,U d,L 5 e],vN 0] [] fun f=>Fi r h [vB (decide (f<=300))] []):
  ak 63 [.agg [N a,S b,S c,U d,L 5 e]] [] r h:=.of func63 {an:=[(1,1,ah)]} H
abbrev Nv(a b c d:Int)(e f:By)(g:Int)(i:Rw)r h:=Lp f92 0 ⟨aO 43 [(1,vN a),(2,.az 0 0),(5,vN b),(6,vN c)],[],[.aH [vN d,vS e,vS f,vU g,vL 5 i]]⟩ 0 r h
def A92:df:={an:=[(1,3,aa),(1,4,aa),(1,5,aa),(1,6,aa),(1,9,aa),(1,10,aa),(1,11,aa),(1,12,aa),(5,6,aa),(5,7,aa),(7,5,ah),(7,8,ah)],cut:=[(5,{bl:=[1,2,5,6]})]}
def W92(H:aI (bif(bif(decide (c>100))then true else(decide ((b.length:Int)>60)))then true else(decide ((a.length:Int)>20))) (Fi r h [vN 1000] [])
 (Nv c 1 0 d a b e f r h)):
  ak 92 [.agg [N d,S a,S b,U e,L 5 f],vN c] [] r h:=.of func92 A92 H
def Ty(H:aI (bif(decide (b<(d.length:Int)))then(decide (a<1000))else false) (br d b fun k l m n o=>aq (c+1)/\kQ 92 [.agg [N k,S l,S m,U n,L 5 o],vN (c+1)] [] fun j=>aq (a+j)/\aq (b+1)/\Nv c (a+j) (b+1) e f g i d r h)
 (Fi r h [vN a] [])):
  Nv c a b e f g i d r h:=.of A92 H
abbrev Nw(a:Int)(b c d:Rw)(e f:Int)r h:=Lp f39 0 ⟨aO 23 [(1,.az 0 0),(3,vN a)],[],[.aH [vL 6 b,vL 2 c,vL 1 d,vN e,vN f]]⟩ 0 r h
def A39:df:={an:=[(4,5,ah),(4,6,ah),(6,2,ah)],cut:=[(2,{bl:=[1,3]})]}
def W39(H:Nw 0 a b c d e r h):
  ak 39 [.agg [L 6 a,L 2 b,L 1 c,N d,N e]] [] r h:=.of func39 A39 H
def XH(H:bP (a<(b.length:Int)) (ej b a fun o g i j k l=>kQ 64 [.agg [N g,S i,S j,U k,L 5 l]] [] fun m=>bP (m>3) (Fi r h [vB false] [])
 (aq (a+1)/\Nw (a+1) b c d e f r h))
 (kQ 65 [vL 2 c] [] fun n=>Fi r h [vB (decide (n<=3))] [])):
  Nw a b c d e f r h:=.of A39 H
abbrev IX(a b c:Int)(d e:By)(f:Int)(g:Rw)r h:=Lp f64 0 ⟨aO 24 [(1,.az 0 0),(3,vN a),(4,vN b)],[],[.aH [vN c,vS d,vS e,vU f,vL 5 g]]⟩ 0 r h
def A64:df:={an:=[(7,5,ah),(7,6,ah)],cut:=[(5,{bl:=[1,3,4]})]}
def W64(H:aI (a==5) (IX 1 0 a b c d e r h)
 (IX 0 0 a b c d e r h)):
  ak 64 [.agg [N a,S b,S c,U d,L 5 e]] [] r h:=.of func64 A64 H
def XI(H:bP (a<(c.length:Int)) (br c a fun j k l m n=>kQ 64 [.agg [N j,S k,S l,U m,L 5 n]] [] fun i=>aq (b+i)/\aq (a+1)/\IX (b+i) (a+1) d e f g c r h)
 (Fi r h [vN b] [])):
  IX b a d e f g c r h:=.of A64 H
abbrev IY(a:Rw)(b c:Int)r h:=Lp f65 0 ⟨aO 40 [(0,vL 2 a),(3,vN b),(4,vN c)],[],[]⟩ 0 r h
abbrev IZ(a:Rw)(b c d e:Int)r h:=Lp f65 1 ⟨aO 40 [(0,vL 2 a),(3,vN b),(4,vN c),(5,vN d),(6,vN e)],[],[]⟩ 0 r h
def A65:df:={an:=[(7,5,ah),(9,4,ah),(9,8,ah)],cut:=[(3,{bl:=[0,3,4]}),(7,{bl:=[0,3,4,5,6]})]}
def W65(H:IY a 0 0 r h):
  ak 65 [vL 2 a] [] r h:=.of func65 A65 H
def XJ(H:bP (c<(a.length:Int)) (IZ a b c 0 0 r h)
 (Fi r h [vN b] [])):
  IY a b c r h:=.of A65 H
def XK(H:lV b a fun j f=>bP (c<(f.length:Int)) (lV b a fun k g=>gO g c fun i l m n=>aI (!(i==[])) (aq (d+1)/\aq (c+1)/\IZ b e a (d+1) (c+1) r h)
 (aq (c+1)/\IZ b e a d (c+1) r h))
 (bP (d>e) (aq (a+1)/\IY b d (a+1) r h)
 (aq (a+1)/\IY b e (a+1) r h))):
  IZ b e a d c r h:=.of A65 H
def W21(H:cb 38 [.agg [L 6 a,L 2 b,L 1 c,N d,N e]] [] fun f=>aI f (cb 39 [.agg [L 6 a,L 2 b,L 1 c,N d,N e]] [] fun g=>Fi r h [vB g] []) (Fi r h [vB false] [])):
  ak 21 [.agg [L 6 a,L 2 b,L 1 c,N d,N e]] [] r h:=.of func21 {an:=[(1,1,ah),(1,4,ah)]} H
mutual
def mw:Ex->Int->Int
 |.mk _ o n _ l,d=>bif(bif(bif decide (d>100)then true else decide ((n.length:Int)>60))then true else decide ((o.length:Int)>20))then 1000 else nI l d 1
def nI:List Ex->Int->Int->Int
 |[],_,n=>n
 |x::t,d,n=>bif decide (n<1000)then nI t d (n+mw x (d+1))else n
end
mutual
def dB:Ex->Int|.mk _ _ _ _ l=>cM l+1
def cM:List Ex->Int|[]=>0|x::t=>dB x+cM t
end
mutual
theorem eU:∀e,1<=dB e
 |.mk _ _ _ _ l=>by have:=lB l;simp only[dB];omega
theorem lB:∀l,0<=cM l
 |[]=>eA _
 |x::t=>by have:=eU x;have:=lB t;simp only[cM];omega
end
mutual
def oI:Ex->Prop|.mk _ o n _ l=>o.length<=20/\n.length<=60/\Bk l
def Bk:List Ex->Prop|[]=>True|x::t=>oI x/\Bk t
end
mutual
theorem Bl:∀(e:Ex)(d:Int),1<=mw e d
 |.mk k o n m l,d=>by
  unfold mw;cases(bif(bif decide (d>100)then true else decide ((n.length:Int)>60))then true else decide ((o.length:Int)>20))
  .exact xh l d 1
  .show(1:Int)<=1000;decide
theorem xh:∀(l:List Ex)(d n:Int),n<=nI l d n
 |[],_,n=>eA n
 |x::t,d,n=>by
  unfold nI;have a:=Bl x (d+1);have b:=xh t d (n+mw x (d+1));cases decide (n<1000)
  .exact eA n
  .simp only[ai];omega
end
mutual
theorem Dt:∀(e:Ex)(d:Int),mw e d<1000->mw e d=dB e/\oI e
 |.mk k o n m l,d,h=>by
  unfold mw at h⊢;cases hb:(bif(bif decide (d>100)then true else decide ((n.length:Int)>60))then true else decide ((o.length:Int)>20))<;>rw[hb]at h
  .obtain⟨b,j⟩:=Bn l d 1 (eA 1) h
   refine⟨by rw[af,b];simp only[dB];omega,?_⟩
   have p:decide ((o.length:Int)>20)=false:=by
    cases hq:(bif decide (d>100)then true else decide ((n.length:Int)>60))<;>rw[hq]at hb
    .exact hb
    .simp at hb
   have a:decide ((n.length:Int)>60)=false:=by
    cases hd:decide (d>100)<;>rw[hd]at hb
    .cases a:decide ((n.length:Int)>60)with
     |false=>rfl
     |true=>rw[a]at hb;simp at hb
    .simp at hb
   have:=bI p;have:=bI a;exact⟨by omega,by omega,j⟩
  .simp at h
theorem Bn:∀(l:List Ex)(d n:Int),1<=n->nI l d n<1000->nI l d n=n+cM l/\Bk l
 |[],_,n,_,h=>⟨by simp[nI,cM],trivial⟩
 |x::t,d,n,s,h=>by
  unfold nI at h⊢;cases a:decide (n<1000)<;>rw[a]at h
  .have:=bI a
   have:n<1000:=h;omega
  .rw[ai]at h⊢
   have q:=xh t d (n+mw x (d+1));have b:=Bl x (d+1);obtain⟨c,f⟩:=Bn t d _ (by omega) h
   obtain⟨g,i⟩:=Dt x (d+1) (by omega)
   exact⟨by rw[c,g];simp only[cM];omega,i,f⟩
end
mutual
def Ga:Ex->Prop|.mk _ _ _ _ l=>l.length<=2^47/\O5 l
def O5:List Ex->Prop|[]=>True|e::l=>Ga e/\O5 l
end
def I0:∀{l:List Ex},O5 l->∀x∈l,Ga x
 |[],_,_,h=>by simp at h
 |e::l,a,x,h=>by
  unfold O5 at a;rcases aY.1 h with rfl|h
  .exact a.1
  .exact I0 a.2 x h
structure XL (r:gP):Prop where
 pl:r.params.length<=2^47
 cl:r.cond.length<=2^47
 cond:∀e∈r.cond,Ga e
structure XM (p:cQ):Prop where
 rl:p.bk.length<=2^47
 bk:∀r∈p.bk,XL r
structure XN (p:cW):Prop where
 pl:p.aT.length<=2^47
 aT:∀x∈p.aT,XM x
structure I1 (u:fT):Prop where
 dl:u.aF.length<=2^47
 aF:∀d∈u.aF,Ga d.ex
 pl:u.aB.length<=2^47
 aB:∀p∈u.aB,XN p
 ml:u.main.length<=2^47
def C92:∀(m:Nat)(e:Ex)(d:Int),Ga e->0<=d->d+m=101->ak 92 [oC e,vN d] [] [vN (mw e d)] []/\mw e d<=1000*((m:Int)+1)
 |m,e,d,g,D,G=>by
  obtain⟨k,o,n,v,l⟩:=e;unfold Ga at g;obtain⟨hlen,u⟩:=g;cases hb:(bif(bif decide (d>100)then true else decide ((n.length:Int)>60))then true else decide ((o.length:Int)>20))with
  |true=>
   refine⟨?_,by unfold mw;rw[hb];simp only[ai];omega⟩
   apply W92;exact bj hb (aZ (by unfold mw;rw[hb];rfl))
  |false=>
   have E:d<=100:=by
    cases hq:decide (d>100)<;>rw[hq]at hb
    .have:=bI hq;omega
    .simp at hb
   obtain⟨a,rfl⟩:∃a,m=a+1:=⟨m-1,by omega⟩
   have h:=fun(x:Ex)(w:x∈l)=>C92 a x (d+1) (I0 u x w) (by omega) (by omega)
   have key:∀(t:List Ex)(i:Nat)(q:Int),l.drop i=t->1<=q->q<=999+1000*((a:Int)+1)->Nv d q i k o n v (bt l) [vN (nI t d q)] []/\nI t d q<=999+1000*((a:Int)+1):=by
    intro t;induction t with
    |nil=>
     intro i q f s b;have:=lj f;refine⟨?_,b⟩;apply Ty;rw[et];exact aw (by rw[bB (by omega)];rfl) fi
    |cons x t z=>
     intro i q f s b;obtain⟨j,y,H⟩:=bM f;obtain⟨c,r⟩:=h x (aK j);have lo:=Bl x (d+1);unfold nI;cases hq:decide (q<1000)with
     |false=>
      refine⟨?_,b⟩;apply Ty;rw[et];exact aw (by rw[bw (by omega),hq];rfl) fi
     |true=>
      have I:=aU hq;obtain⟨K,p⟩:=z (i+1) (q+mw x (d+1)) y (by omega) (by omega)
      refine⟨?_,p⟩;apply Ty;rw[et];exact bj (by rw[bw (by omega),hq];rfl) ⟨_,_,_,_,_,by omega,eT j,au,_,c,au,au,K⟩
   obtain⟨K,p⟩:=key l 0 1 rfl (by omega) (by omega)
   refine⟨?_,by unfold mw;rw[hb];simp only[af];omega⟩
   apply W92;refine aw hb ?_;unfold mw;rw[hb];exact K
def qQ(e:Ex):Bool:=decide (mw e 0<=300)
def C63(e:Ex)(a:Ga e):ak 63 [oC e] [] [vB (qQ e)] []:=by
 apply W63;exact⟨_,(C92 101 e 0 a (by omega) (by omega)).1,fi⟩
def yM(h:qQ e=true):dB e<=300/\oI e:=by
 have h:=aU h;obtain⟨b,a⟩:=Dt e 0 (by omega)
 exact⟨by omega,a⟩
def iQ(s:By):Bool :=!decide ((s.length:Int)>60)
def Bo(d:cZ):Bool:=bif qQ d.ex then iQ d.name else false
def oo:List gP->Int->Option Int
 |[],n=>some n
 |r::t,n=>bif(bif(bif(bif decide ((r.call.length:Int)>60)then true else decide ((r.params.length:Int)>10))then true else decide ((r.cond.length:Int)>3))then true else decide (n+1>60))then none else
  bif !r.params.all iQ then none else bif !r.cond.all qQ then none else oo t (n+1)
def oq:List cQ->Int->Option Int
 |[],n=>some n
 |p::t,n=>bif decide ((p.use.length:Int)>60)then none else bif decide ((p.bk.length:Int)>12)then none else(oo p.bk n).bind (oq t)
def my:List cW->Int->Option Int
 |[],n=>some n
 |p::t,n=>bif decide ((p.aT.length:Int)>12)then none else bif decide ((p.name.length:Int)>60)then none else(oq p.aT n).bind (my t)
def xi(u:fT):Bool:=bif(bif(bif decide ((u.aF.length:Int)>12)then true else decide ((u.aB.length:Int)>8))then true else decide ((u.main.length:Int)>8))then false else
 bif !u.aF.all Bo then false else bif !u.main.all iQ then false else(my u.aB 0).isSome
def C38(u:fT)(h:I1 u):ak 38 [qm u] [] [vB (xi u)] []:=by
 have ld:(u.aF.map cZ.row).length=u.aF.length:=al ..;have T:(u.aB.map cW.row).length=u.aB.length:=al ..;have Q:(aJ u.main).length=u.main.length:=al ..;have a2:=h.dl;have a4:=h.pl;have a3:=h.ml;have k2:∀(t:List cW)(i:Nat)(n:Int),u.aB.drop i=t->0<=n->n<=60->Nq n i (u.aF.map cZ.row) (u.aB.map cW.row) (aJ u.main) u.ch.kind u.ch.data [vB (my t n).isSome] []:=by
  intro t;induction t with
  |nil=>
   intro i n c _ _;apply XC;rw[T];exact aQ (l:=u.aB) rfl c fi
  |cons p t D=>
   intro i n c k g;obtain⟨m,y,h3⟩:=bM c;have hp:=h.aB p (aK m);have a5:=hp.pl;have E:(u.aB.map cW.row)[toNat (i:Int)]?=some [S p.name,L 4 (p.aT.map cQ.row)]:=aP m;have Z:(p.aT.map cQ.row).length=p.aT.length:=al ..;have k3:∀(v:List cQ)(j:Nat)(n:Int),p.aT.drop j=v->0<=n->n<=60->Nr n i (p.aT.map cQ.row) j (u.aF.map cZ.row) (u.aB.map cW.row) (aJ u.main) u.ch.kind u.ch.data [vB ((oq v n).bind (my t)).isSome] []:=by
    intro v;induction v with
    |nil=>
     intro j n H k g;apply XD;rw[Z];exact aQ (l:=p.aT) rfl H ⟨au,D (i+1) n y k g⟩
    |cons x v a0=>
     intro j n H k g;obtain⟨j1,j2,j3⟩:=bM H;have hx:=hp.aT x (aK j1);have a8:=hx.rl;have R:(x.bk.map gP.row).length=x.bk.length:=al ..;have G:(p.aT.map cQ.row)[toNat (j:Int)]?=some [S x.use,N x.act.kind,N x.act.data,L 3 (x.bk.map gP.row)]:=aP j1;have k4:∀(w:List gP)(q:Nat)(n:Int),x.bk.drop q=w->0<=n->n<=60->Ns n i (p.aT.map cQ.row) j q (u.aF.map cZ.row) (u.aB.map cW.row) (aJ u.main) u.ch.kind u.ch.data [vB (((oo w n).bind (oq v)).bind (my t)).isSome] []:=by
      intro w;induction w with
      |nil=>
       intro q n I k g;apply XE;refine⟨_,_,_,_,by omega,G,?_⟩
       simp only[R];exact aQ (l:=x.bk) rfl I ⟨au,a0 (j+1) n j2 k g⟩
      |cons r w a1=>
       intro q n I k g;obtain⟨q1,q2,q3⟩:=bM I;have M:=hx.bk r (aK q1);have a7:=M.pl;have a6:=M.cl;have A:(aJ r.params).length=r.params.length:=al ..;have F:(r.cond.map Ex.row).length=r.cond.length:=al ..;apply XE;refine⟨_,_,_,_,by omega,G,?_⟩
       simp only[R];refine aL (l:=x.bk) rfl I ⟨_,_,_,_,by omega,G,_,_,_,by omega,aP q1,au,?_⟩
       rw[A,F];refine ad (fun a=>aZ (by rw[oo,a];rfl)) fun a=>?_
       have h4:n+1<=60:=by
        cases hz:(bif(bif decide ((r.call.length:Int)>60)then true else decide ((r.params.length:Int)>10))then true else decide ((r.cond.length:Int)>3))<;>rw[hz]at a
        .have:=bI a;omega
        .simp at a
       have e0:oo (r::w) n=bif !r.params.all iQ then none else bif !r.cond.all qQ then none else oo w (n+1):=by rw[oo,a];rfl
       have k6:∀(z:List Ex)(s:Nat),r.cond.drop s=z->Nu (n+1) i (p.aT.map cQ.row) j q s (u.aF.map cZ.row) (u.aB.map cW.row) (aJ u.main) u.ch.kind u.ch.data r.call (aJ r.params) (r.cond.map Ex.row) [vB (((bif !z.all qQ then none else oo w (n+1)).bind (oq v)).bind (my t)).isSome] []:=by
        intro z;induction z with
        |nil=>
         intro s f;apply XG;rw[F];exact aQ (l:=r.cond) rfl f ⟨au,a1 (q+1) (n+1) q2 (by omega) h4⟩
        |cons e z Y=>
         intro s f;obtain⟨J,X,s3⟩:=bM f;apply XG;rw[F];refine aL (l:=r.cond) rfl f ⟨_,_,_,_,_,by omega,(aP J).trans (by rw[Ex.cu]),_,C63 e (M.cond e (aK J)),ad (fun b=>aZ ?_) fun b=>⟨au,?_⟩⟩
         .rw[bJ,show qQ e=false by simpa using b];rfl
         .rw[bJ,show qQ e=true by simpa using b];exact Y (s+1) X
       have k5:∀(z:List By)(s:Nat),r.params.drop s=z->Nt (n+1) i (p.aT.map cQ.row) j q s (u.aF.map cZ.row) (u.aB.map cW.row) (aJ u.main) u.ch.kind u.ch.data r.call (aJ r.params) (r.cond.map Ex.row) [vB (((bif !z.all iQ then none else bif !r.cond.all qQ then none else oo w (n+1)).bind (oq v)).bind (my t)).isSome] []:=by
        intro z;induction z with
        |nil=>
         intro s f;apply XF;rw[A];exact aQ (l:=r.params) rfl f (k6 r.cond 0 rfl)
        |cons e z Y=>
         intro s f;obtain⟨J,X,s3⟩:=bM f;apply XF;rw[A];refine aL (l:=r.params) rfl f ⟨_,by omega,aP J,ad (fun b=>aZ ?_) fun b=>⟨au,?_⟩⟩
         .rw[bJ,iQ,b];rfl
         .rw[bJ,iQ,b];exact Y (s+1) X
       rw[e0];exact k5 r.params 0 rfl
     apply XD;rw[Z];refine aL (l:=p.aT) rfl H ⟨_,_,_,_,by omega,G,ad (fun a=>aZ (by rw[oq,a];rfl)) fun a=>⟨_,_,_,_,by omega,G,?_⟩⟩
     simp only[R];refine ad (fun o=>aZ (by rw[oq,a,o];rfl)) fun o=>?_
     rw[oq,a,o];exact k4 x.bk 0 n rfl k g
   apply XC;rw[T];refine aL (l:=u.aB) rfl c ⟨_,_,by omega,E,?_⟩
   simp only[Z];refine ad (fun a=>aZ (by rw[my,a];rfl)) fun a=>⟨_,_,by omega,E,ad (fun o=>aZ (by rw[my,a,o];rfl)) fun o=>?_⟩
   rw[my,a,o];exact k3 p.aT 0 n rfl k g
 have k1:∀(t:List By)(i:Nat),u.main.drop i=t->Np 0 i (u.aF.map cZ.row) (u.aB.map cW.row) (aJ u.main) u.ch.kind u.ch.data [vB (bif !t.all iQ then false else(my u.aB 0).isSome)] []:=by
  intro t;induction t with
  |nil=>intro i c;apply XB;rw[Q];exact aQ (l:=u.main) rfl c (k2 u.aB 0 0 rfl (by omega) (by omega))
  |cons s t D=>
   intro i c;obtain⟨m,y,h3⟩:=bM c;apply XB;rw[Q];refine aL (l:=u.main) rfl c ⟨_,by omega,aP m,ad (fun b=>aZ ?_) fun b=>⟨au,?_⟩⟩
   .rw[bJ,iQ,b];rfl
   .rw[bJ,iQ,b];exact D (i+1) y
 have k0:∀(t:List cZ)(i:Nat),u.aF.drop i=t->No 0 i (u.aF.map cZ.row) (u.aB.map cW.row) (aJ u.main) u.ch.kind u.ch.data [vB (bif !t.all Bo then false else bif !u.main.all iQ then false else(my u.aB 0).isSome)] []:=by
  intro t;induction t with
  |nil=>intro i c;apply XA;rw[ld];exact aQ (l:=u.aF) rfl c (k1 u.main 0 rfl)
  |cons d t D=>
   intro i c;obtain⟨m,y,h3⟩:=bM c;have hd:=h.aF d (aK m);have E:(u.aF.map cZ.row)[toNat (i:Int)]?=some [S d.name,N d.ex.kind,S d.ex.op,S d.ex.name,U d.ex.num,L 5 (bt d.ex.kids)]:=(aP m).trans (by rw[cZ.row,Ex.cu])
   apply XA;rw[ld];refine aL (l:=u.aF) rfl c ⟨_,_,_,_,_,_,by omega,E,_,C63 d.ex hd,ad (fun b=>aZ ?_) fun b=>⟨_,_,_,_,_,_,by omega,E,ad (fun K=>aZ ?_) fun K=>⟨au,?_⟩⟩⟩
   .rw[bJ,Bo,show qQ d.ex=false by simpa using b];rfl
   .rw[bJ,Bo,show qQ d.ex=true by simpa using b,iQ,K];rfl
   .rw[bJ,Bo,show qQ d.ex=true by simpa using b,iQ,K];exact D (i+1) y
 apply W38;rw[ld,T,Q];refine ad (fun a=>aZ (by rw[xi,a];rfl)) fun a=>?_
 rw[xi,a];exact k0 u.aF 0 rfl
def Bp(h:(bif b then true else c)=false):b=false/\c=false:=by cases b<;>cases c<;>simp at h⊢
def vR(h:(bif b then none else x)=some y):b=false/\x=some y:=by cases b<;>simp_all
def pw{a b:Int}(h:decide (a>b)=false):a<=b:=by have:=bI h;omega
def s9{l:List By}(h:l.all iQ=true):∀s∈l,s.length<=60:=fun s c=>by
 have:=bf.1 h s c;unfold iQ at this;have:=pw (a:=(s.length:Int)) (b:=60) (by simpa using this)
 omega
def Du:∀(l:List gP)(n m:Int),oo l n=some m->∀r∈l,r.call.length<=60/\r.params.length<=10/\r.cond.length<=3/\(∀s∈r.params,s.length<=60)/\∀e∈r.cond,qQ e=true
 |[],_,_,_=>by simp
 |r::t,n,m,h=>by
  unfold oo at h;obtain⟨f,h⟩:=vR h;obtain⟨g,h⟩:=vR h;obtain⟨i,h⟩:=vR h;obtain⟨j,-⟩:=Bp f;obtain⟨k,d⟩:=Bp j;obtain⟨b,c⟩:=Bp k;have b:=pw b;have c:=pw c;have d:=pw d;intro x a;rcases aY.1 a with rfl|a
  .exact⟨by omega,by omega,by omega,s9 (by simpa using g),bf.1 (by simpa using i)⟩
  .exact Du t _ m h x a
def Dv:∀(l:List cQ)(n m:Int),oq l n=some m->∀x∈l,x.use.length<=60/\x.bk.length<=12/\∃n m,oo x.bk n=some m
 |[],_,_,_=>by simp
 |p::t,n,m,h=>by
  unfold oq at h;obtain⟨b,h⟩:=vR h;obtain⟨c,h⟩:=vR h;have b:=pw b;have c:=pw c;obtain⟨k,d,e⟩:=cV.1 h;intro x a;rcases aY.1 a with rfl|a
  .exact⟨by omega,by omega,_,_,d⟩
  .exact Dv t _ m e x a
def Dw:∀(l:List cW)(n m:Int),my l n=some m->∀p∈l,p.name.length<=60/\p.aT.length<=12/\∃n m,oq p.aT n=some m
 |[],_,_,_=>by simp
 |p::t,n,m,h=>by
  unfold my at h;obtain⟨b,h⟩:=vR h;obtain⟨c,h⟩:=vR h;have b:=pw b;have c:=pw c;obtain⟨k,d,e⟩:=cV.1 h;intro x a;rcases aY.1 a with rfl|a
  .exact⟨by omega,by omega,_,_,d⟩
  .exact Dw t _ m e x a
mutual
theorem Tz:∀e:Ex,oI e->dB e<=300->rT e/\(bL e:Int)<=dB e
 |.mk k o n v l,h,b=>by
  unfold oI at h;unfold dB at b;obtain⟨a,d,c⟩:=Nx l h.2.2 (by omega)
  unfold rT bL dB;exact⟨⟨by omega,by omega,by omega,a⟩,by omega⟩
theorem Nx:∀l:List Ex,Bk l->cM l<=299->Uf l/\(cy l:Int)<=cM l/\(l.length:Int)<=cM l
 |[],_,_=>⟨trivial,by simp[cy,cM],by simp[cM]⟩
 |x::t,h,b=>by
  unfold Bk at h;unfold cM at b;have i:=eU x;have j:=lB t;obtain⟨a,d⟩:=Tz x h.1 (by omega)
  obtain⟨c,f,g⟩:=Nx t h.2 (by omega)
  unfold Uf cy cM;exact⟨⟨a,c⟩,by omega,by simp;omega⟩
end
def Lr(h:xi u=true):og u:=by
 unfold xi at h;cases h1:(bif(bif decide ((u.aF.length:Int)>12)then true else decide ((u.aB.length:Int)>8))then true else decide ((u.main.length:Int)>8))<;>rw[h1]at h
 .obtain⟨v,j⟩:=Bp h1
  obtain⟨k,n⟩:=Bp v;have j:=pw j;have k:=pw k;have n:=pw n;have o:∀e:Ex,qQ e=true->rT e/\bL e<=300:=fun e c=>by
   obtain⟨g,i⟩:=yM c;obtain⟨a,q⟩:=Tz e i g;exact⟨a,by omega⟩
  cases h6 : !u.aF.all Bo<;>rw[h6]at h
  .cases h7 : !u.main.all iQ<;>rw[h7]at h
   .simp only[af]at h
    obtain⟨m,w⟩:=uH.1 h;refine⟨by omega,fun d z=>?_,by omega,fun p D=>?_,by omega,fun s f=>by have:=s9 (by simpa using h7) s f;omega⟩
    .obtain⟨y,J⟩:=cn (b:=qQ d.ex) (bf.1 (show u.aF.all Bo=true by simpa using h6) d z)
     have X:=s9 (l:=[d.name]) (by simp[J]) d.name (by simp)
     exact⟨by omega,(o _ y).1⟩
    .obtain⟨g,i,_,_,a⟩:=Dw _ _ _ w p D
     refine⟨by omega,by omega,fun x G=>?_⟩
     obtain⟨q,K,_,_,t⟩:=Dv _ _ _ a x G;refine⟨by omega,by omega,fun r E=>?_⟩
     obtain⟨M,Q,T,H,I⟩:=Du _ _ _ t r E;exact⟨by omega,by omega,fun s f=>by have:=H s f;omega,by omega,fun e c=>by have:=o e (I e c);exact⟨this.1,by omega⟩⟩
   .simp at h
  .simp at h
 .simp at h
mutual
def ts:Ex->Int|.mk k _ _ _ l=>uk l (bif k==5 then 1 else 0)
def uk:List Ex->Int->Int|[],n=>n|x::t,n=>uk t (n+ts x)
end
mutual
theorem I2:∀e,0<=ts e/\ts e<=dB e
 |.mk k _ _ _ l=>by
  have a:=xj l 1;have b:=xj l 0;simp only[ts,dB];cases k==5<;>simp only[ai,af]<;>omega
theorem xj:∀l n,n<=uk l n/\uk l n<=n+cM l
 |[],n=>⟨eA n,by simp[uk,cM]⟩
 |x::t,n=>by
  have a:=I2 x;have c:=xj t (n+ts x);simp only[uk,cM];omega
end
def Bq:∀{l:List Ex}{x:Ex},x∈l->dB x<=cM l
 |y::l,x,h=>by
  have:=lB l;have:=eU y;rcases aY.1 h with rfl|h
  .simp only[cM];omega
  .have:=Bq h;simp only[cM];omega
def C64:∀(m:Nat)(e:Ex),bL e<=m->dB e<=300->rT e->ak 64 [oC e] [] [vN (ts e)] []
 |0,e,h,_,_=>by rw[cO]at h;omega
 |m+1,e,h,f,p=>by
  have w:=((kE e).1 p).2.2;obtain⟨k,o,n,v,l⟩:=e;obtain⟨hlen,c⟩:=w;have hlen:l.length<=2^40:=hlen;have c:Uf l:=c;have h:cy l+1<=m+1:=h;have f:cM l+1<=300:=f;have key:∀(t:List Ex)(i:Nat)(q:Int),l.drop i=t->0<=q->q+cM t<=300->IX q i k o n v (bt l) [vN (uk t q)] []:=by
   intro t;induction t with
   |nil=>intro i q a _ _;apply XI;rw[et];exact aQ (l:=l) rfl a fi
   |cons x t u=>
    intro i q a y j;obtain⟨g,s,r⟩:=bM a;have d:=aK g;have D:=ek x d;have G:=Bq d;have z:=I2 x;have E:=lB t;simp only[cM]at j;apply XI;rw[et];exact aL (l:=l) rfl a ⟨_,_,_,_,_,by omega,eT g,_,C64 m x (by omega) (by omega) (dZ c x d),au,au,u (i+1) _ s (by omega) (by omega)⟩
  apply W64;refine ad (fun b=>?_) fun b=>?_
  .have:=key l 0 1 rfl (by omega) (by omega)
   rw[ts,show(k==5)=true from b];exact this
  .have:=key l 0 0 rfl (by omega) (by omega)
   rw[ts,show(k==5)=false from b];exact this
def oJ:List cQ->Int->Int
 |[],n=>n
 |p::t,n=>bif !(p.use==[])then oJ t (n+1)else oJ t n
def sq:List cW->Int->Int
 |[],b=>b
 |p::t,b=>bif decide (oJ p.aT 0>b)then sq t (oJ p.aT 0)else sq t b
def C65(l:List cW)(z:l.length<=2^40)(w:∀p∈l,p.aT.length<=2^40):ak 65 [vL 2 (l.map cW.row)] [] [vN (sq l 0)] []:=by
 have o:(l.map cW.row).length=l.length:=al ..;have key:∀(t:List cW)(i:Nat)(b:Int),l.drop i=t->IY (l.map cW.row) b i [vN (sq t b)] []:=by
  intro t;induction t with
  |nil=>intro i b a;apply XJ;rw[o];exact aQ (l:=l) rfl a fi
  |cons p t k=>
   intro i b a;obtain⟨f,g,r⟩:=bM a;have E:=w p (aK f);have d:(l.map cW.row)[toNat (i:Int)]?=some [S p.name,L 4 (p.aT.map cQ.row)]:=aP f;have s:(p.aT.map cQ.row).length=p.aT.length:=al ..;have inner:∀(v:List cQ)(j:Nat)(n:Int),p.aT.drop j=v->0<=n->n<=j->IZ (l.map cW.row) b i n j [vN (bif decide (oJ v n>b)then sq t (oJ v n)else sq t b)] []:=by
    intro v;induction v with
    |nil=>
     intro j n c e u;apply XK;refine⟨_,_,by omega,d,?_⟩
     simp only[s];refine aQ (l:=p.aT) rfl c (ad (fun h=>⟨au,?_⟩) fun h=>⟨au,?_⟩)
     .rw[oJ,h];exact k (i+1) n g
     .rw[oJ,h];exact k (i+1) b g
    |cons x v q=>
     intro j n c e u;obtain⟨y,m,D⟩:=bM c;apply XK;refine⟨_,_,by omega,d,?_⟩
     simp only[s];refine aL (l:=p.aT) rfl c ⟨_,_,by omega,d,_,_,_,_,by omega,aP y,ad (fun h=>⟨au,au,?_⟩) fun h=>⟨au,?_⟩⟩
     .rw[oJ,show(!(x.use==[]))=true from h];exact q (j+1) (n+1) m (by omega) (by omega)
     .rw[oJ,show(!(x.use==[]))=false from h];exact q (j+1) n m e (by omega)
   apply XJ;rw[o];exact aL (l:=l) rfl a (inner p.aT 0 0 rfl (by omega) (by omega))
 apply W65;exact key l 0 0 rfl
def acp(u:fT):Bool:=bif u.aF.all (fun d => !decide (ts d.ex>3))then decide (sq u.aB 0<=3)else false
def C39(u:fT)(h:og u)(j:∀d∈u.aF,dB d.ex<=300):ak 39 [qm u] [] [vB (acp u)] []:=by
 have ld:(u.aF.map cZ.row).length=u.aF.length:=al ..;have q:=h.dl;have key:∀(t:List cZ)(i:Nat),u.aF.drop i=t->Nw i (u.aF.map cZ.row) (u.aB.map cW.row) (aJ u.main) u.ch.kind u.ch.data [vB (bif t.all (fun d => !decide (ts d.ex>3))then decide (sq u.aB 0<=3)else false)] []:=by
  intro t;induction t with
  |nil=>intro i a;apply XH;rw[ld];exact aQ (l:=u.aF) rfl a ⟨_,C65 u.aB h.pl (fun p k=>(h.aB p k).pl),fi⟩
  |cons d t m=>
   intro i a;obtain⟨c,f,o⟩:=bM a;have e:=aK c;have g:=h.aF d e;have n:(u.aF.map cZ.row)[toNat (i:Int)]?=some [S d.name,N d.ex.kind,S d.ex.op,S d.ex.name,U d.ex.num,L 5 (bt d.ex.kids)]:=(aP c).trans (by rw[cZ.row,Ex.cu])
   apply XH;rw[ld];refine aL (l:=u.aF) rfl a ⟨_,_,_,_,_,_,by omega,n,_,C64 _ d.ex (ar _) (j d e) g.2,ad (fun b=>aZ ?_) fun b=>⟨au,?_⟩⟩
   .rw[bJ,b];rfl
   .rw[bJ,b];exact m (i+1) f
 apply W39;exact key u.aF 0 rfl
def TA(h:xi u=true):∀d∈u.aF,dB d.ex<=300:=by
 unfold xi at h;cases h1:(bif(bif decide ((u.aF.length:Int)>12)then true else decide ((u.aB.length:Int)>8))then true else decide ((u.main.length:Int)>8))<;>rw[h1]at h
 .cases h2 : !u.aF.all Bo<;>rw[h2]at h
  .intro d a
   have:=bf.1 (show u.aF.all Bo=true by simpa using h2) d a
   exact(yM (cn (b:=qQ d.ex) this).1).1
  .simp at h
 .simp at h
def O6(u:fT):Bool:=bif xi u then acp u else false
def C21(u:fT)(h:I1 u):ak 21 [qm u] [] [vB (O6 u)] []:=by
 apply W21;exact⟨_,C38 u h,ad (fun a=>⟨_,C39 u (Lr a) (TA a),aZ (by rw[O6,a];rfl)⟩) fun a=>aZ (by rw[O6,a];rfl)⟩
def C13(a:Act):ak 13 [zX a] [] [vW (cg a).1,vB (cg a).2] []:=by
 obtain⟨k,d⟩:=a;have j:∀(n:Int)(b:Bool),fX k=(n,true)->(bif(bif(k==3)then true else(k==4))then true else(k==5))=b->qv n b k d [vW (cg ⟨k,d⟩).1,vB (cg ⟨k,d⟩).2] []:=by
  intro n b c y;have z:cg ⟨k,d⟩=bif(bif decide (d<0)then true else decide (d>(bif b then 65535 else 0)))then(0,false)else(wrap .u32 (n+wrap .u32 d),true):=by
   unfold cg;rw[c,y];rfl
  have x:(bif(bif b then(bif(decide (d<0))then true else(decide (d>65535)))else false)then true else(bif(!b)then(d !=0)else false))=(bif decide (d<0)then true else decide (d>(bif b then 65535 else 0))):=by
   cases b
   .simp only[af,km,ai]
    cases h:decide (d<0)
    .have:=bI h
     simp only[af];rw[Bool.eq_iff_iff,bne_iff_ne,decide_eq_true_iff];omega
    .have:=aU h
     simp only[ai];rw[bne_iff_ne];omega
   .simp only[ai,eB,af]
    cases(bif decide (d<0)then true else decide (d>65535))<;>rfl
  apply Zv;rw[z,x];exact ad (fun h=>aZ (by rw[h];rfl)) fun h=>aZ (by rw[h];rfl)
 apply W13;refine ad (fun h=>j _ _ ?_ ?_) fun p=>ad (fun h=>j _ _ ?_ ?_) fun q=>ad (fun h=>j _ _ ?_ ?_) fun s=>ad (fun h=>j _ _ ?_ ?_) fun t=>ad (fun h=>j _ _ ?_ ?_) fun u=>ad (fun h=>j _ _ ?_ ?_) fun v=>ad (fun h=>j _ _ ?_ ?_) fun w=>bE ?_ ?_
 all_goals first
  |rfl
  |(obtain rfl:=bZ h;rfl)
  |skip
 have e:(k==1)=false:=p;have f:(k==2)=false:=q;have g:(k==3)=false:=s;have i:(k==4)=false:=t;have l:(k==5)=false:=u;have m:(k==6)=false:=v;have o:(k==7)=false:=w;have c:fX k=(0,false):=by unfold fX;rw[e,f,g,i,l,m,o];rfl
 unfold cg;rw[show fX (Act.mk k d).kind=(0,false)from c];rfl
def C42(p:cQ)(h:xD p):ak 42 [OH p] [] [vB (kW p)] []:=by
 have o:(p.bk.map gP.row).length=p.bk.length:=al ..;have J:=h.rl;have key:∀(t:List gP)(i:Nat)(v:Bool),p.bk.drop i=t->qK v i p.use p.act.kind p.act.data (p.bk.map gP.row) [vB (bif v then t.all lX else false)] []:=by
  intro t;induction t with
  |nil=>
   intro i v n;have:=lj n;apply Xn;rw[o];exact aw (by rw[bB (by omega)];rfl) (aZ (by cases v<;>rfl))
  |cons r t E=>
   intro i v n;obtain⟨q,z,I⟩:=bM n;have j:=h.bk r (aK q);apply Xn;rw[o];refine ad (fun a=>?_) fun a=>aZ ?_
   .have a:v=true:=by rw[bw (by omega)]at a;exact a
    subst a;have G:(r.cond.map Ex.row).length=r.cond.length:=al ..;have d:∀b,lX r=b->aq ((i:Int)+1)/\qK b ((i:Int)+1) p.use p.act.kind p.act.data (p.bk.map gP.row) [vB (bif true then(r::t).all lX else false)] []:=fun b f=>⟨au,by
     rw[bJ,f];have:=E (i+1) b z;cases b<;>exact this⟩
    refine⟨_,_,_,by omega,aP q,_,Zy r.call j.call,ad (fun c=>⟨_,C43 r.params (by have:=j.pl;omega) j.params,?_⟩) fun c=>aw rfl (d false (by rw[lX,c];rfl))⟩
    rw[G];refine ad (fun g=>?_) fun g=>d false ?_
    .obtain⟨H,x⟩:=cn (b:=r.params.all bQ) g
     have x:=aU x;have y:lX r=r.cond.all xE:=by
      rw[lX,c,H,bB (by omega)];rfl
     refine ad (fun l=>d true ?_) fun l=>?_
     .have D:r.cond=[]:=ir.1 (by have:=bZ l;omega)
      rw[y,D];rfl
     .obtain⟨e,m⟩:∃e,r.cond=[e]:=List.length_eq_one_iff.1 (by have:=gV l;omega)
      have w:=j.cond e (by rw[m];simp)
      have s:(r.cond.map Ex.row)[toNat 0]?=some [N e.kind,S e.op,S e.name,U e.num,L 5 (bt e.kids)]:=by rw[m,<-Ex.cu];rfl
      have u:lX r=xE e:=by rw[y,m];simp
      refine⟨_,_,_,_,_,by omega,s,_,C70 _ e (ar _) w.1,ad (fun f=>⟨_,_,_,_,_,by omega,s,_,C71 _ e (ar _) (by omega) (vu e w.1),d _ ?_⟩) fun f=>d false ?_⟩
      .rw[u,xE,f];rfl
      .rw[u,xE,f];rfl
    .rw[lX,c]
     cases hq:r.params.all bQ
     .rfl
     .rw[hq]at g
      have:=bI g;rw[bw (by omega)];rfl
   .have a:v=false:=by rw[bw (by omega)]at a;exact a
    subst a;rfl
 apply W42;rw[o];refine ad (fun k=>⟨_,Zy p.use h.use,ad (fun c=>aZ (by rw[kW,k,c];rfl)) fun c=>aZ (by rw[kW,k,c];rfl)⟩) fun k=>⟨_,_,C13 p.act,?_⟩
 have:=key p.bk 0 (cg p.act).2 rfl;have e:kW p=bif(cg p.act).2 then p.bk.all lX else false:=by rw[kW,k];rfl
 rw[e];exact this
def Z3(u:fT)(h:og u):ak 22 [qm u] [] [vB (jm u)] []:=by
 have ld:(u.aF.map cZ.row).length=u.aF.length:=al ..;have z:(u.aB.map cW.row).length=u.aB.length:=al ..;have J:(aJ u.main).length=u.main.length:=al ..;have T:=h.dl;have X:=h.pl;have K:=h.ml;have I:∀(t:List cW)(i:Nat),u.aB.drop i=t->M0 i (u.aF.map cZ.row) (u.aB.map cW.row) (aJ u.main) u.ch.kind u.ch.data [vB (bif(bif t.all wR then decide ((u.main.length:Int)>0)else false)then(bif u.main.all bQ then(cg u.ch).2 else false)else false)] []:=by
  intro t;induction t with
  |nil=>
   intro i c;apply Xc;rw[z,J];refine aQ (l:=u.aB) rfl c ⟨_,_,C13 u.ch,ad (fun k=>?_) fun k=>aZ ?_⟩
   .obtain⟨q,E⟩:=cn (b:=(cg u.ch).2) k
    refine⟨_,C43 u.main K h.main,aZ ?_⟩;rw[mU,E,q];cases u.main.all bQ<;>rfl
   .rw[mU]
    cases q:(cg u.ch).2
    .cases decide ((u.main.length:Int)>0)<;>cases u.main.all bQ<;>rfl
    .rw[q]at k
     rw[show decide ((u.main.length:Int)>0)=false from k];rfl
  |cons p t s=>
   intro i c;obtain⟨g,n,D⟩:=bM c;have o:=h.aB p (aK g);have Y:=o.pl;have f:(u.aB.map cW.row)[toNat (i:Int)]?=some [S p.name,L 4 (p.aT.map cQ.row)]:=aP g;apply Xc;rw[z];refine aL (l:=u.aB) rfl c ⟨_,_,by omega,f,_,Zy p.name o.name,ad (fun a=>aZ ?_) fun a=>?_⟩
   .rw[bJ,wR,show bQ p.name=false by simpa using a];rfl
   .have a:bQ p.name=true:=by simpa using a
    have r:(p.aT.map cQ.row).length=p.aT.length:=al ..;have inner:∀(v:List cQ)(j:Nat),p.aT.drop j=v->M1 i j (u.aF.map cZ.row) (u.aB.map cW.row) (aJ u.main) u.ch.kind u.ch.data [vB (bif(bif(v.all kW&&t.all wR)then decide ((u.main.length:Int)>0)else false)then(bif u.main.all bQ then(cg u.ch).2 else false)else false)] []:=by
     intro v;induction v with
     |nil=>
      intro j m;apply Xd;refine⟨_,_,by omega,f,?_⟩
      simp only[r];exact aQ (l:=p.aT) rfl m ⟨au,s (i+1) n⟩
     |cons x v M=>
      intro j m;obtain⟨y,G,Q⟩:=bM m;apply Xd;refine⟨_,_,by omega,f,?_⟩
      simp only[r];refine aL (l:=p.aT) rfl m ⟨_,_,by omega,f,_,_,_,_,by omega,aP y,_,C42 x (o.aT x (aK y)),ad (fun e=>aZ ?_) fun e=>⟨au,?_⟩⟩
      .rw[bJ,show kW x=false by simpa using e];rfl
      .rw[bJ,show kW x=true by simpa using e]
       exact M (j+1) G
    rw[bJ,wR,a];exact inner p.aT 0 rfl
 have H:∀(t:List cZ)(i:Nat),u.aF.drop i=t->MZ i (u.aF.map cZ.row) (u.aB.map cW.row) (aJ u.main) u.ch.kind u.ch.data [vB (bif t.all Ag then(bif(bif u.aB.all wR then decide ((u.main.length:Int)>0)else false)then(bif u.main.all bQ then(cg u.ch).2 else false)else false)else false)] []:=by
  intro t;induction t with
  |nil=>
   intro i c;apply Xb;rw[ld];exact aQ (l:=u.aF) rfl c (I u.aB 0 rfl)
  |cons d t s=>
   intro i c;obtain⟨g,n,D⟩:=bM c;have w:=h.aF d (aK g);have f:(u.aF.map cZ.row)[toNat (i:Int)]?=some [S d.name,N d.ex.kind,S d.ex.op,S d.ex.name,U d.ex.num,L 5 (bt d.ex.kids)]:=(aP g).trans (by rw[cZ.row,Ex.cu])
   apply Xb;rw[ld];refine aL (l:=u.aF) rfl c ⟨_,_,_,_,_,_,by omega,f,_,Zy d.name w.1,ad (fun a=>aZ ?_) fun a=>⟨_,_,_,_,_,_,by omega,f,_,C41 _ d.ex (ar _) w.2,ad (fun e=>aZ ?_) fun e=>⟨au,?_⟩⟩⟩
   .rw[bJ,Ag,show bQ d.name=false by simpa using a];rfl
   .rw[bJ,Ag,show bQ d.name=true by simpa using a,show gB d.ex=false by simpa using e];rfl
   .rw[bJ,Ag,show bQ d.name=true by simpa using a,show gB d.ex=true by simpa using e]
    exact s (i+1) n
 apply W22;exact H u.aF 0 rfl
def Zz(a:By):ak 15 [vS a] [] [vW (dh a).1,vB (dh a).2] []:=by
 apply W15;exact ad (fun h=>aZ (by rw[dh,h];rfl)) fun b=>ad (fun h=>aZ (by rw[dh,b,h];rfl)) fun c=>ad (fun h=>aZ (by rw[dh,b,c,h];rfl)) fun h=>aZ (by rw[dh,b,c,h];rfl)
structure Br where
 name:By
 params:List By
 amd:Int
 x86:Int
 arm:Int
def Br.row(r:Br):List PV:=[S r.name,L 1 (aJ r.params),N r.amd,N r.x86,N r.arm]
def jc:List Br:=lY.map fun r=>⟨r.name,jC r.params,r.n2,r.n1,r.n0⟩
def C20:ak 20 [] [] [vL 5 (jc.map Br.row)] []:=W20 (aZ rfl)
def Ny(ao:By)(r:Br):Int:=bif ao==[97,97,114,99,104,54,52]then r.arm else bif ao==[105,51,56,54]then r.x86 else bif ao==[120,56,54,95,54,52]then r.amd else -1
def lK(ao:By):List Br->List Cl
 |[]=>[]
 |r::t=>bif decide (Ny ao r>=0)then⟨r.name,wrap .u32 (Ny ao r),r.params⟩::lK ao t else lK ao t
def mj(ao:By):List Cl:=lK ao jc
def xU(ao:By):∀l,(lK ao l).length<=l.length
 |[]=>ar _
 |r::t=>by
  have:=xU ao t;unfold lK;cases decide (Ny ao r>=0)<;>simp only[ai,af,aD]<;>omega
def C7(ao:By):ak 7 [vS ao] [] [vL 3 ((mj ao).map Cl.row)] []:=by
 have g:(jc.map Br.row).length=jc.length:=al ..;have p:jc.length=17:=by decide
 have key:∀(t:List Br)(i:Nat)(a:List Cl),jc.drop i=t->a.length<=i->Tu ao (a.map Cl.row) (jc.map Br.row) i [.own 0 0 3 ((a++lK ao t).map Cl.row)] []:=by
  intro t;induction t with
  |nil=>intro i a c _;apply ack;rw[g];exact aQ (l:=jc) rfl c (aZ (by simp[lK]))
  |cons r t f=>
   intro i a c o;obtain⟨m,e,n⟩:=bM c;have b:(jc.map Br.row)[toNat (i:Int)]?=some [S r.name,L 1 (aJ r.params),N r.amd,N r.x86,N r.arm]:=aP m;have j:Dr ao (a.map Cl.row) (jc.map Br.row) i (Ny ao r) [.own 0 0 3 ((a++lK ao (r::t)).map Cl.row)] []:=by
    apply acm;refine ad (fun h=>⟨_,_,_,_,_,by omega,b,_,_,_,_,_,by omega,b,by simp;omega,au,?_⟩) fun h=>⟨au,?_⟩
    .have:=f (i+1) (a++[⟨r.name,wrap .u32 (Ny ao r),r.params⟩]) e (by simp;omega)
     rw[lK,h,ai];rw[bq]at this;rw[bN (l₁:=a) (l₂:=[(⟨r.name,wrap .u32 (Ny ao r),r.params⟩:Cl)])]at this;exact this
    .rw[lK,h,af]
     exact f (i+1) a e (by omega)
   apply ack;rw[g];refine aL (l:=jc) rfl c (ad (fun h=>⟨_,_,_,_,_,by omega,b,?_⟩) fun d=>ad (fun h=>⟨_,_,_,_,_,by omega,b,?_⟩) fun k=>ad (fun h=>⟨_,_,_,_,_,by omega,b,?_⟩) fun h=>?_)
   .rw[show Ny ao r=r.arm by rw[Ny,h];rfl]at j;exact j
   .rw[show Ny ao r=r.x86 by rw[Ny,d,h];rfl]at j;exact j
   .rw[show Ny ao r=r.amd by rw[Ny,d,k,h];rfl]at j;exact j
   .rw[show Ny ao r = -1 by rw[Ny,d,k,h];rfl]at j;exact j
 have w:ak 7 [vS ao] [] [.own 0 0 3 ((mj ao).map Cl.row)] []:=by
  apply W7;exact⟨_,C20,key jc 0 [] rfl (by simp)⟩
 exact Go.Ac.ak.soft w rfl
def I3(ao name:By):Option Cl:=(mj ao).find? fun c=>c.name==name
def C9(ao name:By):ak 9 [vS ao,vS name] [] [clA ((I3 ao name).getD ⟨[],0,[]⟩),vB (I3 ao name).isSome] []:=by
 have d:((mj ao).map Cl.row).length=(mj ao).length:=al ..;have j:(mj ao).length<=17:=dX (xU ao jc) (by decide)
 have key:∀(t:List Cl)(i:Nat),(mj ao).drop i=t->Vz name ((mj ao).map Cl.row) i [] 0 [] [clA ((t.find? fun c=>c.name==name).getD ⟨[],0,[]⟩),vB (t.find? fun c=>c.name==name).isSome] []:=by
  intro t;induction t with
  |nil=>intro i a;apply acn;rw[d];exact aQ (l:=mj ao) rfl a fi
  |cons c t f=>
   intro i a;obtain⟨b,e,g⟩:=bM a;apply acn;rw[d];refine aL (l:=mj ao) rfl a ⟨_,_,_,by omega,aP b,ad (fun h=>⟨_,_,_,by omega,aP b,aZ (by rw[cp,show(c.name==name)=true from h];rfl)⟩) fun h=>⟨au,by rw[cp,show(c.name==name)=false from h];exact f (i+1) e⟩⟩
 apply W9;exact⟨_,C7 ao,key (mj ao) 0 rfl⟩
def ai4(h:0<=y)(b:y<18446744073709551616):wrap .u8 (cf .and .u64 y 255)=wrap .u8 y:=by
 obtain⟨Y,rfl⟩:=iT h;have a:∀n:Int,wrap .u8 n=n%256:=fun n=>by simp[wrap,IntKind.signed,IntKind.bits]
 have e:cf .and .u64 (Y:Int) 255=((Y%256:Nat):Int):=by
  show wrap .u64 ((BitVec.ofInt 64 (Y:Int) &&& BitVec.ofInt 64 ((255:Nat):Int)).toNat:Int)=_
  rw[BitVec.toNat_and,yi,yi,yc,yc,mZ (by omega),mZ (by decide)]
  rw[show Y &&& 255=Y%2^8 from Nat.and_two_pow_sub_one_eq_mod Y 8,kJ (by omega) (by omega)]
 rw[e,a,a];omega
def C37(b:List Int)(n:Int)(k:Nat)(c:0<=n/\n<18446744073709551616)(o:k<=8)(l:b.length<=2^40):ak 37 [.own 0 0 1 (gj b),vU n,vN k] [] [.own 0 0 1 (gj (b++gG n k 0))] []:=by
 have key:∀(m i:Nat)(a:List Int),i+m=k->a.length<=2^40+i->Nl (gj a) n k i [.own 0 0 1 (gj (a++gG n m i))] []:=by
  intro m;induction m with
  |zero=>intro i a e _;apply Xy;exact aw (bB (by omega)) (aZ (by simp[gG]))
  |succ m j=>
   intro i a e p;have g:toNat (wrap .u64 ((8:Int)*i))=toNat ((8:Int)*i):=by rw[kJ (by omega) (by omega)]
   have f:0<=fdiv n (2^(min (toNat ((8:Int)*i)) (IntKind.bits .u64)))/\fdiv n (2^(min (toNat ((8:Int)*i)) (IntKind.bits .u64)))<=n:=by
    have d:(0:Int)<2^(min (toNat ((8:Int)*i)) (IntKind.bits .u64)):=oL (by decide)
    rw[yu _ (jo d)];exact⟨Int.ediv_nonneg c.1 (jo d),Int.ediv_le_self _ c.1⟩
   apply Xy;rw[g,ai4 f.1 (by omega)]
   refine bj (bw (by omega)) ⟨au,by rw[kJ (by omega) (by omega)];omega,by simp[gj];omega,au,?_⟩
   have:=j (i+1) (a++[j9 n i]) (by omega) (by simp;omega)
   rw[bq]at this;rw[<-vK]at this;exact this
 apply W37;exact key k 0 b (by omega) (by omega)
def C19(d:Da)(h:C4 d):ak 19 [Li d] [] [vL 1 (gj (l6 d))] []:=by
 have w:ak 19 [Li d] [] [.own 0 0 1 (gj (l6 d))] []:=by
  apply W19;rw[kJ h.nr.1 (by have:=h.nr.2;omega),kJ h.ao.1 (by have:=h.ao.2;omega)]
  refine⟨_,C37 [] d.nr 4 ⟨h.nr.1,by have:=h.nr.2;omega⟩ (by decide) (by simp),_,C37 _ d.ao 4 ⟨h.ao.1,by have:=h.ao.2;omega⟩ (by decide) (by simp[dT]),_,C37 _ d.ip 8 h.ip (by decide) (by simp[dT]),?_⟩
  have a:∀(i:Nat)(b:List Int)(x:Int){r:List AV}{c:List Bx},i<6->b.length<=100->0<=x/\x<18446744073709551616->([vW d.nr,vW d.ao,vU d.ip,vU d.a0,vU d.a1,vU d.a2,vU d.a3,vU d.a4,vU d.a5]:List AV)[3+i*1+0]?=some (.v (U x))->IV (gj (b++gG x 8 0)) ((i:Int)+1) d.nr d.ao d.ip d.a0 d.a1 d.a2 d.a3 d.a4 d.a5 r c ->
    IV (gj b) i d.nr d.ao d.ip d.a0 d.a1 d.a2 d.a3 d.a4 d.a5 r c:=by
   intro i b x r c g j f e K;apply Xx;exact bj (bw (by omega)) ⟨⟨by omega,by omega⟩,x,e,_,C37 b x 8 f (by decide) (by omega),au,K⟩
  refine a 0 _ d.a0 (by decide) (by simp[dT]) h.a0 rfl (a 1 _ d.a1 (by decide) (by simp[dT]) h.a1 rfl (a 2 _ d.a2 (by decide) (by simp[dT]) h.a2 rfl (a 3 _ d.a3 (by decide) (by simp[dT]) h.a3 rfl (a 4 _ d.a4 (by decide) (by simp[dT]) h.a4 rfl (a 5 _ d.a5 (by decide) (by simp[dT]) h.a5 rfl ?_)))))
  apply Xx;exact aw rfl fi
 exact Go.Ac.ak.soft w rfl
section
set_option maxRecDepth 10000
def Ls(n:Int):UInt8:=UInt8.ofNat (48+n.toNat)
def px:Nat->Int->By
 |0,n=>[Ls (n%10)]
 |k+1,n=>bif decide (n>9)then px k (n/10)++[Ls (n%10)]else[Ls (n%10)]
def py(n:Int):By:=px 20 n
def Bt:∀k n,(px k n).length<=k+1
 |0,n=>by simp[px]
 |k+1,n=>by
  have:=Bt k (n/10);unfold px;cases decide (n>9)<;>simp<;>omega
def O7(a:0<=d)(h:d<10):drop (toNat d) (take (toNat (d+1)) ([48,49,50,51,52,53,54,55,56,57]:By))=[Ls d]:=by
 have:d=0\/d=1\/d=2\/d=3\/d=4\/d=5\/d=6\/d=7\/d=8\/d=9:=by omega
 rcases this with rfl|rfl|rfl|rfl|rfl|rfl|rfl|rfl|rfl|rfl<;>rfl
def acq:∀(k:Nat)(n:Int),k<=100->0<=n->n<10^(k+1)->n<18446744073709551616->ak 72 [vU n] [] [vS (px k n)] []
 |k,n,g,a,b,f=>by
  have d:tmod n 10=n%10:=pB a;have c:tdiv n 10=n/10:=yv a;apply W72;rw[d,c,kJ (n:=n%10+1) (by omega) (by omega),kJ (n:=n/10) (by omega) (by omega),O7 (by omega) (by omega)]
  refine⟨by decide,by decide,⟨by omega,by omega,by show n%10+1<=((10:Nat):Int);omega⟩,?_⟩
  match k with
  |0=>
   have:n<10:=b;exact aw (bB (by omega)) (aZ rfl)
  |k+1=>
   have e:n/10<10^(k+1):=by
    rw[Int.pow_succ]at b;omega
   refine ad (fun h=>⟨by decide,_,acq k (n/10) (by omega) (by omega) e (by omega),?_,aZ (by rw[px,h];rfl)⟩) fun h=>aZ (by rw[px,h];rfl)
   have:=Bt k (n/10);simp;omega
def C72(n:Int)(h:0<=n/\n<18446744073709551616):ak 72 [vU n] [] [vS (py n)] []:=acq 20 n (by decide) h.1 (by have:(10:Int)^(20+1)=1000000000000000000000:=rfl;omega) h.2
def Bu(n:Int):(py n).length<=21:=Bt 20 n
inductive G:Ex->Prop
 |num (m:Int):0<=m/\m<18446744073709551616->G (.mk 7 [] [] m [])
 |name (n:By):G (.mk 5 [] n 0 [])
 |mask (n:By) {x:Ex}:G x->G (.mk 6 [] n 0 [x])
 |bits {x y:Ex}:G x->G y->G (.mk 8 [] [] 0 [x,y])
 |or {x y:Ex}:G x->G y->G (.mk 1 [] [] 0 [x,y])
 |and {x y:Ex}:G x->G y->G (.mk 2 [] [] 0 [x,y])
 |not {x:Ex}:G x->G (.mk 3 [] [] 0 [x])
 |cmp (o:By) {x y:Ex}:G x->G y->G (.mk 4 o [] 0 [x,y])
def cU:Ex->By
 |.mk k o _ _ [x,y]=>bif k==1 then[40]++cU x++[32,124,124,32]++cU y++[41]else bif k==2 then[40]++cU x++[32,38,38,32]++cU y++[41]else
  bif k==4 then cU x++[32]++o++[32]++cU y else cU x++[32,124,32]++cU y
 |.mk k _ n _ [x]=>bif k==3 then[33]++cU x else n++[32,38,32]++cU x
 |.mk k _ n m _=>bif k==7 then py m else n
def dO(g:G e):oI e->((cU e).length:Int)<=100*dB e:=by
 induction g with
 |num m h=>intro _;have:=Bu m;show((py m).length:Int)<=100*(cM []+1);simp only[cM];omega
 |name n=>intro h;have:n.length<=60:=h.2.1;show(n.length:Int)<=100*(cM []+1);simp only[cM];omega
 |mask n _ c=>
  intro h;have:=h.2.1;have:=c h.2.2.1;simp only[cU,dB,cM];simp;omega
 |bits _ _ a b|or _ _ a b|and _ _ a b=>
  intro h;have:=a h.2.2.1;have:=b h.2.2.2.1;simp only[cU,dB,cM];simp;omega
 |not _ c=>
  intro h;have:=c h.2.2.1;simp only[cU,dB,cM];simp;omega
 |cmp o _ _ a b=>
  intro h;have:=h.1;have:=a h.2.2.1;have:=b h.2.2.2.1;simp only[cU,dB,cM];simp;omega
def C44(g:G e):oI e->dB e<=10000->ak 44 [oC e] [] [vS (cU e)] []:=by
 induction g with
 |num m h=>
  intro _ _;apply Xp;exact aw rfl (aw rfl (aw rfl (aw rfl (aw rfl (aw rfl (bj rfl ⟨_,C72 m h,aZ rfl⟩))))))
 |name n=>
  intro _ _;apply Xp;exact aw rfl (aw rfl (aw rfl (aw rfl (aw rfl (aw rfl (aw rfl (aZ rfl)))))))
 |mask n g q=>
  intro h a;have v:=dO g h.2.2.1;have:=h.2.1;simp only[dB,cM]at a;have c:=q h.2.2.1 (by omega)
  apply Xp;exact aw rfl (aw rfl (aw rfl (aw rfl (bj rfl ⟨by simp[Ex.name];omega,_,_,_,_,_,by omega,eT (i:=0) rfl,_,c,by simp[Ex.name];omega,aZ rfl⟩))))
 |@bits x y f j k l=>
  intro h a;have p:=dO f h.2.2.1;have s:=dO j h.2.2.2.1;have t:=eU x;have u:=eU y;simp only[dB,cM]at a;have b:=k h.2.2.1 (by omega)
  have d:=l h.2.2.2.1 (by omega)
  apply Xp;exact aw rfl (aw rfl (aw rfl (aw rfl (aw rfl (bj rfl ⟨_,_,_,_,_,by omega,eT (i:=0) rfl,_,b,by simp;omega,_,_,_,_,_,by omega,eT (i:=1) rfl,_,d,by simp;omega,aZ rfl⟩)))))
 |@or x y f j k l=>
  intro h a;have p:=dO f h.2.2.1;have s:=dO j h.2.2.2.1;have t:=eU x;have u:=eU y;simp only[dB,cM]at a;have b:=k h.2.2.1 (by omega)
  have d:=l h.2.2.2.1 (by omega)
  apply Xp;exact bj rfl ⟨_,_,_,_,_,by omega,eT (i:=0) rfl,_,b,by simp;omega,by simp;omega,_,_,_,_,_,by omega,eT (i:=1) rfl,_,d,by simp;omega,by simp;omega,aZ rfl⟩
 |@and x y f j k l=>
  intro h a;have p:=dO f h.2.2.1;have s:=dO j h.2.2.2.1;have t:=eU x;have u:=eU y;simp only[dB,cM]at a;have b:=k h.2.2.1 (by omega)
  have d:=l h.2.2.2.1 (by omega)
  apply Xp;exact aw rfl (bj rfl ⟨_,_,_,_,_,by omega,eT (i:=0) rfl,_,b,by simp;omega,by simp;omega,_,_,_,_,_,by omega,eT (i:=1) rfl,_,d,by simp;omega,by simp;omega,aZ rfl⟩)
 |@not x g q=>
  intro h a;have p:=dO g h.2.2.1;simp only[dB,cM]at a;have b:=q h.2.2.1 (by omega)
  apply Xp;exact aw rfl (aw rfl (bj rfl ⟨_,_,_,_,_,by omega,eT (i:=0) rfl,_,b,by simp;omega,aZ rfl⟩))
 |@cmp o x y f j k l=>
  intro h a;have w:=h.1;have p:=dO f h.2.2.1;have s:=dO j h.2.2.2.1;have t:=eU x;have u:=eU y;simp only[dB,cM]at a;have b:=k h.2.2.1 (by omega)
  have d:=l h.2.2.2.1 (by omega)
  apply Xp;exact aw rfl (aw rfl (aw rfl (bj rfl ⟨_,_,_,_,_,by omega,eT (i:=0) rfl,_,b,by simp;omega,by simp[Ex.op];omega,by simp[Ex.op];omega,_,_,_,_,_,by omega,eT (i:=1) rfl,_,d,by simp[Ex.op];omega,aZ rfl⟩)))
def l7(b:By):List By->By
 |[]=>[]
 |x::t=>x++t.flatMap fun y=>b++y
def I4(b:By)(n:Nat):∀(l:List By),(∀s∈l,s.length<=n)->(l.flatMap fun y=>b++y).length<=l.length*(b.length+n)
 |[],_=>by simp
 |x::t,h=>by
  have:=h x aW;have c:=I4 b n t fun s a=>h s (aV _ a)
  simp only[eX,dC,aD,cc,cR];omega
def mS(b:By)(n:Nat)(l:List By)(h:∀s∈l,s.length<=n):(l7 b l).length<=l.length*(b.length+n):=by
 cases l with
 |nil=>simp[l7]
 |cons x t=>
  have:=h x aW;have c:=I4 b n t fun s a=>h s (aV _ a)
  simp only[l7,dC,aD,cc,cR];omega
def C47(b:By)(n:Nat)(l:List By)(h:∀s∈l,s.length<=n)(f:l.length*(b.length+n)<=2^60)(q:l.length<=2^40)(p:b.length+n<=2^60):ak 47 [vL 1 (aJ l),vS b] [] [vS (l7 b l)] []:=by
 have c:(aJ l).length=l.length:=al ..;have key:∀(t:List By)(i:Nat)(s:By),l.drop (i+1)=t->s.length+t.length*(b.length+n)<=2^60+2^60->IN (aJ l) b s ((i:Int)+1) [vS (s++t.flatMap fun y=>b++y)] []:=by
  intro t;induction t with
  |nil=>
   intro i s a _;have:=lj a;apply Nf;rw[c];exact aw (bB (by omega)) (aZ (by simp))
  |cons x t k=>
   intro i s a g;obtain⟨d,e,o⟩:=bM a;have j:=h x (aK d);have m:(aJ l)[toNat ((i:Int)+1)]?=some [S x]:=by rw[show toNat ((i:Int)+1)=i+1 by omega];exact aP (i:=i+1) d
   simp only[aD,cc,cR]at g;apply Nf;rw[c];refine bj (bw (by omega)) (bj (bw (by omega)) ⟨by omega,x,by omega,m,by simp;omega,au,?_⟩)
   have:=k (i+1) (s++b++x) e (by simp;omega)
   rw[eX,show s++(b++x++t.flatMap fun y=>b++y)=s++b++x++t.flatMap fun y=>b++y by simp]
   exact this
 apply W47;cases l with
 |nil=>apply Nf;exact aw rfl fi
 |cons x t=>
  have j:=h x aW;simp only[aD,cc,cR]at f;apply Nf;rw[c];refine bj (bw (by simp only[aD];omega)) (aw rfl ⟨x,by omega,rfl,by simp;omega,au,?_⟩)
  exact key t 0 x rfl (by omega)
def pz(l:List By):By:=bif(l.length:Int)==0 then[123,32,125]else[123,32]++l7 [44,32] l++[32,125]
def ta(n:Nat)(l:List By)(h:∀s∈l,s.length<=n):(pz l).length<=l.length*(2+n)+4:=by
 have:=mS [44,32] n l h;unfold pz;cases(l.length:Int)==0
 .simp at this⊢; omega
 .simp
def C46(n:Nat)(l:List By)(h:∀s∈l,s.length<=n)(c:l.length<=2^20)(f:n<=2^30):ak 46 [vL 1 (aJ l)] [] [vS (pz l)] []:=by
 have d:(aJ l).length=l.length:=al ..;have e:l.length*(2+n)<=2^20*(2+2^30):=iE c (by omega)
 have b:=mS [44,32] n l h;have b:(l7 [44,32] l).length<=l.length*(2+n):=b;apply W46;rw[d];exact ad (fun a=>aZ (by rw[pz,a];rfl)) fun a=>⟨_,C47 [44,32] n l h (by show l.length*(2+n)<=_;omega) (by omega) (by simp;omega),by simp;omega,by simp;omega,aZ (by rw[pz,a];rfl)⟩
def fB:List By:=[[],[75,73,76,76,95,80,82,79,67,69,83,83],[75,73,76,76],[84,82,65,80],[69,82,82,78,79],[84,82,65,67,69],[76,79,71],[65,76,76,79,87]]
def nJ(a:Act):By:=bif(bif decide (a.kind>=3)then decide (a.kind<=5)else false)then fB.getD a.kind.toNat []++[40]++py a.data++[41]else fB.getD a.kind.toNat []
def Gb(h:(cg a).2=true):1<=a.kind/\a.kind<=7/\0<=a.data/\a.data<=65535/\((bif decide (a.kind>=3)then decide (a.kind<=5)else false)=false->a.data=0):=by
 obtain⟨k,d⟩:=a;unfold cg at h;cases hb:(bif(bif !(fX k).2 then true else decide (d<0))then true else decide (d>(bif(bif(bif(k==3)then true else(k==4))then true else(k==5))then 65535 else 0)))with
 |true=>simp only[hb]at h;simp at h
 |false=>
  have i:(fX k).2=true/\0<=d/\d<=(bif(bif(bif(k==3)then true else(k==4))then true else(k==5))then 65535 else 0):=by
   cases hp:(fX k).2<;>rw[hp]at hb
   .simp at hb
   .cases hd:decide (d<0)<;>rw[hd]at hb
    .have:=bI hd
     have:=bI hb;exact⟨rfl,by omega,by omega⟩
    .simp at hb
  obtain⟨f,j,c⟩:=i;have g:1<=k/\k<=7:=by
   unfold fX at f;cases q1:k==1<;>cases q2:k==2<;>cases q3:k==3<;>cases q4:k==4<;>cases q5:k==5<;>cases q6:k==6<;>cases q7:k==7<;>simp only[q1,q2,q3,q4,q5,q6,q7,ai,af]at f<;>simp only[beq_iff_eq,gk]at* <;> first|omega|simp at f
  refine⟨g.1,g.2,j,?_,?_⟩
  .cases e:(bif(bif(k==3)then true else(k==4))then true else(k==5))<;>rw[e]at c<;>simp only[ai,af]at c<;>show d<=65535<;>omega
  .intro e
   have:(bif(bif(k==3)then true else(k==4))then true else(k==5))=false:=by
    have l:¬(3<=k/\k<=5):=by
     rintro⟨a,b⟩;rw[show(bif decide ((Act.mk k d).kind>=3)then decide ((Act.mk k d).kind<=5)else false)=true by show(bif decide (k>=3)then decide (k<=5)else false)=true;rw[bw a,bw b];rfl]at e
     simp at e
    cases q3:k==3<;>cases q4:k==4<;>cases q5:k==5<;>simp only[beq_iff_eq,gk]at* <;> first|rfl|omega
   rw[this]at c;show d=0
   simp only[af]at c;omega
def I5(i:Nat):(fB.getD i []).length<=12:=by
 rw[bR];match i with
 |0|1|2|3|4|5|6|7=>decide
 |n+8=>simp[fB]
def qw(a:Act):(nJ a).length<=40:=by
 have:=I5 a.kind.toNat;have:=Bu a.data;unfold nJ;generalize fB.getD a.kind.toNat []=z at*;cases(bif decide (a.kind>=3)then decide (a.kind<=5)else false)<;>simp<;>omega
def C48(a:Act)(h:(cg a).2=true):ak 48 [zX a] [] [vS (nJ a)] []:=by
 obtain⟨l,m,c,i,-⟩:=Gb h;have g:(aJ fB)[toNat a.kind]?=some [S (fB.getD a.kind.toNat [])]:=by
  have d:a.kind.toNat<fB.length:=by show a.kind.toNat<8;omega
  rw[aJ,bu,bo d,bR,bo d];rfl
 have k:=I5 a.kind.toNat;have j:=Bu a.data;apply W48;have e:(bif decide (a.kind>=3)then decide (a.kind<=5)else false)=true->nJ a=fB.getD a.kind.toNat []++[40]++py a.data++[41]:=fun b=>by rw[nJ,b];rfl
 have f:(bif decide (a.kind>=3)then decide (a.kind<=5)else false)=false->nJ a=fB.getD a.kind.toNat []:=fun b=>by rw[nJ,b];rfl
 generalize fB.getD a.kind.toNat []=z at*;refine⟨_,by omega,g,ad (fun b=>?_) fun b=>aZ (by rw[f b])⟩
 rw[kJ c (by omega)]
 exact⟨by simp;omega,_,C72 a.data ⟨c,by omega⟩,by simp;omega,by simp;omega,aZ (by rw[e b])⟩
structure PrR (r:gP):Prop where
 call:r.call.length<=60
 pl:r.params.length<=10
 params:∀s∈r.params,s.length<=60
 cond:∀e∈r.cond,G e/\oI e/\dB e<=300
def nK(r:gP):By:=bif decide ((r.params.length:Int)>0)then r.call++[40]++l7 [44,32] r.params++[41]else r.call
def iR(r:gP):By:=match r.cond with
 |[]=>nK r
 |e::_=>nK r++[32,123,32]++cU e++[32,125]
def Dx(h:PrR r):(nK r).length<=1000:=by
 have c:=h.call;have b:=h.pl;have a:=mS [44,32] 60 r.params h.params;have d:r.params.length*(2+60)<=10*62:=iE b (ar _);have a:(l7 [44,32] r.params).length<=r.params.length*(2+60):=a;unfold nK;cases decide ((r.params.length:Int)>0)<;>simp<;>omega
def um(h:PrR r):(iR r).length<=32000:=by
 have c:=Dx h;unfold iR;split
 .omega
 .rename_i e t a
  obtain⟨g,b,d⟩:=h.cond e (by rw[a];simp)
  have:=dO g b;simp;omega
structure PrP (p:cQ):Prop where
 use:p.use.length<=60
 rl:p.bk.length<=12
 bk:∀r∈p.bk,PrR r
 act:p.use=[]->(cg p.act).2=true
def gr(p:cQ):By:=bif !(p.use==[])then[85,83,69,32]++p.use else nJ p.act++[32]++pz (p.bk.map iR)
def sr(h:PrP p):(gr p).length<=400000:=by
 have e:=h.use;have a:=h.rl;have f:=qw p.act;have b:=ta 32000 (p.bk.map iR) fun s d=>by
  obtain⟨r,c,rfl⟩:=bh.1 d;exact um (h.bk r c)
 rw[al]at b;have g:p.bk.length*(2+32000)<=12*32002:=iE a (ar _);unfold gr;cases !(p.use==[])<;>simp<;>omega
def C45(p:cQ)(h:PrP p):ak 45 [OH p] [] [vS (gr p)] []:=by
 have v:(p.bk.map gP.row).length=p.bk.length:=al ..;have A:=h.use;have a1:=h.rl;have n:∀(a:List By)(s:By),aJ a++([[S s]]:Rw)=aJ (a++[s]):=fun a s=>by simp[aJ,He]
 have w:∀a:List By,(aJ a).length=a.length:=fun a=>al ..
 have key:∀(t:List gP)(i:Nat)(a:List By),p.use=[]->p.bk.drop i=t->a=(p.bk.take i).map iR->IM (aJ a) i p.use p.act.kind p.act.data (p.bk.map gP.row) [vS (gr p)] []:=by
  intro t;induction t with
  |nil=>
   intro i a m k c;have D:=lj k;have c:a=p.bk.map iR:=by rw[c,dE D]
   have X:=qw p.act;have Y:=ta 32000 a fun s d=>by
    rw[c]at d;obtain⟨r,b,rfl⟩:=bh.1 d;exact um (h.bk r b)
   have G:a.length=p.bk.length:=by rw[c,al]
   have T:a.length*(2+32000)<=12*32002:=iE (by omega) (ar _)
   apply Xq;rw[v];refine aQ (l:=p.bk) rfl k ⟨_,C48 p.act (h.act m),by simp;omega,_,C46 32000 a (fun s d=>?_) (by omega) (by decide),by simp;omega,aZ ?_⟩
   .rw[c]at d
    obtain⟨r,b,rfl⟩:=bh.1 d;exact um (h.bk r b)
   .rw[gr,m,<-c];rfl
  |cons r t E=>
   intro i a m k c;obtain⟨o,y,M⟩:=bM k;have b:=h.bk r (aK o);have Z:=Dx b;have H:=b.pl;have G:a.length<=12:=by rw[c,al,oO];omega
   have J:(aJ r.params).length=r.params.length:=al ..;have I:(r.cond.map Ex.row).length=r.cond.length:=al ..;have K:=E (i+1) (a++[iR r]) m y (by rw[c,eE,o];simp)
   have j:F7 (aJ a) i (nK r) p.use p.act.kind p.act.data (p.bk.map gP.row) r.call (aJ r.params) (r.cond.map Ex.row) [vS (gr p)] []:=by
    apply Zw;rw[I];cases f:r.cond with
    |nil=>
     have e:iR r=nK r:=by rw[iR,f]
     rw[e]at K;refine aw rfl ⟨?_,au,?_⟩
     .rw[n,w];simp;omega
     .rw[n];exact K
    |cons e z=>
     obtain⟨g,d,F⟩:=b.cond e (by rw[f];simp)
     have a0:=dO g d;have x:iR r=nK r++[32,123,32]++cU e++[32,125]:=by rw[iR,f]
     rw[x]at K;refine bj (bw (by simp)) ⟨by simp;omega,_,_,_,_,_,by omega,by rw[bG,Ex.cu];rfl,_,C44 g d (by omega),by simp;omega,by simp;omega,?_,au,?_⟩
     .rw[n,w];simp;omega
     .rw[n];exact K
   have u:=mS [44,32] 60 r.params b.params;have u:(l7 [44,32] r.params).length<=r.params.length*(2+60):=u;have Q:r.params.length*(2+60)<=10*62:=iE H (ar _);have R:=b.call;apply Xq;rw[v];refine aL (l:=p.bk) rfl k ⟨_,_,_,by omega,aP o,?_⟩
   simp only[J];refine ad (fun q=>⟨by simp;omega,_,C47 [44,32] 60 r.params b.params (by show r.params.length*(2+60)<=_;omega) (by omega) (by decide),by simp;omega,by simp;omega,?_⟩) fun q=>?_
   .rw[show nK r=r.call++[40]++l7 [44,32] r.params++[41] by rw[nK,q];rfl]at j
    exact j
   .rw[show nK r=r.call by rw[nK,q];rfl]at j
    exact j
 apply W45;refine ad (fun f=>⟨by simp;omega,aZ (by rw[gr,f];rfl)⟩) fun f=>?_
 exact key p.bk 0 [] (by simpa using f) rfl rfl
structure Z4 (u:fT):Prop where
 dl:u.aF.length<=12
 aF:∀d∈u.aF,d.name.length<=60/\G d.ex/\oI d.ex/\dB d.ex<=300
 pl:u.aB.length<=8
 aB:∀p∈u.aB,p.name.length<=60/\p.aT.length<=12/\∀x∈p.aT,PrP x
 ml:u.main.length<=8
 main:∀s∈u.main,s.length<=60
 act:(cg u.ch).2=true
def mm(d:cZ):By:=[35,100,101,102,105,110,101,32]++d.name++[32]++cU d.ex++[10]
def kN(p:cW):By:=[80,79,76,73,67,89,32]++p.name++[32]++pz (p.aT.map gr)++[10]
def lD(u:fT):By:=[85,83,69,32]++l7 [44,32] u.main++[32,68,69,70,65,85,76,84,32]++nJ u.ch++[10]
def fC(u:fT):By:=u.aF.flatMap mm++u.aB.flatMap kN++lD u
def C23(u:fT)(h:Z4 u)(q:og u)(X:jm u=true):ak 23 [qm u] [] [vS (fC u)] []:=by
 have ld:(u.aF.map cZ.row).length=u.aF.length:=al ..;have I:(u.aB.map cW.row).length=u.aB.length:=al ..;have a4:=h.dl;have a7:=h.pl;have A:=h.ml;have a8:∀d∈u.aF,(mm d).length<=40000:=fun d z=>by
  obtain⟨m,g,n,w⟩:=h.aF d z;have:=dO g n;simp[mm];omega
 have a3:∀p∈u.aB,(pz (p.aT.map gr)).length<=5000000:=fun p T=>by
  obtain⟨m,n,w⟩:=h.aB p T;have H:=ta 400000 (p.aT.map gr) fun s q=>by
   obtain⟨x,r,rfl⟩:=bh.1 q;exact sr (w x r)
  rw[al]at H;have h5:p.aT.length*(2+400000)<=12*400002:=iE n (ar _);omega
 have a2:∀a:List By,(aJ a).length=a.length:=fun a=>al ..
 have Q:∀(a:List By)(s:By),aJ a++([[S s]]:Rw)=aJ (a++[s]):=fun a s=>by simp[aJ,He]
 have F:∀(t:List cW)(i:Nat)(s:By),u.aB.drop i=t->s.length+10000000*t.length<=2^41->M4 s i (u.aF.map cZ.row) (u.aB.map cW.row) (aJ u.main) u.ch.kind u.ch.data [vS (s++(t.flatMap kN++lD u))] []:=by
  intro t;induction t with
  |nil=>
   intro i s b k;have:=lj b;have a6:s.length<=2^41:=k;have f:=mS [44,32] 60 u.main h.main;have f:(l7 [44,32] u.main).length<=u.main.length*(2+60):=f;have H:u.main.length*(2+60)<=8*62:=iE A (ar _);have ha:=qw u.ch;apply Xf;rw[I];exact aQ (l:=u.aB) rfl b ⟨by simp;omega,_,C47 [44,32] 60 u.main h.main (by show u.main.length*(2+60)<=_;omega) (by omega) (by decide),by simp;omega,by simp;omega,_,C48 u.ch h.act,by simp;omega,by simp;omega,aZ (by simp[lD])⟩
  |cons p t D=>
   intro i s b k;obtain⟨m,n,w⟩:=bM b;have y:=aK m;obtain⟨p1,p2,J⟩:=h.aB p y;simp only[aD]at k;have a1:=a3 p y;have o:(u.aB.map cW.row)[toNat (i:Int)]?=some [S p.name,L 4 (p.aT.map cQ.row)]:=aP m;have M:(p.aT.map cQ.row).length=p.aT.length:=al ..;have inner:∀(v:List cQ)(j:Nat)(a:List By),p.aT.drop j=v->a=(p.aT.take j).map gr->M5 s i (aJ a) j (u.aF.map cZ.row) (u.aB.map cW.row) (aJ u.main) u.ch.kind u.ch.data [vS (s++((p::t).flatMap kN++lD u))] []:=by
    intro v;induction v with
    |nil=>
     intro j a f c;have z:=lj f;have c:a=p.aT.map gr:=by rw[c,dE z]
     have R:a.length=p.aT.length:=by rw[c,al]
     apply Xg;refine⟨_,_,by omega,o,?_⟩
     simp only[M];rw[<-c]at a1;refine aQ (l:=p.aT) rfl f ⟨by simp;omega,_,_,by omega,o,by simp;omega,by simp;omega,_,C46 400000 a (fun s q=>?_) (by omega) (by decide),by simp;omega,by simp;omega,au,?_⟩
     .rw[c]at q
      obtain⟨x,r,rfl⟩:=bh.1 q;exact sr (J x r)
     .have K:=D (i+1) (s++[80,79,76,73,67,89,32]++p.name++[32]++pz a++[10]) n (by simp;omega)
      have e:s++[80,79,76,73,67,89,32]++p.name++[32]++pz a++[10]++(t.flatMap kN++lD u)=s++((p::t).flatMap kN++lD u):=by simp[kN,c]
      rw[e]at K;exact K
    |cons x v a0=>
     intro j a f c;obtain⟨E,Y,j3⟩:=bM f;have R:a.length<=12:=by rw[c,al,oO];omega
     apply Xg;refine⟨_,_,by omega,o,?_⟩
     simp only[M];refine aL (l:=p.aT) rfl f ⟨_,_,by omega,o,_,_,_,_,by omega,aP E,_,C45 x (J x (aK E)),?_,au,?_⟩
     .rw[Q,a2];simp;omega
     .rw[Q]
      exact a0 (j+1) _ Y (by rw[c,eE,E];simp)
   apply Xf;rw[I];exact aL (l:=u.aB) rfl b (inner p.aT 0 [] rfl rfl)
 have Z:∀(t:List cZ)(i:Nat)(s:By),u.aF.drop i=t->s.length+40000*t.length<=2^40->M3 s i (u.aF.map cZ.row) (u.aB.map cW.row) (aJ u.main) u.ch.kind u.ch.data [vS (s++(t.flatMap mm++(u.aB.flatMap kN++lD u)))] []:=by
  intro t;induction t with
  |nil=>
   intro i s b k;have k:s.length<=2^40:=k;apply Xe;rw[ld];exact aQ (l:=u.aF) rfl b (F u.aB 0 s rfl (by omega))
  |cons d t D=>
   intro i s b k;obtain⟨m,n,w⟩:=bM b;have y:=aK m;obtain⟨d1,g,G,d3⟩:=h.aF d y;simp only[aD]at k;have a5:=dO g G;have o:(u.aF.map cZ.row)[toNat (i:Int)]?=some [S d.name,N d.ex.kind,S d.ex.op,S d.ex.name,U d.ex.num,L 5 (bt d.ex.kids)]:=(aP m).trans (by rw[cZ.row,Ex.cu])
   have K:=D (i+1) (s++[35,100,101,102,105,110,101,32]++d.name++[32]++cU d.ex++[10]) n (by simp;omega)
   have e:s++[35,100,101,102,105,110,101,32]++d.name++[32]++cU d.ex++[10]++(t.flatMap mm++(u.aB.flatMap kN++lD u))=s++((d::t).flatMap mm++(u.aB.flatMap kN++lD u)):=by simp[mm]
   rw[e]at K;apply Xe;rw[ld];exact aL (l:=u.aF) rfl b ⟨by simp;omega,_,_,_,_,_,_,by omega,o,by simp;omega,by simp;omega,_,_,_,_,_,_,by omega,o,_,C44 g G (by omega),by simp;omega,by simp;omega,au,K⟩
 apply W23;refine⟨_,Z3 u q,aw (by rw[X];rfl) ?_⟩
 have:=Z u.aF 0 [] rfl (by simp;omega)
 rw[show fC u=[]++(u.aF.flatMap mm++(u.aB.flatMap kN++lD u)) by simp[fC]]
 exact this
end
section
set_option maxRecDepth 10000
inductive Prim:Ex->Prop
 |num (m:Int):0<=m/\m<18446744073709551616->Prim (.mk 7 [] [] m [])
 |name (n:By):bQ n=true->Prim (.mk 5 [] n 0 [])
inductive I6:Ex->Prop
 |VA {e:Ex}:Prim e->I6 e
 |bits {x y:Ex}:I6 x->Prim y->I6 (.mk 8 [] [] 0 [x,y])
inductive Gc:Ex->Prop
 |name (n:By):bQ n=true->Gc (.mk 5 [] n 0 [])
 |mask (n:By) {x:Ex}:bQ n=true->Prim x->Gc (.mk 6 [] n 0 [x])
inductive B4:Ex->Prop
 |or {x y:Ex}:B4 x->B4 y->B4 (.mk 1 [] [] 0 [x,y])
 |and {x y:Ex}:B4 x->B4 y->B4 (.mk 2 [] [] 0 [x,y])
 |not {x:Ex}:B4 x->B4 (.mk 3 [] [] 0 [x])
 |cmp (o:By) {x y:Ex}:o∈ops->Gc x->I6 y->B4 (.mk 4 o [] 0 [x,y])
def Prim.g(h:Prim e):G e:=by cases h with|num m h=>exact .num m h|name n h=>exact .name n
def I6.g(h:I6 e):G e:=by induction h with|VA h=>exact h.g|bits _ h2 ih=>exact .bits ih h2.g
def Gc.g(h:Gc e):G e:=by cases h with|name n h=>exact .name n|mask n _ h=>exact .mask n h.g
def B4.g(h:B4 e):G e:=by
 induction h with
 |or _ _ a b=>exact .or a b
 |and _ _ a b=>exact .and a b
 |not _ h=>exact .not h
 |cmp o _ a b=>exact .cmp o a.g b.g
abbrev KT:=Int×By
abbrev sg(x:By):KT:=(3,x)
abbrev wd(x:By):KT:=(1,x)
abbrev nu(m:Int):KT:=(2,py m)
def nL:Cx->List KT->List Tok
 |_,[]=>[]
 |c,(k,x)::t=>⟨k,x,0,c⟩::nL none t
def kO:∀(c:Cx)(T:List KT),(nL c T).length=T.length
 |_,[]=>rfl
 |c,(k,x)::t=>by rw[nL,aD,kO none t,aD]
def cI:Ex->List KT
 |.mk k o _ _ [x,y]=>bif k==1 then sg [40]::(cI x++sg [124,124]::(cI y++[sg [41]]))else bif k==2 then sg [40]::(cI x++sg [38,38]::(cI y++[sg [41]]))else
  bif k==4 then cI x++sg o::cI y else cI x++sg [124]::cI y
 |.mk k _ n _ [x]=>bif k==3 then sg [33]::cI x else wd n::sg [38]::cI x
 |.mk k _ n m _=>bif k==7 then[nu m]else[wd n]
section
variable {A:Pa} {f:Int} {c:Cx}
def Q(f:Int)(c:Cx)(sp:Cx)(T:List KT):Ps:=⟨nL sp T,0,f,c⟩
def jx(T:List KT)(k:Int)(t:By):Bool:=match T with|[]=>false|(k',x)::_=>bif k'==k then x==t else false
def dU(sp:Cx)(T:List KT)(k:Int)(t:By):jg (Q f c sp T) k t=jx T k t:=by
 cases T with
 |nil=>rfl
 |cons x T=>rfl
def eL(h:jx T k t=false):aM (Q f c sp T) k t=Q f c sp T:=by
 unfold aM;rw[dU,h];rfl
def eI:aM (Q f c sp ((k,t)::T)) k t=Q f c none T:=by
 unfold aM;rw[dU,show jx ((k,t)::T) k t=true by simp[jx]];rfl
def jy:eK A (Q f c sp ((k,t)::T)) k t=Q f c none T:=by
 unfold eK;rw[dU,show jx ((k,t)::T) k t=true by simp[jx],eI];rfl
def Dy(h:bQ n=true):fV (Q f c sp (wd n::T))=true:=h
def kP(h:bQ n=true):bC A (Q f c sp (wd n::T))=(n,Q f c none T):=by
 unfold bC;rw[Dy h];rfl
def Dz(b:o5 (py m)=(m,true))(h:m<=a):fW A (Q f c sp (nu m::T)) a=(m,Q f c none T):=by
 show(bif(2:Int)==2 then(bif(bif(o5 (py m)).2 then decide ((o5 (py m)).1<=a)else false)then((o5 (py m)).1,{Q f c sp (nu m::T)with l:=(Q f c sp (nu m::T)).l.tail})else(0,gz A (Q f c sp (nu m::T)) 3))else(0,gz A (Q f c sp (nu m::T)) 3))=_
 rw[b];simp only[bw h];rfl
def VB(a:0<=d)(h:d<10):eR (Ls d).toNat=d:=by
 have:d=0\/d=1\/d=2\/d=3\/d=4\/d=5\/d=6\/d=7\/d=8\/d=9:=by omega
 rcases this with rfl|rfl|rfl|rfl|rfl|rfl|rfl|rfl|rfl|rfl<;>rfl
def Nz(a:0<=d)(h:d<10):gQ (Ls d).toNat=true:=by
 have:d=0\/d=1\/d=2\/d=3\/d=4\/d=5\/d=6\/d=7\/d=8\/d=9:=by omega
 rcases this with rfl|rfl|rfl|rfl|rfl|rfl|rfl|rfl|rfl|rfl<;>rfl
def DA(b:Int):∀(s t:By)(n m:Int),o4 b s n=some m->o4 b (s++t) n=o4 b t m
 |[],t,n,m,h=>by simp[o4]at h;subst h;rfl
 |x::s,t,n,m,h=>by
  unfold o4 at h;rw[dt,o4];cases hb:(bif decide (eR x.toNat>=b)then true else decide (n*b+eR x.toNat>=18446744073709551616))<;>rw[hb]at h
  .exact DA b s t _ m h
  .simp at h
def xk(a:0<=d)(h:d<10)(b:0<=n)(e:n*10+d<18446744073709551616):o4 10 [Ls d] n=some (n*10+d):=by
 unfold o4;rw[VB a h,bB (by omega),af,bB (by omega)]
 rfl
def DB:∀(k:Nat)(n:Int),0<=n->n<10^(k+1)->n<18446744073709551616->o4 10 (px k n) 0=some n
 |0,n,b,a,e=>by
  have a:n<10:=a;have:=xk (d:=n%10) (n:=0) (by omega) (by omega) (by omega) (by omega)
  rw[px,this];congr 1;omega
 |k+1,n,b,a,e=>by
  have g:n/10<10^(k+1):=by
   rw[Int.pow_succ]at a;omega
  unfold px;cases hd:decide (n>9)
  .have:=bI hd
   have:=xk (d:=n%10) (n:=0) (by omega) (by omega) (by omega) (by omega)
   rw[af,this];congr 1;omega
  .rw[ai,DA 10 _ _ 0 (n/10) (DB k (n/10) (by omega) g (by omega)),xk (by omega) (by omega) (by omega) (by omega)]
   congr 1;omega
def xl:∀(k:Nat)(n:Int),(px k n).all fun x=>gQ x.toNat
 |0,n=>by
  have:=Nz (d:=n%10) (by omega) (by omega)
  simp[px,this]
 |k+1,n=>by
  have a:=Nz (d:=n%10) (by omega) (by omega)
  have b:=xl k (n/10);unfold px;cases decide (n>9)
  .simp[a]
  .simp only[ai,List.all_append,b,bJ,mU,a];rfl
def NA(k:Nat)(n:Int):px k n≠[]:=by
 cases k with
 |zero=>simp[px]
 |succ k=>unfold px;cases decide (n>9)<;>simp
def Ge(h:0<=m/\m<18446744073709551616):o5 (py m)=(m,true):=by
 have g:=DB 20 m h.1 (by have:(10:Int)^(20+1)=1000000000000000000000:=rfl;omega) h.2
 have i:List.isPrefixOf [48,120] (py m)=false:=by
  have d:=xl 20 m;unfold py;match hq:px 20 m with
  |[]=>rfl
  |[a]=>simp[List.isPrefixOf]
  |a::b::t=>
   rw[hq]at d;simp only[bJ,cd]at d;have e:=d.2.1;cases hab:List.isPrefixOf [48,120] (a::b::t)with
   |false=>rfl
   |true=>
    simp[List.isPrefixOf]at hab;rw[<-hab.2]at e;exact absurd e (by decide)
 have j:(py m==[])=false:=by
  have:=NA 20 m;unfold py;cases hq:px 20 m with
  |nil=>exact(this hq).elim
  |cons=>rfl
 unfold o5;simp only[i,af];unfold py at*;rw[g];simp only[j];rfl
def Lt(h:Prim e)(R:List KT):hO A (Q f c sp (cI e++R))=(e,Q f c none R):=by
 cases h with
 |name n a=>
  show hO A (Q f c sp (wd n::R))=_
  unfold hO;rw[Dy a,kP a];rfl
 |num m b=>
  show hO A (Q f c sp (nu m::R))=_
  unfold hO;rw[show fV (Q f c sp (nu m::R))=false from rfl,Dz (Ge b) (by omega)];rfl
def O8(h:I6 e):∃(p:Ex)(ps:List Ex),Prim p/\(∀x∈ps,Prim x)/\e=ps.foldl (fun a b=>.mk 8 [] [] 0 [a,b]) p/\cI e=cI p++ps.flatMap fun x=>sg [124]::cI x:=by
 induction h with
 |VA h=>exact⟨_,[],h,by simp,rfl,by simp⟩
 |@bits x y _ l m=>
  obtain⟨p,ps,g,i,j,k⟩:=m;refine⟨p,ps++[y],g,fun z d=>?_,by rw[List.foldl_append,<-j];rfl,?_⟩
  .rcases bp.1 d with d|d
   .exact i z d
   .simp at d;subst d;exact l
  .show cI x++sg [124]::cI y=_
   rw[k];simp
def DC(d:jx R 3 [124]=false):∀(ps:List Ex)(n:Nat)(e:Ex),(∀x∈ps,Prim x)->ps.length<n ->
  fa [124] 8 (hO A) n e (Q f c none ((ps.flatMap fun x=>sg [124]::cI x)++R))=(ps.foldl (fun a b=>.mk 8 [] [] 0 [a,b]) e,Q f c none R)
 |[],n+1,e,_,_=>by
  show fa [124] 8 (hO A) (n+1) e (Q f c none R)=_
  rw[fa,dU,d,eL d];rfl
 |x::ps,n+1,e,g,i=>by
  have k:=g x aW;rw[eX];simp only[dt,bq];rw[fa,dU,show jx (sg [124]::(cI x++((ps.flatMap fun x=>sg [124]::cI x)++R))) 3 [124]=true from rfl,eI,Lt k,ai]
  exact DC d ps n _ (fun y j=>g y (aV _ j)) (by simpa using i)
 |[],0,_,_,h=>absurd h (jq _)
 |_::_,0,_,_,h=>absurd h (jq _)
def VC(ps:List Ex):ps.length<=(ps.flatMap fun x=>sg [124]::cI x).length:=by
 induction ps with
 |nil=>simp
 |cons x ps a=>simp only[eX,dC,aD];omega
def DD(h:I6 e)(g:jx R 3 [124]=false):jD A (Q f c sp (cI e++R))=(e,Q f c none R):=by
 obtain⟨p,ps,a,b,rfl,d⟩:=O8 h;rw[d,bq];unfold jD;rw[Lt a];refine DC g ps _ p b ?_;show ps.length<(nL sp _).length+1
 rw[kO];have:=VC ps;simp only[dC];omega
def acu(h:o∈ops)(R:List KT):UZ A (Q f c sp (sg o::R))=(o,Q f c none R):=by
 have a:∀(l:List By),o∈l->zZ A l (Q f c sp (sg o::R))=(o,Q f c none R):=by
  intro l;induction l with
  |nil=>intro h;simp at h
  |cons x l b=>
   intro h;rw[zZ,dU];cases hx:jx (sg o::R) 3 x
   .rw[af,eL hx]
    rcases aY.1 h with rfl|h
    .simp[jx]at hx
    .exact b h
   .have:o=x:=by simpa[jx]using hx
    subst this;rw[ai,eI]
 exact a ops h
def TB(h:o∈ops)(b:I6 y)(a:jx R 3 [124]=false):z1 A x (Q f c sp (sg o::(cI y++R)))=(.mk 4 o [] 0 [x,y],Q f c none R):=by
 unfold z1;rw[acu h];simp only[DD b a]
def VD(b:o∈ops)(k:Gc x)(g:I6 y)(d:jx R 3 [124]=false):ob A (Q f c sp (cI x++sg o::(cI y++R)))=(.mk 4 o [] 0 [x,y],Q f c none R):=by
 have i:jx (sg o::(cI y++R)) 3 [38]=false:=by
  have:o≠[38]:=by
   intro e;subst e;exact absurd b (by decide)
  show(bif(3:Int)==3 then o==[38]else false)=false
  simpa using this
 cases k with
 |name n a=>
  show ob A (Q f c sp (wd n::sg o::(cI y++R)))=_
  unfold ob;rw[kP a];simp only[dU,i,af,eL i];exact TB b g d
 |@mask n p a j=>
  show ob A (Q f c sp (wd n::sg [38]::(cI p++sg o::(cI y++R))))=_
  unfold ob;rw[kP a];simp only[dU,show jx (sg [38]::(cI p++sg o::(cI y++R))) 3 [38]=true from rfl,ai,eI,Lt j]
  exact TB b g d
def Bv(h:pl s=(e,Q f c none R))(a:jx R 3 [38,38]=false):oc pl s=(e,Q f c none R):=by
 unfold oc;rw[h,fa,dU,a,eL a];rfl
def I7(h:oc pl s=(e,Q f c none R))(a:jx R 3 [124,124]=false):rQ pl s=(e,Q f c none R):=by
 unfold rQ;rw[h,fa,dU,a,eL a];rfl
def TC(h:pl s=(x,Q f c none (sg [38,38]::T)))(b:pl (Q f c none T)=(y,Q f c none R))(a:jx R 3 [38,38]=false)(e:1<=s.l.length):oc pl s=(.mk 2 [] [] 0 [x,y],Q f c none R):=by
 unfold oc;obtain⟨k,d⟩:∃k,s.l.length+1=k+1+1:=⟨s.l.length-1,by omega⟩
 rw[h,d,fa,dU,show jx (sg [38,38]::T) 3 [38,38]=true from rfl,eI,b,ai,fa,dU,a,eL a];rfl
def TD(h:oc pl s=(x,Q f c none (sg [124,124]::T)))(b:oc pl (Q f c none T)=(y,Q f c none R))(a:jx R 3 [124,124]=false)(e:1<=s.l.length):rQ pl s=(.mk 1 [] [] 0 [x,y],Q f c none R):=by
 unfold rQ;obtain⟨k,d⟩:∃k,s.l.length+1=k+1+1:=⟨s.l.length-1,by omega⟩
 rw[h,d,fa,dU,show jx (sg [124,124]::T) 3 [124,124]=true from rfl,eI,b,ai,fa,dU,a,eL a];rfl
def TE(h:B4 e):∀(n:Nat)(sp:Cx)(R:List KT),(cI e).length<n->jx R 3 [124]=false->fj A n (Q f c sp (cI e++R))=(e,Q f c none R):=by
 induction h with
 |@or x y g j q s=>
  intro n sp R a d;have b:cI (.mk 1 [] [] 0 [x,y])=sg [40]::(cI x++sg [124,124]::(cI y++[sg [41]])):=rfl;rw[b]at a⊢;simp only[aD,dC]at a;obtain⟨k,rfl⟩:∃k,n=k+1:=⟨n-1,by omega⟩
  simp only[dt,bq,dP];rw[fj,jl,dU];rw[show jx (sg [40]::(cI x++sg [124,124]::(cI y++sg [41]::R))) 3 [33]=false from rfl,af,eL (show jx (sg [40]::(cI x++sg [124,124]::(cI y++sg [41]::R))) 3 [33]=false from rfl),dU]
  rw[show jx (sg [40]::(cI x++sg [124,124]::(cI y++sg [41]::R))) 3 [40]=true from rfl,ai,eI]
  have l:=Bv (q k none (sg [124,124]::(cI y++sg [41]::R)) (by omega) rfl) rfl
  have p:=Bv (s k none (sg [41]::R) (by omega) rfl) rfl
  rw[TD l p rfl (by show 1<=(nL none _).length;rw[kO];simp;omega),jy]
 |@and x y g j q s=>
  intro n sp R a d;have b:cI (.mk 2 [] [] 0 [x,y])=sg [40]::(cI x++sg [38,38]::(cI y++[sg [41]])):=rfl;rw[b]at a⊢;simp only[aD,dC]at a;obtain⟨k,rfl⟩:∃k,n=k+1:=⟨n-1,by omega⟩
  simp only[dt,bq,dP];rw[fj,jl,dU];rw[show jx (sg [40]::(cI x++sg [38,38]::(cI y++sg [41]::R))) 3 [33]=false from rfl,af,eL (show jx (sg [40]::(cI x++sg [38,38]::(cI y++sg [41]::R))) 3 [33]=false from rfl),dU]
  rw[show jx (sg [40]::(cI x++sg [38,38]::(cI y++sg [41]::R))) 3 [40]=true from rfl,ai,eI]
  have l:=q k none (sg [38,38]::(cI y++sg [41]::R)) (by omega) rfl
  have p:=s k none (sg [41]::R) (by omega) rfl
  rw[I7 (TC l p rfl (by show 1<=(nL none _).length;rw[kO];simp;omega)) rfl,jy]
 |@not x g v=>
  intro n sp R a d;have b:cI (.mk 3 [] [] 0 [x])=sg [33]::cI x:=rfl;rw[b]at a⊢;simp only[aD]at a;obtain⟨k,rfl⟩:∃k,n=k+1:=⟨n-1,by omega⟩
  rw[dt,fj,jl,dU,show jx (sg [33]::(cI x++R)) 3 [33]=true from rfl,ai,eI,v k none R (by omega) d]
 |@cmp o x y u g j=>
  intro n sp R a d;have b:cI (.mk 4 o [] 0 [x,y])=cI x++sg o::cI y:=rfl;rw[b]at a⊢;obtain⟨k,rfl⟩:∃k,n=k+1:=⟨n-1,by omega⟩
  rw[bq,dt];have i:∃m T,cI x++sg o::(cI y++R)=wd m::T:=by cases g<;>exact⟨_,_,rfl⟩
  have t:=VD (A:=A) (f:=f) (c:=c) u g j (sp:=sp) d;obtain⟨m,T,i⟩:=i;rw[i]at t⊢;rw[fj,jl,dU,show jx (wd m::T) 3 [33]=false from rfl,af,eL (show jx (wd m::T) 3 [33]=false from rfl),dU,show jx (wd m::T) 3 [40]=false from rfl,af,eL (show jx (wd m::T) 3 [40]=false from rfl)]
  exact t
def O9(h:B4 e):ey A (Q f c sp (cI e++sg [125]::R))=(e,Q f c none (sg [125]::R)):=by
 unfold ey;refine I7 (Bv (TE h _ sp _ ?_ rfl) rfl) rfl;show _<(nL sp _).length+1
 rw[kO,dC];omega
def nM:List By->List KT
 |[]=>[]
 |x::t=>wd x::t.flatMap fun y=>[sg [44],wd y]
def Bw(b:jx R 3 [44]=false):∀(l:List By)(n:Nat)(a:List By),(∀x∈l,bQ x=true)->l.length<n->iv A n a (Q f c none ((l.flatMap fun y=>[sg [44],wd y])++R))=(a++l,Q f c none R)
 |[],n+1,a,_,_=>by
  show iv A (n+1) a (Q f c none R)=_
  rw[iv,dU,b,eL b,fr];rfl
 |x::l,n+1,a,d,e=>by
  show iv A (n+1) a (Q f c none (sg [44]::wd x::((l.flatMap fun y=>[sg [44],wd y])++R)))=_
  rw[iv,dU,show jx (sg [44]::wd x::((l.flatMap fun y=>[sg [44],wd y])++R)) 3 [44]=true from rfl,ai,eI,kP (d x aW)]
  have:=Bw b l n (a++[x]) (fun y g=>d y (aV _ g)) (by simpa using e)
  rw[bq]at this;exact this
 |[],0,_,_,h=>absurd h (jq _)
 |_::_,0,_,_,h=>absurd h (jq _)
def I8(b:l≠[])(h:∀x∈l,bQ x=true)(d:jx R 3 [44]=false):fh A (Q f c sp (nM l++R))=(l,Q f c none R):=by
 cases l with
 |nil=>exact(b rfl).elim
 |cons x t=>
  show fh A (Q f c sp (wd x::((t.flatMap fun y=>[sg [44],wd y])++R)))=_
  unfold fh;rw[kP (h x aW)];refine Bw d t _ [x] (fun y e=>h y (aV _ e)) ?_
  show t.length<(nL sp _).length+1
  rw[kO];have:t.length<=(t.flatMap fun y=>[sg [44],wd y]).length:=by
   clear b h;induction t with
   |nil=>simp
   |cons a t g=>simp only[eX,dC,aD,cS];omega
  simp only[aD,dC];omega
def uo(a:Act):List KT:=wd (fB.getD a.kind.toNat [])::(bif(bif decide (a.kind>=3)then decide (a.kind<=5)else false)then[sg [40],nu a.data,sg [41]]else[])
def DE(h:(cg a).2=true):dn A (Q f c sp (uo a++R))=(a,Q f c none R):=by
 obtain⟨m,o,g,i,e⟩:=Gb h;obtain⟨k,d⟩:=a;have m:1<=k:=m;have o:k<=7:=o;have g:0<=d:=g;have i:d<=65535:=i;have s:∀R,vp A (Q f c none (sg [40]::nu d::sg [41]::R))=(d,Q f c none R):=by
  intro R;unfold vp;rw[jy,Dz (Ge ⟨g,by omega⟩) i,jy,show wrap .i64 d=d from ra au]
 have p:∀(n:By)(T:List KT)(j:Int),oa n=(j,true)->jY (Q f c sp (wd n::T))=(j,true):=fun n T j b=>b
 have plain:∀(n:By)(j:Int),oa n=(j,true)->[3,4,5].any (j == ·)=false->dn A (Q f c sp (wd n::R))=(⟨j,0⟩,Q f c none R):=by
  intro n j b l;unfold dn;rw[p n R j b];simp only[l];rfl
 have more:∀(n:By)(j:Int),oa n=(j,true)->[3,4,5].any (j == ·)=true->dn A (Q f c sp (wd n::sg [40]::nu d::sg [41]::R))=(⟨j,d⟩,Q f c none R):=by
  intro n j b l;unfold dn;rw[p n _ j b];simp only[l,show Ue (Q f c sp (wd n::sg [40]::nu d::sg [41]::R))=Q f c none (sg [40]::nu d::sg [41]::R)from rfl,s R]
  rfl
 have q:k=1\/k=2\/k=3\/k=4\/k=5\/k=6\/k=7:=by omega
 rcases q with rfl|rfl|rfl|rfl|rfl|rfl|rfl
 .have:d=0:=e rfl
  subst this;exact plain _ 1 rfl rfl
 .have:d=0:=e rfl
  subst this;exact plain _ 2 rfl rfl
 .exact more _ 3 rfl rfl
 .exact more _ 4 rfl rfl
 .exact more _ 5 rfl rfl
 .have:d=0:=e rfl
  subst this;exact plain _ 6 rfl rfl
 .have:d=0:=e rfl
  subst this;exact plain _ 7 rfl rfl
end
end
section
set_option maxRecDepth 10000
section
variable {A:Pa} {f:Int} {c:Cx}
def I9:List Ex->List KT
 |[]=>[]
 |e::_=>sg [123]::(cI e++[sg [125]])
def DF:List By->List KT
 |[]=>[]
 |x::t=>sg [40]::(nM (x::t)++[sg [41]])
def yb(r:gP):List KT:=wd r.call::(DF r.params++I9 r.cond)
structure XO (r:gP):Prop where
 call:bQ r.call=true
 params:∀x∈r.params,bQ x=true
 cond:r.cond=[]\/∃e,r.cond=[e]/\B4 e/\bL e<=30
def VE(R:List KT):Prop:=∃T,R=sg [44]::T\/R=sg [125]::T
def VF(h:l=[]\/∃e,l=[e]/\B4 e/\bL e<=30)(b:jx R 3 [123]=false):
  eG A name params (Q f c none (I9 l++R))=(⟨name,params,l⟩,Q f c none R):=by
 rcases h with rfl|⟨e,rfl,d,i⟩
 .show eG A name params (Q f c none R)=_
  unfold eG;rw[dU,b,eL b];rfl
 .show eG A name params (Q f c none (sg [123]::((cI e++[sg [125]])++R)))=_
  rw[bq];unfold eG;rw[dU,show jx (sg [123]::(cI e++([sg [125]]++R))) 3 [123]=true from rfl,eI]
  have a:=O9 (A:=A) (f:=f) (c:=c) d (sp:=none) (R:=R);have a:ey A (Q f c none (cI e++([sg [125]]++R)))=(e,Q f c none (sg [125]::R)):=a;rw[a];have g:od A (Q f c none (sg [123]::(cI e++([sg [125]]++R)))) (e,Q f c none (sg [125]::R))=Q f c none (sg [125]::R):=by
   unfold od;rw[show lI (e,Q f c none (sg [125]::R)).2=true from rfl,bB (by show¬((bL e:Int)>30);omega)];rfl
  rw[g];simp only[eB,af,jy]
def VG(h:XO r)(g:VE R):jv A (Q f c sp (yb r++R))=(r,Q f c none R):=by
 have d:=h.call;have b:=h.params;have a:=h.cond;obtain⟨call,params,l⟩:=r;clear h;have a:l=[]\/∃e,l=[e]/\B4 e/\bL e<=30:=a;have b:∀x∈params,bQ x=true:=b;have d:bQ call=true:=d;have p:jx R 3 [123]=false:=by obtain⟨T,rfl|rfl⟩:=g<;>rfl
 have i:jx (I9 l++R) 3 [40]=false:=by
  rcases a with rfl|⟨e,rfl,_⟩
  .obtain⟨T,rfl|rfl⟩:=g<;>rfl
  .rfl
 have j:=VF (A:=A) (f:=f) (c:=c) (name:=call) (params:=params) a p;have m:yb ⟨call,params,l⟩++R=wd call::(DF params++(I9 l++R)):=by
  show wd call::((DF params++I9 l)++R)=_
  rw[bq]
 rw[m];generalize I9 l++R=K at*;unfold jv;rw[kP d];cases params with
 |nil=>
  show(bif jg (Q f c none K) 3 [40]then _ else eG A call [] (aM (Q f c none K) 3 [40]))=_
  rw[dU,i,af,eL i];exact j
 |cons x t=>
  have n:DF (x::t)++K=sg [40]::(nM (x::t)++(sg [41]::K)):=by
   show sg [40]::((nM (x::t)++[sg [41]])++K)=_
   rw[bq];rfl
  rw[n];have k:jx (nM (x::t)++sg [41]::K) 3 [41]=false:=rfl;have o:=I8 (A:=A) (f:=f) (c:=c) (l:=x::t) (by simp) b (sp:=none) (R:=sg [41]::K) rfl
  simp only[dU,show jx (sg [40]::(nM (x::t)++sg [41]::K)) 3 [40]=true from rfl,ai,eI,k,eL k,km,o,jy]
  exact j
def vT:List (List KT)->List KT
 |[]=>[]
 |x::t=>x++t.flatMap fun y=>sg [44]::y
def nN(l:List (List KT)):List KT:=sg [123]::(vT l++[sg [125]])
def Ja{g:Ps->α×Ps}{tk:α->List KT}{R:List KT}:∀(l:List α)(x:α)(n:Nat)(more:Bool)(a:List α)(sp:Cx),(∀y∈x::l,∀(sp:Cx)(R:List KT),VE R->g (Q f c sp (tk y++R))=(y,Q f c none R))->(∀y∈x::l,∀T,jx (tk y++T) 3 [125]=false)->l.length+1<n ->
  jO A g n more a (Q f c sp (tk x++((l.flatMap fun y=>sg [44]::tk y)++sg [125]::R)))=(a++x::l,Q f c none R)
 |l,x,0,_,_,_,_,_,h=>absurd h (jq _)
 |[],x,n+1,more,a,sp,d,b,e=>by
  have i:=d x aW sp (sg [125]::R) ⟨R,.inr rfl⟩;obtain⟨m,rfl⟩:∃m,n=m+1:=⟨n-1,by simp at e;omega⟩
  show jO A g (m+1+1) more a (Q f c sp (tk x++sg [125]::R))=_
  rw[jO,dU,b x aW];rw[show lI (Q f c sp (tk x++sg [125]::R))=true from rfl]
  rw[show(bif true then(bif more then true else !false)else false)=true by cases more<;>rfl,ai,i]
  simp only[dU,show jx (sg [125]::R) 3 [44]=false from rfl,eL (show jx (sg [125]::R) 3 [44]=false from rfl)]
  rw[jO,dU,show jx (sg [125]::R) 3 [125]=true from rfl,jy]
  rfl
 |z::l,x,n+1,more,a,sp,d,b,e=>by
  have k:((z::l).flatMap fun y=>sg [44]::tk y)++sg [125]::R=sg [44]::(tk z++((l.flatMap fun y=>sg [44]::tk y)++sg [125]::R)):=by simp
  rw[k];have i:=d x aW sp (sg [44]::(tk z++((l.flatMap fun y=>sg [44]::tk y)++sg [125]::R))) ⟨_,.inl rfl⟩
  rw[jO,dU,b x aW];rw[show∀T,lI (Q f c sp T)=true from fun _=>rfl]
  rw[show(bif true then(bif more then true else !false)else false)=true by cases more<;>rfl,ai,i]
  simp only[dU,show∀T,jx (sg [44]::T) 3 [44]=true from fun _=>rfl,eI]
  have:=Ja (R:=R) l z n true (a++[x]) none (fun y j=>d y (aV _ j)) (fun y j=>b y (aV _ j)) (by simpa using e)
  rw[bq]at this;exact this
def NB(e:∀y∈l,∀(sp:Cx)(R:List KT),VE R->g (Q f c sp (tk y++R))=(y,Q f c none R))(d:∀y∈l,∀T,jx (tk y++T) 3 [125]=false):
  rR A g (Q f c sp (nN (l.map tk)++R))=(l,Q f c none R):=by
 unfold rR nN;rw[dt,bq,jy];cases l with
 |nil=>
  show jO A g ((nL none (sg [125]::R)).length+2) false [] (Q f c none (sg [125]::R))=_
  rw[kO,jO,dU,show jx (sg [125]::R) 3 [125]=true from rfl,jy];rfl
 |cons x t=>
  have b:vT ((x::t).map tk)++([sg [125]]++R)=tk x++((t.flatMap fun y=>sg [44]::tk y)++sg [125]::R):=by
   simp[vT,List.flatMap_map]
  rw[b];refine Ja t x _ false [] none e d ?_;show _<(nL none _).length+2
  rw[kO];have:t.length<=(t.flatMap fun y=>sg [44]::tk y).length:=by
   clear e d b;induction t with
   |nil=>simp
   |cons a t i=>simp only[eX,dC,aD];omega
  simp only[dC,aD];omega
def tf(p:cQ):List KT:=bif !(p.use==[])then[wd gi,wd p.use]else uo p.act++nN (p.bk.map yb)
structure Ug (p:cQ):Prop where
 use:p.use≠[]->bQ p.use=true/\p.act=⟨0,0⟩/\p.bk=[]
 act:p.use=[]->(cg p.act).2=true
 bk:∀r∈p.bk,XO r
def VH(h:(cg a).2=true):(fB.getD a.kind.toNat []==gi)=false/\∀T,jx (uo a++T) 3 [125]=false:=by
 obtain⟨b,e,-⟩:=Gb h;obtain⟨k,d⟩:=a;have b:1<=k:=b;have e:k<=7:=e;refine⟨?_,fun T=>rfl⟩
 have g:k=1\/k=2\/k=3\/k=4\/k=5\/k=6\/k=7:=by omega
 rcases g with rfl|rfl|rfl|rfl|rfl|rfl|rfl<;>rfl
def VI(h:Ug p)(g:VE R):iw A (Q f c sp (tf p++R))=(p,Q f c none R):=by
 obtain⟨use,a,bk⟩:=p;cases hu:use==[]with
 |true=>
  have o:use=[]:=by simpa using hu
  subst o;have i:=h.act rfl;have m:=(VH i).1;have b:tf ⟨[],a,bk⟩++R=uo a++(nN (bk.map yb)++R):=by
   show uo a++nN (bk.map yb)++R=_
   rw[bq]
  have k:jx (uo a++(nN (bk.map yb)++R)) 1 gi=false:=by
   show(bif(1:Int)==1 then fB.getD a.kind.toNat []==gi else false)=false
   rw[m];rfl
  rw[b];unfold iw;rw[dU,k,eL k,DE i];simp only[af];rw[NB (fun y j sp R g=>VG (h.bk y j) g) (fun y j T=>rfl)]
 |false=>
  have n:use≠[]:=by simpa using hu
  obtain⟨l,d,e⟩:=h.use n;have d:a=⟨0,0⟩:=d;have e:bk=[]:=e;subst d e;have b:tf ⟨use,⟨0,0⟩,[]⟩++R=wd gi::wd use::R:=by
   unfold tf;simp only[hu];rfl
  rw[b];unfold iw;rw[dU,show jx (wd gi::wd use::R) 1 gi=true by simp[jx],ai,eI,kP l]
def B5(p:cW):List KT:=wd dp::wd p.name::nN (p.aT.map tf)
def Gg(d:cZ):List KT:=(5,bW)::wd d.name::cI d.ex
def B6(u:fT):List KT:=wd gi::(nM u.main++wd fP::uo u.ch)
def nU(u:fT):List KT:=u.aF.flatMap Gg++(u.aB.flatMap B5++B6 u)
structure Pz (u:fT):Prop where
 aF:∀d∈u.aF,bQ d.name=true/\I6 d.ex
 aB:∀p∈u.aB,bQ p.name=true/\∀x∈p.aT,Ug x
 mne:u.main≠[]
 main:∀s∈u.main,bQ s=true
 act:(cg u.ch).2=true
def Lu(h:Ug p):∀T,jx (tf p++T) 3 [125]=false:=by
 intro T;obtain⟨use,a,bk⟩:=p;unfold tf;cases hu : !(use==[])
 .rfl
 .rfl
def TF(h:bQ d.name=true/\I6 d.ex)(a:jx R 3 [124]=false):dg A (Q f c sp (Gg d++R))=({A with ds:=A.ds++[d]},Q f c none R):=by
 show dg A (Q f c sp ((5,bW)::wd d.name::(cI d.ex++R)))=_
 unfold dg;rw[dU,show jx ((5,bW)::wd d.name::(cI d.ex++R)) 5 bW=true from rfl,ai,eI,kP h.1]
 simp only[DD h.2 a]
def TG(h:bQ p.name=true/\∀x∈p.aT,Ug x):dg A (Q f c sp (B5 p++R))=({A with ps:=A.ps++[p]},Q f c none R):=by
 show dg A (Q f c sp (wd dp::wd p.name::(nN (p.aT.map tf)++R)))=_
 unfold dg;have b:jx (wd dp::wd p.name::(nN (p.aT.map tf)++R)) 5 bW=false:=rfl;rw[dU,b,af,eL b,dU,show jx (wd dp::wd p.name::(nN (p.aT.map tf)++R)) 1 dp=true from rfl,ai,eI,kP h.1]
 simp only[NB (A:=A) (f:=f) (c:=c) (g:=iw A) (tk:=tf) (R:=R) (l:=p.aT) (sp:=none) (fun y a sp R d=>VI (h.2 y a) d) (fun y a=>Lu (h.2 y a))]
def Pb(h:Pz u)(e:A.mn=[]):dg A (Q f c sp (B6 u))=({A with mn:=u.main,dk:=u.ch.kind,dd:=u.ch.data},Q f c none []):=by
 show dg A (Q f c sp (wd gi::(nM u.main++wd fP::uo u.ch)))=_
 unfold dg;have d:jx (wd gi::(nM u.main++wd fP::uo u.ch)) 5 bW=false:=rfl;have b:jx (wd gi::(nM u.main++wd fP::uo u.ch)) 1 dp=false:=rfl;rw[dU,d,af,eL d,dU,b,af,eL b,dU,show jx (wd gi::(nM u.main++wd fP::uo u.ch)) 1 gi=true from rfl,ai,eI]
 unfold xC;have a:=DE (A:=A) (f:=f) (c:=c) h.act (sp:=none) (R:=[]);rw[fr]at a;rw[I8 h.mne h.main rfl,e];simp only[jy,a];rfl
def NC{u:fT}:∀(l:List cZ)(n:Nat)(A:Pa)(sp:Cx)(R:List KT),(∀d∈l,bQ d.name=true/\I6 d.ex)->jx R 3 [124]=false->l.length<=n->∃a,ez n A (Q f c sp (l.flatMap Gg++R))=ez (n-l.length) {A with ds:=A.ds++l} (Q f c a R)
 |[],n,A,sp,R,_,_,_=>⟨sp,by simp⟩
 |d::l,0,A,sp,R,_,_,h=>by simp at h
 |d::l,n+1,A,sp,R,e,b,g=>by
  obtain⟨a,h⟩:=NC (u:=u) l n {A with ds:=A.ds++[d]} none R (fun x i=>e x (aV _ i)) b (by simpa using g)
  refine⟨a,?_⟩;have j:jx (l.flatMap Gg++R) 3 [124]=false:=by cases l with|nil=>exact b|cons=>rfl
  rw[eX,bq,ez,TF (e d aW) j];show ez n {A with ds:=A.ds++[d]} (Q f c none (l.flatMap Gg++R))=_
  rw[h,bq,aD,Nat.add_sub_add_right];rfl
def ND{u:fT}:∀(l:List cW)(n:Nat)(A:Pa)(sp:Cx)(R:List KT),(∀p∈l,bQ p.name=true/\∀x∈p.aT,Ug x)->l.length<=n->∃a,ez n A (Q f c sp (l.flatMap B5++R))=ez (n-l.length) {A with ps:=A.ps++l} (Q f c a R)
 |[],n,A,sp,R,_,_=>⟨sp,by simp⟩
 |d::l,0,A,sp,R,_,h=>by simp at h
 |d::l,n+1,A,sp,R,b,e=>by
  obtain⟨a,h⟩:=ND (u:=u) l n {A with ps:=A.ps++[d]} none R (fun x g=>b x (aV _ g)) (by simpa using e)
  refine⟨a,?_⟩;rw[eX,bq,ez,TG (b d aW)];show ez n {A with ps:=A.ps++[d]} (Q f c none (l.flatMap B5++R))=_
  rw[h,bq,aD,Nat.add_sub_add_right];rfl
end
def TH(h:Pz u)(sp:Cx)(b fi:Int)(d:Cx):Ad (nL sp (nU u)) b fi d=(u,0,0,some (0,0)):=by
 have z:u.aF.length+u.aB.length+1<=(nU u).length:=by
  have o:∀l:List cZ,l.length<=(l.flatMap Gg).length:=fun l=>by
   induction l with
   |nil=>simp
   |cons a l s=>simp only[eX,dC,aD,Gg];omega
  have p:∀l:List cW,l.length<=(l.flatMap B5).length:=fun l=>by
   induction l with
   |nil=>simp
   |cons a l s=>simp only[eX,dC,aD,B5];omega
  have:=o u.aF;have:=p u.aB;simp only[nU,B6,dC,aD];omega
 have e:∃n,ez ((nL sp (nU u)).length+2) ⟨b,fi,d,[],[],[],0,0⟩ (Q 0 (some (0,0)) sp (nU u))=(⟨b,fi,d,u.aF,u.aB,u.main,u.ch.kind,u.ch.data⟩,Q 0 (some (0,0)) n []):=by
  rw[kO];unfold nU;have w:jx (u.aB.flatMap B5++B6 u) 3 [124]=false:=by cases u.aB with|nil=>rfl|cons=>rfl
  obtain⟨v,g⟩:=NC (f:=0) (c:=some (0,0)) (u:=u) u.aF ((nU u).length+2) ⟨b,fi,d,[],[],[],0,0⟩ sp (u.aB.flatMap B5++B6 u) h.aF w (by omega)
  unfold nU at g;rw[g];obtain⟨m,i⟩:=ND (f:=0) (c:=some (0,0)) (u:=u) u.aB ((nU u).length+2-u.aF.length) ⟨b,fi,d,[]++u.aF,[],[],0,0⟩ v (B6 u) h.aB (by omega)
  unfold nU at i;rw[i];obtain⟨k,j⟩:∃k,(nU u).length+2-u.aF.length-u.aB.length=k+1+1:=⟨(nU u).length-u.aF.length-u.aB.length,by omega⟩
  unfold nU at j;rw[j];refine⟨none,?_⟩;rw[ez];show ez (k+1) (dg _ (Q 0 (some (0,0)) m (B6 u))).1 (dg _ (Q 0 (some (0,0)) m (B6 u))).2=_
  rw[Pb h rfl];rfl
 obtain⟨n,e⟩:=e;have y:ez ((nL sp (nU u)).length+2) ⟨b,fi,d,[],[],[],0,0⟩ ⟨nL sp (nU u),0,0,some (0,0)⟩=_:=e;unfold Ad;rw[y];have q:((u.main.length:Int)==0)=false:=by
  have:=h.mne;cases hq:u.main with
  |nil=>exact(this hq).elim
  |cons x t=>simp only[aD];rw[gk];omega
 unfold rS;simp only[q,af];rfl
end
section
set_option maxRecDepth 10000
inductive Lx:By->List KT->Prop
 |nil:Lx [] []
 |blank (c:UInt8) {t:By} {T:List KT}:gy c.toNat=true->Lx t T->Lx (c::t) T
 |tok (c:UInt8) {t x:By} {n:Nat} {k:Int} {T:List KT}:c≠47->gy c.toNat=false->jM (c::t)=some (k,n,x)->Lx ((c::t).drop n) T->Lx (c::t) ((k,x)::T)
def TI{c:UInt8}(h:gy c.toNat=true):c≠47:=by rintro rfl;simp[gy]at h
def DG(h:c≠47)(t:By):ee (c::t)=((runN gy (c::t):Int),true):=by
 have a:(47==c)=false:=by simpa using fun e=>h e.symm
 unfold ee;simp only[List.isPrefixOf,a,Bool.false_and,af]
def VJ(h:Lx s T):Lx (s.drop (runN gy s)) T:=by
 induction h with
 |nil=>exact .nil
 |blank c f _ g=>rw[runN,f,ai,sA];exact g
 |tok c b a d e _=>rw[runN,a,af,fK];exact .tok c b a d e
def Bz:∀(f:Nat)(s:By)(T:List KT)(a:Cx)(b:List Tok),Lx s T->s.length<f->∃sp,dm 0 f s a b = .ok (b++nL sp T)/\(a=none->sp=none)
 |0,_,_,_,_,_,h=>absurd h (jq _)
 |f+1,s,T,a,b,h,y=>by
  cases h with
  |nil=>exact⟨none,by simp[dm,nL],fun _=>rfl⟩
  |@blank c t T j v=>
   have g:=DG (TI j) t;have m:runN gy (c::t)=runN gy t+1:=by rw[runN,j];rfl
   have w:=VJ (Lx.blank c j v);have hlen:=gY (i:=runN gy (c::t)) (l:=c::t);obtain⟨sp,d,e⟩:=Bz f ((c::t).drop (runN gy (c::t))) T none b w (by simp only[aD]at*; omega)
   refine⟨sp,?_,fun _=>e rfl⟩
   rw[dm,show(c::t==[])=false from rfl,af,g]
   simp only[ai];rw[bw (by rw[m];omega),ai,toNat_cast]
   exact d
  |@tok c t x n k T d e o u=>
   have g:=DG d t;have m:runN gy (c::t)=0:=by rw[runN,e];rfl
   have z:=E2 (by simp) o
   have hlen:=gY (i:=n) (l:=c::t);obtain⟨sp,p,q⟩:=Bz f ((c::t).drop n) T none (b++[⟨k,x,0,a⟩]) u (by omega)
   refine⟨a,?_,id⟩;rw[dm,show(c::t==[])=false from rfl,af,g,m]
   simp only[ai];rw[bB (by decide),af]
   simp only[eB,af,o];rw[p,q rfl,bq];rfl
def ZA:By->Prop
 |[]=>True
 |c::_=>bS c.toNat=false
def xm(s:By)(T:List KT):Prop:=∀r R,Lx r R->Lx (s++r) (T++R)
def Pc(s:By)(T:List KT):Prop:=∀r R,ZA r->Lx r R->Lx (s++r) (T++R)
def Sp1(s:By):Prop:=∀r,ZA (s++r)
def xm.pc(h:xm s T):Pc s T:=fun r R _ a=>h r R a
def xm.app(h:xm s T)(c:xm b a):xm (s++b) (T++a):=fun r R d=>by
 rw[bq,bq];exact h _ _ (c r R d)
def xm.qx(h:xm s T)(c:Pc b a):Pc (s++b) (T++a):=fun r R e d=>by
 rw[bq,bq];exact h _ _ (c r R e d)
def Pc.app(h:Pc s T)(c:xm a b)(e:Sp1 a):xm (s++a) (T++b):=fun r R d=>by
 rw[bq,bq];exact h _ _ (e r) (c r R d)
def Pc.nil:Pc [] []:=fun _ _ _ h=>h
def xm.nil:xm [] []:=fun _ _ h=>h
def NF(h:gy c.toNat=true):xm [c] []:=fun r R a=>.blank c h a
def vV:∀{w r:By},w.all (fun c=>bS c.toNat)=true->ZA r->runN bS (w++r)=w.length
 |[],[],_,_=>rfl
 |[],c::r,_,a=>by
  have a:bS c.toNat=false:=a;rw[dP,runN,a];rfl
 |c::w,r,h,a=>by
  rw[bJ,cd]at h;rw[dt,runN,h.1,ai,vV h.2 a,aD]
def xV{c:UInt8}(h:bS c.toNat=true):gy c.toNat=false/\c≠47:=by
 refine⟨?_,by rintro rfl;simp[bS,dj,gQ]at h⟩
 cases hb:gy c.toNat with
 |false=>rfl
 |true=>
  have a:(c.toNat:Int)=32\/(c.toNat:Int)=9\/(c.toNat:Int)=10\/(c.toNat:Int)=13:=by
   simp only[gy,cond_eq_ite]at hb;simp at hb;omega
  rcases a with e|e|e|e<;>rw[e]at h<;>simp[bS,dj,gQ]at h
def lE(h:mo w=true):Pc w [wd w]:=by
 intro r R j i;cases w with
 |nil=>simp[mo]at h
 |cons c t=>
  have a:dj c.toNat=true/\(c::t).all (fun c=>bS c.toNat)=true:=by
   unfold mo at h;rw[show(c::t==[])=false from rfl,af]at h
   obtain⟨e,d⟩:=cn (b:=dj (UInt8.toNat ((c::t).getD 0 0):Int)) h;rw[F9]at d;exact⟨e,d⟩
  have g:bS c.toNat=true:=by rw[bS,a.1];rfl
  obtain⟨f,k⟩:=xV g;have l:=vV a.2 j;refine .tok c (t:=t++r) (n:=(c::t).length) k f ?_ ?_
  .unfold jM
   rw[show dj (UInt8.toNat ((c::(t++r)).getD 0 0):Int)=true from a.1,ai,show runN bS (c::(t++r))=(c::t).length from l]
   rw[show take (c::t).length (c::(t++r))=c::t by rw[<-dt];simp]
  .rw[<-dt,List.drop_left];exact i
def NG{c:UInt8}(h:gQ c.toNat=true):dj c.toNat=false/\bS c.toNat=true:=by
 have b:48<=(c.toNat:Int)/\(c.toNat:Int)<=57:=by simp[gQ,cond_eq_ite]at h;omega
 have a:dj c.toNat=false:=by
  unfold dj;simp[cond_eq_ite];omega
 exact⟨a,by rw[bS,a,h];rfl⟩
def XP(g:0<=m/\m<18446744073709551616):Pc (py m) [nu m]:=by
 intro r R k j;have a:=xl 20 m;have i:=Ge g;have q:nu m=(2,py m):=rfl;rw[q];have p:=NA 20 m;unfold py at*;generalize v:px 20 m=w at*;cases w with
 |nil=>exact(p rfl).elim
 |cons c t=>
  have b:gQ c.toNat=true:=by rw[bJ,cd]at a;exact a.1
  have s:(c::t).all (fun c=>bS c.toNat)=true:=bf.2 fun x l=>(NG (bf.1 a x l)).2
  obtain⟨f,e⟩:=NG b;obtain⟨d,o⟩:=xV e;have u:=vV s k;refine .tok c (t:=t++r) (n:=(c::t).length) o d ?_ ?_
  .unfold jM
   rw[show dj (UInt8.toNat ((c::(t++r)).getD 0 0):Int)=false from f,af,show gQ (UInt8.toNat ((c::(t++r)).getD 0 0):Int)=true from b,ai,show runN bS (c::(t++r))=(c::t).length from u]
   rw[show take (c::t).length (c::(t++r))=c::t by rw[<-dt];simp,i]
   rfl
  .rw[<-dt,List.drop_left];exact j
def TJ:Pc bW [(5,bW)]:=by
 intro r R b a;have c:runN bS ([100,101,102,105,110,101]++r)=6:=vV (w:=[100,101,102,105,110,101]) rfl b;refine .tok 35 (t:=[100,101,102,105,110,101]++r) (n:=7) (T:=R) (by decide) rfl ?_ (by rw[show drop 7 (35::([100,101,102,105,110,101]++r))=r by simp];exact a)
 have e:jM (35::([100,101,102,105,110,101]++r))=(qF (35::([100,101,102,105,110,101]++r))).map fun n=>(5,n,(35::([100,101,102,105,110,101]++r)).take n):=rfl
 rw[e];unfold qF;rw[show(35::([100,101,102,105,110,101]++r):By).drop 1=[100,101,102,105,110,101]++r from rfl,c]
 rfl
def Gi{r:By}(a:c∈([123,125,40,41,44,33,38,124,60,62]:By))(f:gh ((c::r).take 2) lk=false)(g:Lx r R):Lx (c::r) (sg [c]::R):=by
 have d:jX (c::r)=1:=by
  unfold jX;rw[f];have:decide (indexB (UInt8.toNat ((c::r).getD 0 0):Int) rO>=0)=true:=by
   simp only[aY,lN,or_false]at a;rcases a with rfl|rfl|rfl|rfl|rfl|rfl|rfl|rfl|rfl|rfl<;>rfl
  rw[this];cases decide (((c::r).length:Int)>1)<;>rfl
 have b:jM (c::r)=some (3,jX (c::r),(c::r).take (jX (c::r))):=by
  have:decide ((jX (c::r):Int)>0)=true:=by rw[d];rfl
  unfold jM;rw[this];simp only[aY,lN,or_false]at a;rcases a with rfl|rfl|rfl|rfl|rfl|rfl|rfl|rfl|rfl|rfl<;>rfl
 have e:c≠47/\gy c.toNat=false:=by
  simp only[aY,lN,or_false]at a;rcases a with rfl|rfl|rfl|rfl|rfl|rfl|rfl|rfl|rfl|rfl<;>exact⟨by decide,rfl⟩
 rw[d]at b;exact .tok c e.1 e.2 b g
def VK(h:[a,b]∈lk)(e:Lx r R):Lx (a::b::r) (sg [a,b]::R):=by
 simp only[lk,aY,lN,or_false,ux,and_true]at h;rcases h with⟨rfl,rfl⟩|⟨rfl,rfl⟩|⟨rfl,rfl⟩|⟨rfl,rfl⟩|⟨rfl,rfl⟩|⟨rfl,rfl⟩
 all_goals
  refine .tok _ (t:=_::r) (n:=2) (by decide) rfl ?_ (show Lx r R from e)
  have c:decide (((2+r.length:Nat):Int)>1)=true:=bw (by omega)
  have f:∀x y:UInt8,gh [x,y] lk=true->jX (x::y::r)=2:=fun x y d=>by
   unfold jX;rw[show(x::y::r).length=2+r.length by simp only[aD];omega,c,show take 2 (x::y::r)=[x,y]from rfl,d]
   rfl
  unfold jM;rw[f _ _ rfl];rfl
def ot(a:c∈([123,125,40,41,44]:By)):xm [c] [sg [c]]:=fun r R b=>by
 refine Gi (ef [33,38,124,60,62] a) ?_ b;simp only[aY,lN,or_false]at a;cases r with
 |nil=>rcases a with rfl|rfl|rfl|rfl|rfl<;>rfl
 |cons d t=>rcases a with rfl|rfl|rfl|rfl|rfl<;>(simp[gh,lk])
def uq:xm [32] []:=NF rfl
def ZB:xm [10] []:=NF rfl
def su(t:By):Sp1 (32::t):=fun _=>rfl
def TL(h:o∈ops\/o=[38]\/o=[124]\/o=[38,38]\/o=[124,124]):xm ([32]++o++[32]) [sg o]:=by
 intro r R i;have e:Lx (32::r) R:=.blank 32 rfl i;have one:∀c:UInt8,c∈([123,125,40,41,44,33,38,124,60,62]:By)->gh [c,32] lk=false->Lx (32::c::32::r) (sg [c]::R):=fun c f g=>.blank 32 rfl (Gi f g e)
 have d:∀a b:UInt8,[a,b]∈lk->Lx (32::a::b::32::r) (sg [a,b]::R):=fun a b h=>.blank 32 rfl (VK h e)
 rcases h with h|rfl|rfl|rfl|rfl
 .simp only[ops,aY,lN,or_false]at h
  rcases h with rfl|rfl|rfl|rfl|rfl|rfl
  .exact d 61 61 (by decide)
  .exact d 33 61 (by decide)
  .exact one 60 (by decide) rfl
  .exact d 60 61 (by decide)
  .exact one 62 (by decide) rfl
  .exact d 62 61 (by decide)
 .exact one 38 (by decide) rfl
 .exact one 124 (by decide) rfl
 .exact d 38 38 (by decide)
 .exact d 124 124 (by decide)
def jd(h:bQ n=true):mo n=true:=(cn (b:=mo n) h).1
def Prim.pc(h:Prim e):Pc (cU e) (cI e):=by
 cases h with
 |num m a=>exact XP a
 |name n b=>exact lE (jd b)
def I6.pc(h:I6 e):Pc (cU e) (cI e):=by
 induction h with
 |VA h=>exact h.pc
 |@bits x y _ a b=>
  have:=(b.app (TL (o:=[124]) (by simp)) (su _)).qx a.pc
  simpa[cU,cI]using this
def Gc.pc(h:Gc e):Pc (cU e) (cI e):=by
 cases h with
 |name n a=>exact lE (jd a)
 |@mask n x a b=>
  have:=((lE (jd a)).app (TL (o:=[38]) (by simp)) (su _)).qx b.pc
  simpa[cU,cI]using this
def B4.start(h:B4 e):∃c t,cU e=c::t/\c≠61:=by
 cases h with
 |or _ _=>exact⟨40,_,rfl,by decide⟩
 |and _ _=>exact⟨40,_,rfl,by decide⟩
 |not _=>exact⟨33,_,rfl,by decide⟩
 |@cmp o x y _ g _=>
  have f:∃n t,bQ n=true/\cU x=n++t:=by
   cases g with
   |name n a=>exact⟨n,[],a,by simp[cU]⟩
   |mask n a _=>exact⟨n,_,a,by simp only[cU];rw[bq];rfl⟩
  obtain⟨n,t,a,d⟩:=f;have b:=jd a;cases n with
  |nil=>simp[mo]at b
  |cons c n=>
   refine⟨c,n++(t++([32]++o++[32]++cU y)),by simp[cU,d],?_⟩
   rintro rfl;unfold mo at b;simp[dj]at b
def B4.pc(h:B4 e):Pc (cU e) (cI e):=by
 induction h with
 |@or x y _ _ b d=>
  have:=(((ot (c:=40) (by decide)).qx b).app (TL (o:=[124,124]) (by simp)) (su _)).qx d
  have:=(this.app (ot (c:=41) (by decide)) (fun _=>rfl)).pc
  simpa[cU,cI]using this
 |@and x y _ _ b d=>
  have:=(((ot (c:=40) (by decide)).qx b).app (TL (o:=[38,38]) (by simp)) (su _)).qx d
  have:=(this.app (ot (c:=41) (by decide)) (fun _=>rfl)).pc
  simpa[cU,cI]using this
 |@not x a n=>
  intro r R l k;have f:=n r R l k;obtain⟨c,t,i,g⟩:=a.start;show Lx (33::(cU x++r)) (sg [33]::(cI x++R))
  refine Gi (by decide) ?_ f
  rw[i];have:c≠61:=g;simp[gh,lk,this]
 |@cmp o x y j a m=>
  have:=(a.pc.app (TL (o:=o) (.inl j)) (su _)).qx m.pc;simpa[cU,cI]using this
def TM:∀(l:List (By×List KT)),(∀p∈l,Pc p.1 p.2)->Pc (l7 [44,32] (l.map (·.1))) (vT (l.map (·.2)))
 |[],_=>Pc.nil
 |p::l,h=>by
  have g:=h p aW;have key:∀(l:List (By×List KT)),(∀p∈l,Pc p.1 p.2)->Pc ((l.map (·.1)).flatMap fun y=>[44,32]++y) ((l.map (·.2)).flatMap fun y=>sg [44]::y):=by
   intro l;induction l with
   |nil=>intro _;exact Pc.nil
   |cons q l i=>
    intro h;have e:=(((ot (c:=44) (by decide)).app uq).qx (h q aW))
    have f:=i fun z d=>h z (aV _ d)
    have:Pc (([44]++[32]++q.1)++((l.map (·.1)).flatMap fun y=>[44,32]++y)) (([sg [44]]++[]++q.2)++((l.map (·.2)).flatMap fun y=>sg [44]::y)):=by
     intro r R a b;rw[bq ([44]++[32]++q.1),bq ([sg [44]]++[]++q.2)];refine e _ _ ?_ (f r R a b);cases l with
     |nil=>exact a
     |cons z l=>rfl
    simpa using this
  intro r R a b;have k:=key l fun z d=>h z (aV _ d)
  have:=g _ _ (by
   cases l with
   |nil=>exact a
   |cons z l=>rfl) (k r R a b)
  simpa[l7,vT]using this
def TN(l:List (By×List KT))(h:∀p∈l,Pc p.1 p.2):xm (pz (l.map (·.1))) (nN (l.map (·.2))):=by
 have a:xm ([32]++[125]) ([]++[sg [125]]):=uq.app (ot (by decide))
 cases l with
 |nil=>exact(ot (c:=123) (by decide)).app a
 |cons p l=>
  have d:=(((ot (c:=123) (by decide)).app uq).qx (TM (p::l) h)).app a (su _)
  have e:pz ((p::l).map (·.1))=[123]++[32]++l7 [44,32] ((p::l).map (·.1))++([32]++[125]):=by
   unfold pz;rw[show((((p::l).map (·.1)).length:Int)==0)=false by rw[gk];simp only[bG,aD];omega]
   rfl
  rw[e];have b:nN ((p::l).map (·.2))=[sg [123]]++[]++vT ((p::l).map (·.2))++([]++[sg [125]]):=by simp[nN]
  rw[b];exact d
def NH(h:∀x∈l,bQ x=true):Pc (l7 [44,32] l) (nM l):=by
 have:=TM (l.map fun x=>(x,[wd x])) fun p c=>by
  obtain⟨x,d,rfl⟩:=bh.1 c;exact lE (jd (h x d))
 rw[dW,dW]at this;have a:l.map ((fun p:By×List KT=>p.1)∘fun x=>(x,[wd x]))=l:=(sB fun x _=>rfl).trans (List.map_id l)
 have b:vT (l.map ((fun p:By×List KT=>p.2)∘fun x=>(x,[wd x])))=nM l:=by
  cases l with
  |nil=>rfl
  |cons x t=>simp[vT,nM,List.flatMap_map]
 rw[a,b]at this;exact this
def Pd{k:Int}(b:1<=k)(c:k<=7):mo (fB.getD k.toNat [])=true:=by
 have a:k=1\/k=2\/k=3\/k=4\/k=5\/k=6\/k=7:=by omega
 rcases a with rfl|rfl|rfl|rfl|rfl|rfl|rfl<;>rfl
def Jb(h:(cg a).2=true):Pc (nJ a) (uo a):=by
 obtain⟨f,g,d,i,-⟩:=Gb h;have b:=lE (Pd f g);unfold nJ uo;cases hb:(bif decide (a.kind>=3)then decide (a.kind<=5)else false)
 .exact b
 .have e:=((b.app (ot (c:=40) (by decide)) (fun _=>rfl)).qx (XP ⟨d,by omega⟩)).app (ot (c:=41) (by decide)) (fun _=>rfl)
  have:=e.pc;simpa using this
def ZC(h:XO r):Pc (iR r) (yb r):=by
 have b:=lE (jd h.call);have f:Pc (nK r) (wd r.call::DF r.params):=by
  unfold nK;have g:=h.params;cases hq:r.params with
  |nil=>exact b
  |cons x t=>
   rw[hq]at g;have j:=((b.app (ot (c:=40) (by decide)) (fun _=>rfl)).qx (NH g)).app (ot (c:=41) (by decide)) (fun _=>rfl)
   rw[bw (by simp only[aD];omega),ai]
   have:=j.pc;simpa[DF]using this
 rcases h.cond with i|⟨e,d,k,_⟩
 .have a:iR r=nK r:=by rw[iR,i]
  rw[a,yb,i];simpa[I9]using f
 .have a:iR r=nK r++[32,123,32]++cU e++[32,125]:=by rw[iR,d]
  have l:xm [32,123,32] [sg [123]]:=(uq.app (ot (c:=123) (by decide))).app uq
  have m:xm [32,125] [sg [125]]:=uq.app (ot (c:=125) (by decide))
  have:=(((f.app l (su _)).qx k.pc).app m (su _)).pc;rw[a,yb,d];simpa[I9]using this
def ZD(h:Ug p):Pc (gr p) (tf p):=by
 unfold gr tf;cases hu : !(p.use==[])
 .have a:p.use=[]:=by simpa using hu
  have b:=(Jb (h.act a)).app uq (su _);have c:=TN (p.bk.map fun r=>(iR r,yb r)) fun q d=>by
   obtain⟨r,e,rfl⟩:=bh.1 d;exact ZC (h.bk r e)
  rw[dW,dW]at c;have:=(b.app c).pc;simpa[Function.comp_def]using this
 .have a:p.use≠[]:=by simpa using hu
  have b:=(lE (w:=gi) rfl).app uq (su _);have:=b.qx (lE (jd (h.use a).1));simpa[gi]using this
def acv(h:bQ d.name=true/\I6 d.ex):xm (mm d) (Gg d):=by
 have a:=(TJ.app uq (su _)).qx (lE (jd h.1));have b:=((a.app uq (su _)).qx h.2.pc).app ZB (fun _=>rfl)
 simpa[mm,Gg,bW]using b
def acw(h:bQ p.name=true/\∀x∈p.aT,Ug x):xm (kN p) (B5 p):=by
 have b:=((lE (w:=dp) rfl).app uq (su _)).qx (lE (jd h.1));have a:=TN (p.aT.map fun x=>(gr x,tf x)) fun q d=>by
  obtain⟨x,e,rfl⟩:=bh.1 d;exact ZD (h.2 x e)
 rw[dW,dW]at a;have c:=((b.app uq (su _)).app a).app ZB;simpa[kN,B5,dp,Function.comp_def]using c
def ZE(h:Pz u):xm (lD u) (B6 u):=by
 have a:=((lE (w:=gi) rfl).app uq (su _)).qx (NH h.main);have b:=((a.app uq (su _)).qx (lE (w:=fP) rfl)).app uq (su _);have c:=(b.qx (Jb h.act)).app ZB (fun _=>rfl)
 simpa[lD,B6,gi,fP]using c
def Lv{p:α->By}{t:α->List KT}:∀(l:List α),(∀x∈l,xm (p x) (t x))->xm (l.flatMap p) (l.flatMap t)
 |[],_=>xm.nil
 |x::l,h=>by
  rw[eX,eX];exact(h x aW).app (Lv l fun y a=>h y (aV _ a))
def ZF(h:Pz u):Lx (fC u) (nU u):=by
 have:=((Lv u.aF fun d a=>acv (h.aF d a)).app (Lv u.aB fun p b=>acw (h.aB p b))).app (ZE h)
 have:=this [] [] .nil;simpa[fC,nU]using this
def jz(T:List KT):Prop:=∀p∈T,p.1=5->p.2=bW
def jz.app{S T:List KT}(h:jz S)(b:jz T):jz (S++T):=fun p a=>by
 rcases bp.1 a with a|a
 .exact h p a
 .exact b p a
def jz.cons(h:x.1=5->x.2=bW)(b:jz T):jz (x::T):=fun p a=>by
 rcases aY.1 a with rfl|a
 .exact h
 .exact b p a
def jz.nil:jz []:=fun _ h=>by simp at h
def noE:∀e:Ex,jz (cI e)
 |.mk k o n m []=>by unfold cI;cases k==7<;>exact .cons (by intro h;simp at h) .nil
 |.mk k o n m [x]=>by
  have:=noE x;unfold cI;cases k==3
  .exact .cons (by intro h;simp at h) (.cons (by intro h;simp at h) this)
  .exact .cons (by intro h;simp at h) this
 |.mk k o n m [x,y]=>by
  have a:=noE x;have b:=noE y;unfold cI;cases k==1
  .cases k==2
   .cases k==4<;>exact a.app (.cons (by intro h;simp at h) b)
   .exact .cons (by intro h;simp at h) (a.app (.cons (by intro h;simp at h) (b.app (.cons (by intro h;simp at h) .nil))))
  .exact .cons (by intro h;simp at h) (a.app (.cons (by intro h;simp at h) (b.app (.cons (by intro h;simp at h) .nil))))
 |.mk k o n m (_::_::_::_)=>by unfold cI;cases k==7<;>exact .cons (by intro h;simp at h) .nil
def BA:∀(l:List α),(∀x∈l,jz (t x))->jz (l.flatMap t)
 |[],_=>.nil
 |x::l,h=>by rw[eX];exact(h x aW).app (BA l fun y a=>h y (aV _ a))
def acy:∀l:List By,jz (nM l)
 |[]=>.nil
 |x::t=>.cons (by intro h;simp at h) (BA t fun y _=>.cons (by intro h;simp at h) (.cons (by intro h;simp at h) .nil))
def noA(a:Act):jz (uo a):=by
 unfold uo;refine .cons (by intro h;simp at h) ?_
 cases(bif decide (a.kind>=3)then decide (a.kind<=5)else false)
 .exact .nil
 .exact .cons (by intro h;simp at h) (.cons (by intro h;simp at h) (.cons (by intro h;simp at h) .nil))
def acz:∀l:List (List KT),(∀T∈l,jz T)->jz (nN l)
 |[],_=>.cons (by intro h;simp at h) (.cons (by intro h;simp at h) .nil)
 |x::l,h=>by
  unfold nN vT;exact .cons (by intro h;simp at h) (((h x aW).app (BA l fun y a=>.cons (by intro h;simp at h) (h y (aV _ a)))).app (.cons (by intro h;simp at h) .nil))
def noR(r:gP):jz (yb r):=by
 unfold yb;refine .cons (by intro h;simp at h) (jz.app ?_ ?_)
 .cases r.params with
  |nil=>exact .nil
  |cons x t=>exact .cons (by intro h;simp at h) ((acy _).app (.cons (by intro h;simp at h) .nil))
 .cases r.cond with
  |nil=>exact .nil
  |cons e t=>exact .cons (by intro h;simp at h) ((noE e).app (.cons (by intro h;simp at h) .nil))
def noP(p:cQ):jz (tf p):=by
 unfold tf;cases !(p.use==[])
 .exact(noA _).app (acz _ fun T a=>by obtain⟨r,_,rfl⟩:=bh.1 a;exact noR r)
 .exact .cons (by intro h;simp at h) (.cons (by intro h;simp at h) .nil)
def noU(u:fT):jz (nU u):=by
 unfold nU;refine(BA _ fun d _=>?_).app ((BA _ fun p _=>?_).app ?_)
 .exact .cons (fun _=>rfl) (.cons (by intro h;simp at h) (noE _))
 .exact .cons (by intro h;simp at h) (.cons (by intro h;simp at h) (acz _ fun T a=>by obtain⟨x,_,rfl⟩:=bh.1 a;exact noP x))
 .exact .cons (by intro h;simp at h) ((acy _).app (.cons (by intro h;simp at h) (noA _)))
def xW:∀(T:List KT)(sp:Cx)(x:Wv),jz T->ik rec l (nL sp T) false x=some (.ok {x with fq:=x.fq++nL sp T,stack:=x.stack.dropLast})
 |[],sp,x,_=>by simp[nL,ik]
 |(k,t)::T,sp,x,h=>by
  simp only[nL];unfold ik;have a:(bif(k !=5)then true else !(t==ju))=true:=by
   cases hk:k !=5
   .have:k=5:=by simpa using hk
    have:=h (k,t) aW this;have:t=bW:=this;rw[this];rfl
   .rfl
  rw[show(Tok.mk k t 0 sp).kind=k from rfl,show(Tok.mk k t 0 sp).text=t from rfl,a,ai,xW T none _ fun p b=>h p (aV _ b)]
  simp
def VL(h:Pz u)(e:(fC u).length<=20000):vP [⟨[117],fC u⟩] [117]=some (u,0,0,some (0,0)):=by
 have b:fF [⟨[117],fC u⟩] [117]=(0,true):=rfl;obtain⟨sp,a,_⟩:=Bz ((fC u).length+1) (fC u) (nU u) xA [] (ZF h) (by omega)
 rw[dP]at a;have d:jN (fC u) 0 = .ok (nL sp (nU u)):=by
  unfold jN;rw[bB (by omega),af,a]
 have c:nH [⟨[117],fC u⟩] [117]=some (.ok (nL sp (nU u))):=by
  unfold nH;rw[b];simp only[eB,af];rw[iP];simp only[show([⟨[117],fC u⟩]:List Fl)[toNat 0]?=some ⟨[117],fC u⟩from rfl,d]
  rw[xW _ _ _ (noU u)];simp
 unfold vP;rw[c];simp only;rw[TH h]
def Pe(d:20000<t.length):∃e,vP [⟨[117],t⟩] [117]=some (⟨[],[],[],⟨0,0⟩⟩,e)/\e.1=9:=by
 have a:fF [⟨[117],t⟩] [117]=(0,true):=rfl;have c:jN t 0 = .error (9,xA):=by
  unfold jN;rw[bw (by omega),ai]
 have b:nH [⟨[117],t⟩] [117]=some (.error (9,0,xA)):=by
  unfold nH;rw[a];simp only[eB,af];rw[iP];simp only[show([⟨[117],t⟩]:List Fl)[toNat 0]?=some ⟨[117],t⟩from rfl,c]
 unfold vP;rw[b];exact⟨_,rfl,rfl⟩
end
mutual
def tg:Ex->Prop|.mk _ _ _ n l=>(0<=n/\n<18446744073709551616)/\Pf l
def Pf:List Ex->Prop|[]=>True|x::t=>tg x/\Pf t
end
structure Rng (u:fT):Prop where
 aF:∀d∈u.aF,tg d.ex
 aB:∀p∈u.aB,∀x∈p.aT,∀r∈x.bk,∀e∈r.cond,tg e
def Gj(h:fG e=true)(a:tg e):Prim e:=by
 unfold fG at h;cases h1:fw e<;>rw[h1]at h
 .cases h2:eo e<;>rw[h2]at h
  .simp at h
  .obtain⟨n,rfl⟩:=o9 h2
   exact .name n h
 .obtain⟨m,rfl⟩:=CH h1
  exact .num m a.1
def Lw:∀(d:Nat)(e:Ex),bL e<=d->gB e=true->tg e->I6 e
 |0,e,h,_,_=>by rw[cO]at h;omega
 |d+1,e,h,a,c=>by
  obtain⟨k,o,n,m,l⟩:=e;cases hk:k==8
  .rw[yF hk]at a
   exact .VA (Gj a c)
  .obtain rfl:k=8:=bZ hk
   cases h2:ea (.mk 8 o n m l)
   .rw[KW h2]at a;simp at a
   .obtain⟨k,x,y,f,-⟩:=mP h2
    simp only[Ex.mk.injEq]at f;obtain⟨rfl,rfl,rfl,rfl,rfl⟩:=f;have g:(bif fG y then gB x else false)=true:=by
     have:gB (.mk 8 [] [] 0 [x,y])=(bif fG y then gB x else false):=by simp only[gB,h2];rfl
     rw[<-this];exact a
    obtain⟨i,j⟩:=cn (b:=fG y) g;exact .bits (Lw d x (by simp only[bL,cy]at h;omega) j c.2.1) (Gj i c.2.2.1)
def VM(h:j8 e=true)(d:tg e):Gc e:=by
 unfold j8 at h;cases h1:eo e<;>rw[h1]at h
 .cases h2:iK e<;>rw[h2]at h
  .simp at h
  .obtain⟨n,x,rfl⟩:=wP h2
   obtain⟨a,c⟩:=cn (b:=bQ (Ex.mk 6 [] n 0 [x]).name) h;exact .mask n a (Gj c d.2.1)
 .obtain⟨n,rfl⟩:=o9 h1
  exact .name n h
def Gk:∀(d:Nat)(e:Ex),bL e<=d->cz e=true->tg e->B4 e
 |0,e,h,_,_=>by rw[cO]at h;omega
 |d+1,e,h,a,f=>by
  obtain⟨k,o,n,m,l⟩:=e;match l,a,f,h with
  |[],a,_,_=>simp[cz]at a
  |[x],a,f,h=>
   unfold cz at a;obtain⟨j,p⟩:=cn (b:=k==3) a;obtain⟨g,i⟩:=cn (b:=fY (.mk k o n m [x])) p;obtain⟨z,c⟩:=wQ g;simp only[Ex.mk.injEq,ux,and_true]at c;obtain⟨rfl,rfl,rfl,rfl,rfl⟩:=c;exact .not (Gk d x (by simp only[bL,cy]at h;omega) i f.2.1)
  |[x,y],a,f,h=>
   have w:bL x<=d:=by simp only[bL,cy]at h;omega
   have r:bL y<=d:=by simp only[bL,cy]at h;omega
   unfold cz at a;cases hk:(bif k==1 then true else k==2)<;>rw[hk]at a
   .simp only[af]at a
    obtain⟨j,p⟩:=cn (b:=k==4) a;obtain⟨g,i⟩:=cn (b:=iL (.mk k o n m [x,y])) p;obtain⟨q,s⟩:=cn (b:=gh o ops) i;obtain⟨u,v⟩:=cn (b:=j8 x) s;obtain⟨o',D,E,c⟩:=sV g;simp only[Ex.mk.injEq,ux,and_true]at c;obtain⟨rfl,rfl,rfl,rfl,rfl,rfl⟩:=c;exact .cmp o (by simpa[gh]using q) (VM u f.2.1) (Lw _ y (ar _) v f.2.2.1)
   .simp only[ai]at a
    obtain⟨g,i⟩:=cn (b:=ea (.mk k o n m [x,y])) a;obtain⟨q,s⟩:=cn (b:=cz x) i;obtain⟨G,D,E,c,-⟩:=mP g;simp only[Ex.mk.injEq,ux,and_true]at c;obtain⟨rfl,rfl,rfl,rfl,rfl,rfl⟩:=c;have bx:=Gk d x w q f.2.1;have t:=Gk d y r s f.2.2.1;cases j:k==1<;>rw[j]at hk
    .obtain rfl:k=2:=bZ hk
     exact .and bx t
    .obtain rfl:k=1:=bZ j
     exact .or bx t
  |_::_::_::_,a,_,_=>simp[cz]at a
def VN(h:lX r=true)(k:∀e∈r.cond,tg e):XO r:=by
 unfold lX at h;obtain⟨f,a⟩:=cn (b:=bQ r.call) h;cases h3 : !(r.params.all bQ)<;>rw[h3]at a
 .simp only[af]at a
  cases c:decide ((r.cond.length:Int)>1)<;>rw[c]at a
  .refine⟨f,fun x l=>bf.1 (show r.params.all bQ=true by simpa using h3) x l,?_⟩
   have c:=bI c;have g:=bf.1 a;match hc:r.cond with
   |[]=>exact .inl rfl
   |[e]=>
    have i:=g e (by rw[hc];simp)
    obtain⟨j,d⟩:=cn (b:=cz e) i;have d:=aU d;exact .inr ⟨e,rfl,Gk _ e (ar _) j (k e (by rw[hc];simp)),by omega⟩
   |_::_::_=>rw[hc]at c;simp only[aD]at c;omega
  .simp at a
 .simp at a
def VO(h:kW p=true)(n:∀r∈p.bk,∀e∈r.cond,tg e):Ug p:=by
 unfold kW at h;cases a : !(p.use==[])<;>rw[a]at h
 .have a:p.use=[]:=by simpa using a
  obtain⟨f,g⟩:=cn (b:=(cg p.act).2) h;exact⟨fun i=>(i a).elim,fun _=>f,fun r c=>VN (bf.1 g r c) (n r c)⟩
 .have a:p.use≠[]:=by simpa using a
  obtain⟨f,g⟩:=cn (b:=bQ p.use) h;obtain⟨j,m⟩:=cn (b:=((true&&(p.act.kind==0))&&(p.act.data==0))) g;have l:p.bk=[]:=ir.1 (by have:=bZ m;omega)
  refine⟨fun _=>⟨f,?_,l⟩,fun i=>(a i).elim,fun r c=>by rw[l]at c;simp at c⟩
  simp only[Bool.true_and,cd,beq_iff_eq]at j;obtain⟨use,⟨k,d⟩,bk⟩:=p;obtain⟨rfl,rfl⟩:=j;rfl
def NI(h:jm u=true)(j:Rng u):Pz u:=by
 unfold jm at h;obtain⟨l,m⟩:=cn (b:=u.aF.all Ag) h;obtain⟨n,o⟩:=cn (b:=bif u.aB.all wR then decide ((u.main.length:Int)>0)else false) m;obtain⟨q,f⟩:=cn (b:=u.aB.all wR) n;obtain⟨t,v⟩:=cn (b:=u.main.all bQ) o;refine⟨fun d g=>?_,fun p i=>?_,fun e=>by rw[e]at f;simp at f,fun s w=>bf.1 t s w,v⟩
 .obtain⟨a,c⟩:=cn (b:=bQ d.name) (bf.1 l d g)
  exact⟨a,Lw _ _ (ar _) c (j.aF d g)⟩
 .obtain⟨a,c⟩:=cn (b:=bQ p.name) (bf.1 q p i)
  exact⟨a,fun x k=>VO (bf.1 c x k) (j.aB p i x k)⟩
def Jc:∀(l:List gP)(n m:Int),(∀r∈l,XO r)->oo l n=some m->∀r∈l,PrR r
 |[],_,_,_,_=>by simp
 |r::t,n,m,g,h=>by
  unfold oo at h;obtain⟨i,h⟩:=vR h;obtain⟨j,h⟩:=vR h;obtain⟨k,h⟩:=vR h;obtain⟨o,-⟩:=Bp i;obtain⟨p,-⟩:=Bp o;obtain⟨c,d⟩:=Bp p;have c:=pw c;have d:=pw d;have v:=Jc t _ m (fun r w=>g r (aV _ w)) h
  intro x b;rcases aY.1 b with rfl|b
  .refine⟨by omega,by omega,s9 (by simpa using j),fun e a=>?_⟩
   obtain⟨q,s⟩:=yM (bf.1 (show x.cond.all qQ=true by simpa using k) e a)
   refine⟨?_,s,q⟩;rcases(g x b).cond with f|⟨z,f,u,-⟩<;>rw[f]at a
   .simp at a
   .simp at a;subst a;exact u.g
  .exact v x b
def Jd:∀(l:List cQ)(n m:Int),(∀x∈l,Ug x)->oq l n=some m->∀x∈l,PrP x
 |[],_,_,_,_=>by simp
 |p::t,n,m,d,h=>by
  unfold oq at h;obtain⟨b,h⟩:=vR h;obtain⟨c,h⟩:=vR h;have b:=pw b;have c:=pw c;obtain⟨k,f,g⟩:=cV.1 h;have i:=Jd t _ m (fun r j=>d r (aV _ j)) g
  intro x a;rcases aY.1 a with rfl|a
  .have e:=d x aW
   exact⟨by omega,by omega,Jc _ _ _ e.bk f,e.act⟩
  .exact i x a
def Je:∀(l:List cW)(n m:Int),(∀p∈l,∀x∈p.aT,Ug x)->my l n=some m->∀p∈l,p.name.length<=60/\p.aT.length<=12/\∀x∈p.aT,PrP x
 |[],_,_,_,_=>by simp
 |p::t,n,m,d,h=>by
  unfold my at h;obtain⟨b,h⟩:=vR h;obtain⟨c,h⟩:=vR h;have b:=pw b;have c:=pw c;obtain⟨k,e,f⟩:=cV.1 h;have g:=Je t _ m (fun r i=>d r (aV _ i)) f
  intro x a;rcases aY.1 a with rfl|a
  .exact⟨by omega,by omega,Jd _ _ _ (d x aW) e⟩
  .exact g x a
def NJ(h:xi u=true)(a:Pz u):Z4 u:=by
 unfold xi at h;cases h1:(bif(bif decide ((u.aF.length:Int)>12)then true else decide ((u.aB.length:Int)>8))then true else decide ((u.main.length:Int)>8))<;>rw[h1]at h
 .obtain⟨i,c⟩:=Bp h1
  obtain⟨e,f⟩:=Bp i;have c:=pw c;have e:=pw e;have f:=pw f;cases h6 : !u.aF.all Bo<;>rw[h6]at h
  .cases h7 : !u.main.all iQ<;>rw[h7]at h
   .simp only[af]at h
    obtain⟨m,j⟩:=uH.1 h;refine⟨by omega,fun d g=>?_,by omega,Je _ _ _ (fun p n=>(a.aB p n).2) j,by omega,s9 (by simpa using h7),a.act⟩
    obtain⟨k,o⟩:=cn (b:=qQ d.ex) (bf.1 (show u.aF.all Bo=true by simpa using h6) d g)
    obtain⟨q,s⟩:=yM k;have t:=s9 (l:=[d.name]) (by simp[o]) d.name (by simp)
    exact⟨t,(a.aF d g).2.g,s,q⟩
   .simp at h
  .simp at h
 .simp at h
def Ly(a:List cZ)(ps:List By)(e:Ex):ew (jh a ps e).1=1:=by
 have f:∀i o m y,ew (oE a i o m y).1=1:=fun i o m y=>by
  unfold oE;cases(ck a y).2 !=0<;>rfl
 obtain⟨k,o,n,m,l⟩:=e;match l with
 |[]=>rfl
 |[_]=>rfl
 |x::y::t=>
  have e:jh a ps (.mk k o n m (x::y::t))=bif decide (idx (x.name == ·) ps<0)then(wU,7)else
   bif x.kind==6 then(bif(ck a (lx x 0)).2 !=0 then(wU,(ck a (lx x 0)).2)else oE a (idx (x.name == ·) ps) (U4 o) (ck a (lx x 0)).1 y)else oE a (idx (x.name == ·) ps) (U4 o) 18446744073709551615 y:=rfl
  rw[e];cases decide (idx (x.name == ·) ps<0)
  .cases x.kind==6
   .exact f ..
   .cases(ck a (lx x 0)).2 !=0
    .exact f ..
    .rfl
  .rfl
def BB:∀(a b:List Cn),ep (a++b)=ep a+ep b
 |[],b=>by simp[ep]
 |x::a,b=>by simp[ep,BB a b];omega
mutual
theorem BC(a:List cZ)(ps:List By):∀e:Ex,(ew (dS a ps e).1:Int)<=dB e
 |.mk k o n v l=>by
  unfold dS;cases k==4
  .have:=BD a ps l [] (bif k==1 then 4 else bif k==2 then 3 else 2)
   simp only[af,dB];simp[ep]at this;omega
  .have:=Ly a ps (.mk k o n v l)
   have:=lB l;simp only[ai,dB];omega
theorem BD(a:List cZ)(ps:List By):∀(l:List Ex)(b:List Cn)(k:Int),(ew (hQ a ps l b k).1:Int)<=ep b+cM l+1
 |[],b,k=>by simp[hQ,ew,cM]
 |x::t,b,k=>by
  have d:=BC a ps x;have c:=BD a ps t (b++[(dS a ps x).1]) k;have f:=lB t;have g:=eU x;unfold hQ;rw[BB]at c;simp only[ep]at c;simp only[cM];cases(dS a ps x).2 !=0
  .simp only[af];omega
  .have:ew wU=1:=rfl
   simp only[ai,this];omega
end
def TO(h:kG ao name=some c):0<=c.nr/\c.nr<4294967296:=by
 have b:=mB h;have e:∀j l,∀c∈kF j l,0<=c.nr/\c.nr<4294967296:=by
  intro j l;induction l with
  |nil=>intro c a;simp[kF]at a
  |cons r l d=>
   intro c a;unfold kF at a;cases hz:r.nr j != -1<;>rw[hz]at a
   .exact d c a
   .rcases aY.1 a with rfl|a
    .exact⟨mX _ (by decide),pA _ (by decide)⟩
    .exact d c a
 unfold wS at b;cases hz:decide (idx (ao == ·) ns<0)<;>rw[hz]at b
 .exact e _ lY c b
 .simp at b
def DH{ao:By}{P:Bd->Prop}(a:Act):∀(t:List gP)(d o:List Bd),(∀r∈t,(eu u ao r a).2=0->P (eu u ao r a).1)->(∀b∈d,P b)->iN u ao a t d = .ok o->∀b∈o,P b
 |[],d,o,_,e,h=>by simp[iN]at h;subst h;exact e
 |r::t,d,o,f,e,h=>by
  unfold iN at h;cases hz:(eu u ao r a).2 !=0<;>rw[hz]at h
  .refine DH a t _ o (fun r g=>f r (aV _ g)) (fun b c=>?_) h
   rcases bp.1 c with c|c
   .exact e b c
   .simp at c
    subst c;exact f r aW (by simpa using hz)
  .simp at h
def BE{ao:By}{P:Bd->Prop}{n:Nat}:∀(t:List cQ)(a o:List Bd),(∀p∈t,p.bk.length<=n/\∀r∈p.bk,(eu u ao r p.act).2=0->P (eu u ao r p.act).1)->(∀b∈a,P b)->gC u ao t a = .ok o->(∀b∈o,P b)/\o.length<=a.length+t.length*n
 |[],a,o,_,c,h=>by simp[gC]at h;subst h;exact⟨c,by simp⟩
 |p::t,a,o,e,c,h=>by
  unfold gC at h;obtain⟨j,f⟩:=e p aW;cases hz:iN u ao p.act p.bk a<;>rw[hz]at h
  .simp at h
  .rename_i g
   have k:=Ap _ _ _ _ _ _ hz;have d:=BE t g o (fun r i=>e r (aV _ i)) (DH _ _ _ _ f c hz) h
   refine⟨d.1,?_⟩;have:=d.2;simp only[aD,cc,cR];omega
def TP{ps:List cW}{Q:cQ->Prop}(b:∀x,Q x->Q (nw x))(a:∀p∈ps,∀x∈p.aT,x.use=[]->Q x)(h:nx ps names = .ok l):(∀x∈l,Q x)/\l.length<=500:=by
 unfold nx at h;cases hd:HX ps []<;>rw[hd]at h
 .simp only[af]at h
  cases hz:(fx ps names ⟨[],[],[]⟩).1 !=0<;>rw[hz]at h
  .simp at h
   subst h;have:=rV (Q:=Q) ps a names ⟨[],[],[]⟩ ⟨by simp,by simp,by simp⟩ (by simpa using hz)
   refine⟨fun x c=>?_,by simpa using this.len⟩
   obtain⟨y,d,rfl⟩:=bh.1 c;exact b y (this.fq y d)
  .simp at h
 .simp at h
def BF{u:fT}{Q:cQ->Prop}{P:Bd->Prop}(j:∀x,Q x->Q (nw x))(i:∀p∈u.aB,∀x∈p.aT,x.use=[]->Q x)(g:∀p,Q p->p.bk.length<=n/\∀r∈p.bk,(eu u ao r p.act).2=0->P (eu u ao r p.act).1)(h:eS u ao = .ok a):(∀b∈a,P b)/\a.length<=500*n:=by
 unfold eS at h;cases h1 : !(dh ao).2<;>rw[h1]at h
 .cases h2 : !jm u<;>rw[h2]at h
  .simp only[af]at h
   cases h3:oD u.aF<;>rw[h3]at h
   .simp at h
   .simp only at h
    cases h4:nx u.aB u.main<;>rw[h4]at h
    .simp at h
    .rename_i l
     obtain⟨c,d⟩:=TP j i h4;obtain⟨e,f⟩:=BE (n:=n) (P:=P) l [] a (fun p k=>g p (c p k)) (by simp) h
     have:=dD n d;exact⟨e,by simp at f;omega⟩
  .simp at h
 .simp at h
def xn(d:r.cond.length<=1)(h:(eu u ao r a).2=0):∃c,kG ao r.call=some c/\(dq r c).2=0/\(eu u ao r a).1=⟨c.nr,a,match r.cond with|[]=>.mk 1 0 0 0 0 []|e::_=>(dS u.aF (dq r c).1 e).1⟩/\∀e∈r.cond,(dS u.aF (dq r c).1 e).2=0:=by
 cases h1:kG ao r.call with
 |none=>unfold eu at h;rw[h1]at h;simp at h
 |some c=>
  have g:eu u ao r a=bif(dq r c).2 !=0 then(OK,(dq r c).2)else kH u.aF (dq r c).1 c.nr a r.cond (.mk 1 0 0 0 0 []):=by unfold eu;rw[h1]
  rw[g]at h⊢;cases b:(dq r c).2 !=0<;>rw[b]at h
  .have b:(dq r c).2=0:=by simpa using b
   refine⟨c,rfl,b,?_⟩;rw[af]at h⊢;match hq:r.cond with
   |[]=>exact⟨rfl,by simp⟩
   |[e]=>
    rw[hq]at h;unfold kH at h⊢;cases h3:(dS u.aF (dq r c).1 e).2 !=0<;>rw[h3]at h
    .exact⟨rfl,fun x f=>by simp at f;subst f;simpa using h3⟩
    .rw[ai]at h;rw[h]at h3;simp at h3
   |_::_::_=>rw[hq]at d;simp at d
  .rw[ai]at h;rw[h]at b;simp at b
def Jf(v:Z4 u)(w:Pz u)(h:eS u ao = .ok i):Vw i:=by
 let Q:cQ->Prop:=fun x=>x.bk.length<=12/\∀r∈x.bk,PrR r/\r.cond.length<=1
 let P:Bd->Prop:=fun b=>ew b.cond<=2^10/\0<=b.nr/\b.nr<4294967296
 have t:∀r,XO r->r.cond.length<=1:=fun r h=>by
  rcases h.cond with e|⟨z,e,-⟩<;>rw[e]<;>simp
 obtain⟨j,y⟩:=BF (Q:=Q) (P:=P) (n:=12) (fun x h=>h) (fun p l x g _=>by
  obtain⟨-,-,a⟩:=v.aB p l;exact⟨(a x g).rl,fun r d=>⟨(a x g).bk r d,t r (((w.aB p l).2 x g).bk r d)⟩⟩) (fun p k=>⟨k.1,fun r d m=>by
   obtain⟨a,o⟩:=k.2 r d;obtain⟨c,q,-,s,-⟩:=xn o m;rw[s];refine⟨?_,TO q⟩;match hc:r.cond with
   |[]=>exact(by decide:ew (.mk 1 0 0 0 0 [])<=2^10)
   |e::_=>
    have:=BC u.aF (dq r c).1 e;have:=(a.cond e (by rw[hc];simp)).2.2
    simp only;omega⟩) h
 exact⟨by omega,fun b f=>(j b f).1,fun b f=>(j b f).2⟩
abbrev Pg(a:By)(b:Int)(c d e:Rw)(f g i j k l m n o p:Int)r h:=Lp f5 0 ⟨aO 155 [(1,vS a),(2,vW b),(7,.az 0 0),(10,vL 1 c),(12,vL 9 d),(14,.own 0 0 1 e),(15,vN f)],[some 0],[K1 g i j k l m n o p]⟩ 0 r h
abbrev Ph(a:By)(b:Int)(c d e:Rw)(f:Int)(g:Bool)(i j k l m n o p q s:Int)r h:=Lp f5 1 ⟨aO 155 [(1,vS a),(2,vW b),(7,.az 0 0),(10,vL 1 c),(12,vL 9 d),(14,.own 0 0 1 e),(15,vN f),(16,vB g),(17,vN i)],[some 0],[K1 j k l m n o p q s]⟩ 0 r h
abbrev VP(a:By)(b:Int)(c d:Rw)(e f g i j k l m n o:Int)r h:=Lp f5 2 ⟨aO 155 [(1,vS a),(2,vW b),(7,.az 0 0),(10,vL 1 c),(14,.own 0 0 1 d),(18,vN e)],[some 0],[K1 f g i j k l m n o]⟩ 0 r h
def A5:df:={an:=[(1,0,ah),(2,4,ah),(2,8,aa),(2,9,aa),(2,10,aa),(4,2,ah),(5,2,ah),(6,3,aa),(6,4,aa),(12,4,ah),(12,13,ah),(18,5,ah),(18,10,ah),(20,5,ah),(24,1,ah),(25,1,ah),(27,2,ah),(28,3,aa),(28,13,aa),(28,14,aa),(28,15,aa),(28,16,aa)],cut:=[(10,{bl:=[1,2,7,10,12,14,15],cN:=[(14,1)],owns:=[14]}),(16,{bl:=[1,2,7,10,12,14,15,16,17],cN:=[(14,1)],owns:=[14]}),(22,{bl:=[1,2,7,10,14,18],cN:=[(14,1)],owns:=[14]})]}
def W5(H:cb 6 [] [] fun s=>aI (!s) (aI (bif true then true else(decide ((a.length:Int)>50))) (Fi r h [vB s] [])
 (qZ8 10 [.agg [L 6 b,L 2 c,L 1 d,N e,N f],vS a] [] fun x y=>∃t u,ak 12 [.agg [L 6 b,L 2 c,L 1 d,N e,N f],vS a] [] [vL 9 t,vN u] []/\aI (bif(!y)then true else(u !=0)) (Fi r h [vB true] [])
 (Pg a g x t [] 0 i j k l m n o p q r h))) (cb 8 [.agg [L 6 b,L 2 c,L 1 d,N e,N f]] [] fun z=>aI (bif(!z)then true else(decide ((a.length:Int)>50))) (Fi r h [vB s] [])
 (qZ8 10 [.agg [L 6 b,L 2 c,L 1 d,N e,N f],vS a] [] fun D E=>∃v w,ak 12 [.agg [L 6 b,L 2 c,L 1 d,N e,N f],vS a] [] [vL 9 v,vN w] []/\aI (bif(!E)then true else(w !=0)) (Fi r h [vB true] [])
 (Pg a g D v [] 0 i j k l m n o p q r h)))):
  ak 5 [.agg [L 6 b,L 2 c,L 1 d,N e,N f],vS a,vW g,.agg [W i,W j,U k,U l,U m,U n,U o,U p,U q]] [] r h:=.of func5 A5 H
def acB(H:bP (b<(a.length:Int)) (ky a b fun q t u v w x y z D=>aI (q==c) (ky a b fun E G I s J K M Q T=>aI (s !=1) (Fi r h [vB true] [])
 (Ph d c e a f b false 0 g i j k l m n o p r h)) (Ph d c e a f b false 0 g i j k l m n o p r h))
 (VP d c e f 0 g i j k l m n o p r h)):
  Pg d c e a f b g i j k l m n o p r h:=.of A5 H
def acC(H:bP (d<(b.length:Int)) (aI s (aq (d+1)/\Ph e f g c b a true (d+1) i j k l m n o p q r h) (Rdw b d fun u=>ky c a fun v w x y z D E G I=>aq (d+1)/\Ph e f g c b a (u==v) (d+1) i j k l m n o p q r h))
 (aI (!s) (ky c a fun t J K M Q T X Y Z=>(b++([[W t]]:Rw)).length*4<=2^47/\aq (a+1)/\Pg e f g c (b++([[W t]]:Rw)) (a+1) i j k l m n o p q r h)
 (aq (a+1)/\Pg e f g c b (a+1) i j k l m n o p q r h))):
  Ph e f g c b a s d i j k l m n o p q r h:=.of A5 H
def acD(H:0<=(wrap .u64 a)/\aq ((2:Int)*(b.length:Int))/\aq (((2:Int)*(b.length:Int))+1)/\bP ((wrap .i64 ((1:Int)*2^(min (toNat (wrap .u64 a)) (IntKind.bits .i64))))<(((2:Int)*(b.length:Int))+1)) (aq (a+1)/\VP d e f b (a+1) p q g i j k l m n r h)
 (Ot 14 [vL 1 f] [] fun o u=>Jq 15 [vS d] [] fun v w=>∃t c s,ak 16 [vL 4 o,.agg [W e,W v,U g,U i,U j,U k,U l,U m,U n]] [] [vW t,vN c,vB s] []/\aI (bif(u==0)then s else false) (aq ((2:Int)*a)/\aq ((6:Int)+((2:Int)*a))/\Fi r h [vB (bif(decide (c<=((6:Int)+((2:Int)*a))))then(decide (c<=(o.length:Int)))else false)] []) (Fi r h [vB (bif false then(decide (c<=(o.length:Int)))else false)] []))):
  VP d e f b a p q g i j k l m n r h:=.of A5 H
def W6(H:∃a b c d,ak 17 [vL 2 [[S [100,47,97],S [35,105,110,99,108,117,100,101,32,34,46,46,47,98,34,10,80,79,76,73,67,89,32,112,32,123,32,85,83,69,32,113,44,32,75,73,76,76,32,123,32,98,114,107,32,125,32,125,32,85,83,69,32,112,32,68,69,70,65,85,76,84,32,69,82,82,78,79,40,49,41]],[S [98],S [35,100,101,102,105,110,101,32,76,79,87,32,49,10,80,79,76,73,67,89,32,113,32,123,32,65,76,76,79,87,32,123,32,119,114,105,116,101,40,102,41,32,123,32,102,32,38,32,51,32,61,61,32,76,79,87,32,124,32,50,32,125,32,125,32,125]]],vS [100,47,97],vS [120,56,54,95,54,52]] [] [vL 1 a,.agg [N b,N c,C d]] []/\Hb 19 [.agg [W 1,W 3221225534,U 0,U 7,U 0,U 0,U 0,U 0,U 0]] [] fun j=>∃e f,ak 18 [vL 1 a,vL 1 j] [] [vW e,vN f] []/\Hb 19 [.agg [W 1,W 3221225534,U 0,U 4,U 0,U 0,U 0,U 0,U 0]] [] fun k=>∃g i,ak 18 [vL 1 a,vL 1 k] [] [vW g,vN i] []/\(((true&&(b==0))&&(c==0))=true->Option.isSome d=true/\Option.isSome (some (0,0))=true)/\Fi r h [vB (bif(bif(bif(bif(((true&&(b==0))&&(c==0))&&Z9 .f64 d (some (0,0)))then(f==0)else false)then(i==0)else false)then(e==2147418112)else false)then(g==327681)else false)] []):
  ak 6 [] [] r h:=.of func6 {an:=[(2,1,ah),(3,3,ah),(3,4,ah),(4,3,ah),(4,4,ah),(5,4,aa),(5,5,aa),(5,8,aa),(5,9,aa),(5,12,aa),(5,13,aa),(5,16,aa),(5,17,aa)]} H
def W8(H:cb 21 [.agg [L 6 a,L 2 b,L 1 c,N d,N e]] [] fun f=>aI f (cb 22 [.agg [L 6 a,L 2 b,L 1 c,N d,N e]] [] fun g=>Fi r h [vB g] []) (Fi r h [vB false] [])):
  ak 8 [.agg [L 6 a,L 2 b,L 1 c,N d,N e]] [] r h:=.of func8 {an:=[(1,1,ah),(1,4,ah)]} H
def W10(H:x8 23 [.agg [L 6 e,L 2 f,L 1 g,N i,N j]] [] fun l=>∃a b c d,ak 17 [vL 2 [[S [117],S l]],vS [117],vS k] [] [vL 1 a,.agg [N b,N c,C d]] []/\(((true&&(b==0))&&(c==0))=true->Option.isSome d=true/\Option.isSome (some (0,0))=true)/\Fi r h [vL 1 a,vB (bif(((true&&(b==0))&&(c==0))&&Z9 .f64 d (some (0,0)))then(decide ((a.length:Int)>0))else false)] []):
  ak 10 [.agg [L 6 e,L 2 f,L 1 g,N i,N j],vS k] [] r h:=.of func10 {an:=[(1,1,ah),(1,5,ah),(2,5,aa),(2,6,aa),(2,7,aa)]} H
def TQ(u:fT):Bool:=bif O6 u then jm u else false
def XQ(h:O6 u=true):xi u=true:=(cn (b:=xi u) h).1
def C8(u:fT)(h:I1 u):ak 8 [qm u] [] [vB (TQ u)] []:=by
 apply W8;exact⟨_,C21 u h,ad (fun a=>⟨_,Z3 u (Lr (XQ a)),aZ (by rw[TQ,a];rfl)⟩) fun a=>aZ (by rw[TQ,a];rfl)⟩
structure TR (u:fT):Prop where
 sm:og u
 pr:Z4 u
 rd:Pz u
 right:jm u=true
def TS(g:Rng u)(f:TQ u=true):TR u:=by
 obtain⟨a,c⟩:=cn (b:=O6 u) f;have h:=Lr (XQ a);obtain⟨e,-⟩:=cn (b:=xi u) a;have d:=NI c g;exact⟨h,NJ e d,d,c⟩
def sw(u:fT)(ao:By):Bool:=bif decide (((fC u).length:Int)>20000)then false else(db u ao).2==0
def BG(u:fT)(ao:By):List Int:=bif sw u ao then(fm (db u ao).1 []).getD []else[]
def TR.bk(h:TR u)(ao:By):∀a,eS u ao = .ok a->Vw a:=fun _ b=>Jf h.pr h.rd b
def Pj(h:Z4 u):(fC u).length<=2^28:=by
 have v:=h.dl;have w:=h.pl;have g:∀{α:Type}(f:α->By)(n:Nat)(l:List α),(∀x∈l,(f x).length<=n)->(l.flatMap f).length<=l.length*n:=by
  intro α f n l;induction l with
  |nil=>intro _;simp
  |cons x l t=>
   intro c;have:=c x aW;have:=t fun y q=>c y (aV _ q)
   simp only[eX,dC,aD,cc,cR];omega
 have i:=g mm 40000 u.aF fun d k=>by
  obtain⟨i,b,a,e⟩:=h.aF d k;have:=dO b a;unfold mm;simp;omega
 have b:=g kN 5000000 u.aB fun p m=>by
  obtain⟨i,b,a⟩:=h.aB p m;have e:=ta 400000 (p.aT.map gr) fun s o=>by
   obtain⟨x,c,rfl⟩:=bh.1 o;exact sr (a x c)
  rw[al]at e;have j:p.aT.length*(2+400000)<=12*400002:=iE b (ar _);unfold kN;simp;omega
 have a:=mS [44,32] 60 u.main h.main;have e:u.main.length*(2+60)<=8*62:=iE h.ml (ar _);have a:(l7 [44,32] u.main).length<=u.main.length*(2+60):=a;have j:=qw u.ch;have z:u.aF.length*40000<=12*40000:=dD _ v;have r:u.aB.length*5000000<=8*5000000:=dD _ w;unfold fC lD;simp only[dC,aD,cS];omega
def C10(u:fT)(ao:By)(h:TR u):ak 10 [qm u,vS ao] [] [vL 1 (gj (BG u ao)),vB (sw u ao)] []:=by
 have y:=Pj h.pr;have o:Z1 [⟨[117],fC u⟩] [117]:=⟨by simp,fun f n=>by simp at n;subst n;exact⟨by simp,y⟩,by simp⟩
 apply W10;refine⟨_,C23 u h.pr h.sm h.right,?_⟩;cases hb:decide (((fC u).length:Int)>20000)
 .have r:=bI hb
  have k:=VL h.rd (by omega)
  have c:=C17 [⟨[117],fC u⟩] [117] ao o k fun _=>⟨h.sm,h.bk ao⟩
  have g:sw u ao=((db u ao).2==0):=by rw[sw,hb];rfl
  have a:jF (u,0,0,some (0,0)) ao=bif(db u ao).2 !=0 then([],((db u ao).2,-1,some (0,0)))else((db u ao).1,(0,0,some (0,0))):=rfl;cases hz:(db u ao).2 !=0
  .have l:(db u ao).2=0:=by simpa using hz
   rw[hz]at a;obtain⟨E,m,-,D⟩:=Bh (h.bk ao) l;obtain⟨b,p,G⟩:=sn D.Z2;have d:qu (u,0,0,some (0,0)) ao=b:=by rw[qu,a];simp only[af];rw[p];rfl
   rw[d,a]at c;have z:BG u ao=b:=by rw[BG,g,l];simp only[beq_self_eq_true,ai];rw[p];rfl
   refine⟨_,_,_,_,c,fun _=>⟨rfl,rfl⟩,aZ ?_⟩
   rw[z,g,l];have:decide (((gj b).length:Int)>0)=true:=by rw[F2];exact bw (by omega)
   rw[this];rfl
  .rw[hz]at a
   have d:qu (u,0,0,some (0,0)) ao=[]:=by rw[qu,a];rfl
   rw[d,a]at c;have q:((db u ao).2==0)=false:=by simpa using hz
   refine⟨_,_,_,_,c,fun _=>⟨rfl,rfl⟩,aZ ?_⟩
   rw[BG,g,q];show[vL 1 (gj []),vB (bif(((true&&((db u ao).2==0))&&((-1:Int)==0))&&Z9 .f64 (some (0,0)) (some (0,0)))then decide (((gj []).length:Int)>0)else false)]=_
   rw[q];rfl
 .have r:=aU hb
  obtain⟨e,k,x⟩:=Pe (t:=fC u) (by omega)
  obtain⟨s,i,j⟩:=e;obtain rfl:s=9:=x;have c:=C17 [⟨[117],fC u⟩] [117] ao o k fun v=>by simp at v
  have a:jF ((⟨[],[],[],⟨0,0⟩⟩:fT),(9,i,j)) ao=([],(9,i,j)):=rfl;have d:qu ((⟨[],[],[],⟨0,0⟩⟩:fT),(9,i,j)) ao=[]:=by rw[qu,a];rfl
  rw[d,a]at c;have g:sw u ao=false:=by rw[sw,hb];rfl
  refine⟨_,_,_,_,c,fun w=>?_,aZ ?_⟩
  .simp at w
  .rw[BG,g];rfl
def Z5(d:Da)(ao:By)(nr:Int):Da:={d with nr:=nr,ao:=(dh ao).1}
def Lz(h:C4 d)(ao:By)(a:A8 nr):C4 (Z5 d ao nr):=⟨a,IJ ao,h.ip,h.a0,h.a1,h.a2,h.a3,h.a4,h.a5⟩
def G.small(h:G e):oI e->rT e:=by
 induction h with
 |num m _=>intro _;exact⟨by simp,by simp,by simp,trivial⟩
 |name n=>intro a;exact⟨by simp,by have:=a.2.1;omega,by simp,trivial⟩
 |mask n _ d=>intro a;exact⟨by simp,by have:=a.2.1;omega,by simp,d a.2.2.1,trivial⟩
 |bits _ _ b c=>intro a;exact⟨by simp,by simp,by simp,b a.2.2.1,c a.2.2.2.1,trivial⟩
 |or _ _ b c=>intro a;exact⟨by simp,by simp,by simp,b a.2.2.1,c a.2.2.2.1,trivial⟩
 |and _ _ b c=>intro a;exact⟨by simp,by simp,by simp,b a.2.2.1,c a.2.2.2.1,trivial⟩
 |not _ d=>intro a;exact⟨by simp,by simp,by simp,d a.2.2.1,trivial⟩
 |cmp o _ _ b c=>intro a;exact⟨by have:=a.1;omega,by simp,by simp,b a.2.2.1,c a.2.2.2.1,trivial⟩
def BH:List Fl:=[⟨[100,47,97],[35,105,110,99,108,117,100,101,32,34,46,46,47,98,34,10,80,79,76,73,67,89,32,112,32,123,32,85,83,69,32,113,44,32,75,73,76,76,32,123,32,98,114,107,32,125,32,125,32,85,83,69,32,112,32,68,69,70,65,85,76,84,32,69,82,82,78,79,40,49,41]⟩,⟨[98],[35,100,101,102,105,110,101,32,76,79,87,32,49,10,80,79,76,73,67,89,32,113,32,123,32,65,76,76,79,87,32,123,32,119,114,105,116,101,40,102,41,32,123,32,102,32,38,32,51,32,61,61,32,76,79,87,32,124,32,50,32,125,32,125,32,125]⟩]
def TT:Ex:=.mk 4 [61,61] [] 0 [.mk 6 [] [102] 0 [.mk 7 [] [] 3 []],.mk 8 [] [] 0 [.mk 5 [] [76,79,87] 0 [],.mk 7 [] [] 2 []]]
def ga:fT:=⟨[⟨[76,79,87],.mk 7 [] [] 1 []⟩],[⟨[113],[⟨[],⟨7,0⟩,[⟨[119,114,105,116,101],[[102]],[TT]⟩]⟩]⟩,⟨[112],[⟨[113],⟨0,0⟩,[]⟩,⟨[],⟨2,0⟩,[⟨[98,114,107],[],[]⟩]⟩]⟩],[[112]],⟨4,1⟩⟩
abbrev oK:By:=[120,56,54,95,54,52]
def LA:vP BH [100,47,97]=some (ga,0,0,some (0,0)):=by kernel_rfl
def Pk:Rng ga:=⟨fun d f=>by simp[ga]at f;subst f;simp[tg,Pf],fun p g x b r a e c=>by
 simp[ga]at g;rcases g with rfl|rfl
 .simp at b;subst b;simp at a;subst a;simp at c;subst c;simp[TT,tg,Pf]
 .simp at b;rcases b with rfl|rfl
  .simp at a
  .simp at a;subst a;simp at c⟩
def BI:Pz ga:=NI (by kernel_rfl) Pk
def vX:Z4 ga:=NJ (by kernel_rfl) BI
def TU:og ga:=⟨by simp[ga],fun d k=>by
  obtain⟨u,i,c,-⟩:=vX.aF d k;exact⟨by omega,i.small c⟩,by simp[ga],fun p l=>by
  obtain⟨u,i,c⟩:=vX.aB p l;refine⟨by omega,by omega,fun x n=>?_⟩
  have g:=c x n;have v:=g.use;have w:=g.rl;refine⟨by omega,by omega,fun r m=>?_⟩
  have b:=g.bk r m;have y:=b.call;have h:=b.pl;have o:=((BI.aB p l).2 x n).bk r m;refine⟨by omega,by omega,fun s f=>by have:=b.params s f;omega,?_,fun e a=>?_⟩
  .rcases o.cond with e|⟨z,e,-⟩<;>rw[e]<;>simp
  .obtain⟨q,t,-⟩:=b.cond e a
   refine⟨q.small t,?_⟩;rcases o.cond with j|⟨z,j,-,k⟩<;>rw[j]at a
   .simp at a
   .simp at a;subst a;omega,by simp[ga],fun s f=>by have:=vX.main s f;omega⟩
def BJ(nr ac a:Int):Int:=match eS ga oK with
 |.ok b=>sb (fS (kK ⟨nr,ac,0,a,0,0,0,0,0⟩) ga.ch (uj nr b))
 |.error _=>0
def C6:ak 6 [] [] [vB true] []:=by
 have h:Z1 BH [100,47,97]:=⟨by simp[BH],fun f q=>by simp[BH]at q;rcases q with rfl|rfl<;>simp,by simp⟩
 have w:∀g,eS ga oK = .ok g->Vw g:=fun _ l=>Jf vX BI l
 have c:=C17 BH [100,47,97] oK h LA fun _=>⟨TU,w⟩
 have s:(db ga oK).2=0:=by kernel_rfl
 obtain⟨g,m,l,k⟩:=Bh w s;obtain⟨b,v,E⟩:=sn k.Z2;have o:jF (ga,0,0,some (0,0)) oK=((db ga oK).1,(0,0,some (0,0))):=by
  show(bif(db ga oK).2 !=0 then([],((db ga oK).2,-1,some (0,0)))else((db ga oK).1,(0,0,some (0,0))))=_
  rw[s];rfl
 have z:qu (ga,0,0,some (0,0)) oK=b:=by rw[qu,o];simp only;rw[v];rfl
 rw[z,o]at c;have u:∀a:Int,0<=a->a<100->C4 ⟨1,3221225534,0,a,0,0,0,0,0⟩:=fun a i j=>by constructor<;>simp<;>omega
 have t:∀a:Int,0<=a->a<100->ak 18 [vL 1 (gj b),vL 1 (gj (l6 ⟨1,3221225534,0,a,0,0,0,0,0⟩))] [] [vW (BJ 1 3221225534 a),vN 0] []:=fun a i j=>by
  have d:=u a i j;have p:kK ⟨1,3221225534,0,a,0,0,0,0,0⟩ 0=1:=MW d;obtain⟨x,-,-,-,n,y,-⟩:=k.run (kK ⟨1,3221225534,0,a,0,0,0,0,0⟩) (Dk d) (by rw[p];exact⟨by decide,by decide⟩)
  rw[p]at y;have e:BJ 1 3221225534 a=sb (fS (kK ⟨1,3221225534,0,a,0,0,0,0,0⟩) ga.ch (uj 1 g)):=by unfold BJ;rw[l]
  rw[e];exact C18 v k.Z2 k.iok _ d y
 have d:∀a:Int,0<=a->a<100->ak 19 [Li ⟨1,3221225534,0,a,0,0,0,0,0⟩] [] [vL 1 (gj (l6 ⟨1,3221225534,0,a,0,0,0,0,0⟩))] []:=fun a i j=>
  C19 _ (u a i j)
 have D:BJ 1 3221225534 7=2147418112:=by kernel_rfl
 have r:BJ 1 3221225534 4=327681:=by kernel_rfl
 apply W6;refine⟨_,_,_,_,c,_,d 7 (by decide) (by decide),_,_,t 7 (by decide) (by decide),_,d 4 (by decide) (by decide),_,_,t 4 (by decide) (by decide),fun _=>⟨rfl,rfl⟩,aZ ?_⟩
 rw[D,r];rfl
structure Ab where
 name:By
 act:Act
 cond:Cn
def LB(name:By):List By:=match lY.find? fun r=>r.name==name with
 |none=>[]
 |some r=>jC r.params
def numOf(ao name:By):Int:=((kG ao name).map (·.nr)).getD 0
def abR(u:fT)(r:gP)(a:Act):Ab:=⟨r.call,a,match r.cond with|[]=>.mk 1 0 0 0 0 []|e::_=>(dS u.aF (r.params++(LB r.call).drop r.params.length) e).1⟩
def abP(u:fT)(p:cQ):List Ab:=p.bk.map fun r=>abR u r p.act
def VQ(ao:By)(x:Ab):Bd:=⟨numOf ao x.name,x.act,x.cond⟩
def TV:∀r∈lY,LB r.name=jC r.params:=by decide
def Pl(h:kG ao name=some c):c.name=name/\c.params=LB name:=by
 have b:=mB h;have d:=qT h;have d:c.name=name:=by simpa using d
 refine⟨d,?_⟩;have f:∀j l,∀c∈kF j l,∃r∈l,c.name=r.name/\c.params=jC r.params:=by
  intro j l;induction l with
  |nil=>intro c a;simp[kF]at a
  |cons r l g=>
   intro c a;have k:(∃r∈l,c.name=r.name/\c.params=jC r.params)->∃e∈r::l,c.name=e.name/\c.params=jC e.params:=fun⟨e,b,f⟩=>⟨e,aV _ b,f⟩
   unfold kF at a;cases hz:r.nr j != -1<;>rw[hz]at a
   .exact k (g c a)
   .rcases aY.1 a with rfl|a
    .exact⟨r,aW,rfl,rfl⟩
    .exact k (g c a)
 unfold wS at b;cases hz:decide (idx (ao == ·) ns<0)<;>rw[hz]at b
 .obtain⟨r,n,i,m⟩:=f _ lY c b
  rw[m,<-TV r n,<-i,d]
 .simp at b
def TW(g:r.cond.length<=1)(h:(eu u ao r a).2=0):(eu u ao r a).1=VQ ao (abR u r a)/\(kG ao r.call).isSome=true:=by
 obtain⟨c,d,b,e,-⟩:=xn g h;obtain⟨-,f⟩:=Pl d;refine⟨?_,by rw[d];rfl⟩
 have i:(dq r c).1=r.params++c.params.drop r.params.length:=by
  unfold dq at b⊢;cases hz:decide ((r.params.length:Int)>(c.params.length:Int))<;>rw[hz]at b
  .cases hy:rW r.params []<;>rw[hy]at b
   .rfl
   .simp at b
  .simp at b
 rw[e,i,f];unfold VQ abR numOf;simp only[d];rfl
def Jg:∀(t:List gP)(b o:List Bd),(∀r∈t,r.cond.length<=1)->iN u ao a t b = .ok o->o=b++(t.map fun r=>abR u r a).map (VQ ao)/\∀r∈t,(kG ao r.call).isSome=true
 |[],b,o,_,h=>by simp[iN]at h;simp[h]
 |r::t,b,o,d,h=>by
  unfold iN at h;cases hz:(eu u ao r a).2 !=0<;>rw[hz]at h
  .obtain⟨e,f⟩:=TW (d r aW) (by simpa using hz)
   obtain⟨g,i⟩:=Jg t _ o (fun r j=>d r (aV _ j)) h
   refine⟨by rw[g,e];simp,fun x c=>?_⟩
   rcases aY.1 c with rfl|c
   .exact f
   .exact i x c
  .simp at h
def xo:∀(t:List cQ)(b o:List Bd),(∀p∈t,∀r∈p.bk,r.cond.length<=1)->gC u ao t b = .ok o->o=b++(t.flatMap (abP u)).map (VQ ao)/\∀x∈t.flatMap (abP u),(kG ao x.name).isSome=true
 |[],b,o,_,h=>by simp[gC]at h;simp[h]
 |p::t,b,o,c,h=>by
  unfold gC at h;cases hz:iN u ao p.act p.bk b<;>rw[hz]at h
  .simp at h
  .rename_i i
   obtain⟨d,e⟩:=Jg _ _ _ (c p aW) hz;obtain⟨f,g⟩:=xo t i o (fun r j=>c r (aV _ j)) h
   refine⟨by rw[f,d];simp[abP],fun x a=>?_⟩
   rcases bp.1 (show x∈abP u p++t.flatMap (abP u)from a)with a|a
   .obtain⟨r,k,rfl⟩:=bh.1 a
    exact e r k
   .exact g x a
abbrev BK:List By:=[[120,56,54,95,54,52],[105,51,56,54],[97,97,114,99,104,54,52]]
def LC:∀ao∈BK,mj ao=wS ao:=fun ao a=>by
 simp only[BK,aY,lN,or_false]at a;rcases a with rfl|rfl|rfl<;>kernel_rfl
def Pm(a:ao∈BK)(name:By):I3 ao name=kG ao name:=by
 unfold I3 kG;rw[LC ao a]
end Go.Ac.S4
end
