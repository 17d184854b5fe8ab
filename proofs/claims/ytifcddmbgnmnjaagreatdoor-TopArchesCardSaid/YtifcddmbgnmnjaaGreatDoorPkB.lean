/-
Part 2 of the proof: lemmas; no conditions of their own beyond those that they state.
-/
import Derived.Test.YtifcddmbgnmnjaaGreatDoorPkA
import Derived.Orders
import Derived.Below
import Derived.ChangeArms
import GoSem.ClaimJoined
import Derived.Test.YtifcddmbgnmnjaaGreatDoorProg
import Derived.Laws.AppendOwn
import Derived.Shelf.SlIterI.Collect
import Derived.RangeFuncBound
import Derived.Shelf.Strings.Prefix
import Derived.Shelf.Small.Strs
import Derived.Shelf.Small.Wraps
import Derived.Shelf.Strings.Count
import Derived.Shelf.Strings.LastIndexAll
import Derived.Shelf.Strings.Search3
import Derived.Shelf.Bits.Mul64
import Derived.Shelf.Spec.BitsCarry
import Derived.Shelf.Strings.Split
import Derived.Shelf.Strings.Fields
import Derived.Shelf.Strings.OnBuilder
import Derived.Shelf.SlicesE.Clone
import Derived.Shelf.SlicesG.Clone
import Derived.Shelf.Spec.SlicesGrow
set_option linter.all false
set_option autoImplicit true
section
namespace Go.Ac
open Go
set_option maxRecDepth 100000
def lj(G:Gh)(ad:List (Option Nat))(w:World)(b:List Value)(l:List AV):Prop:=b.length=l.length/\∀(i:Nat)v a,b[i]?=some v->l[i]?=some a->aL G ad w v a
def ur:List Value->Value
 |[v]=>v
 |l=>.tuple l.toArray
def yA(P:Program)(g:FuncId)(d:List AV)(j:List Bx)(r:List AV)(i:List Bx):Prop:=
 ∀(w:World)(a:Gh)(O:Nat->Prop)(f:List Value),Inv P w a.bQ O a j w->lj a (cq d) w f d ->
  dj P (callFunc g f.toArray) w fun v w'=>∃c e,Inv P w a.bQ O c i w'/\lj c (cq r) w' e r/\v=ur e/\∀b,a.bz b->c.bz b/\c.val b=a.val b
section
variable {P:Program} {w0:World} {aJ:Nat->Nat} {O:Nat->Prop} {G:Gh} {ad:List (Option Nat)} {heap:List Bx} {w:World}
structure qB (bO ad da:List (Option Nat)):Prop where
 len:ad.length=bO.length
 bl:∀(t n:Nat),ad[t]?=some (some n)->bO[t]?=some (some n)
 gone:∀k t:Nat,da[k]?=some (some t)->(∃n,bO[t]?=some (some n))/\ad[t]?=some none
 inj:∀k k' t:Nat,da[k]?=some (some t)->da[k']?=some (some t)->k=k'
def qB.refl(ad:List (Option Nat)):qB ad ad []:=⟨rfl,fun _ _ h=>h,fun k t h=>by simp at h,fun k a t h=>by simp at h⟩
def gH{α:Type}{l:List α}{a x:α}{j:Nat}(h:(l++[a])[j]?=some x):l[j]?=some x\/(j=l.length/\x=a):=by
 rcases bR j l.length with b|b
 .rw[bX b]at h;exact .inl h
 .rw[ei b]at h
  rcases C0 (j-l.length)with c|c
  .rw[c]at h;simp at h;exact .inr ⟨by omega,h.symm⟩
  .rw[ee (by simp;omega)]at h;simp at h
def qB.snoc{f da:List (Option Nat)}{t e:Nat}(k:qB f ad da)(b:ad[t]?=some (some e)):qB f (ad.set t none) (da++[some t]):=by
 have d:=(aE.1 b).1;refine⟨by simp[k.len],fun c n h=>?_,fun q c h=>?_,fun q p c h i=>?_⟩
 .rw[il]at h
  split at h
  .simp at h
  .exact k.bl _ _ h
 .rcases gH h with h|⟨_,h⟩
  .obtain⟨j,l⟩:=k.gone _ _ h
   refine⟨j,?_⟩;rw[il];split
   .simp[d]
   .exact l
  .simp only[aw]at h
   subst h;exact⟨⟨e,k.bl _ _ b⟩,by simp[d]⟩
 .rcases gH h with g|⟨m,g⟩<;>rcases gH i with a|⟨o,a⟩
  .exact k.inj _ _ _ g a
  .simp only[aw]at a
   subst a;have:=(k.gone _ _ g).2;rw[b]at this;simp at this
  .simp only[aw]at g
   subst g;have:=(k.gone _ _ a).2;rw[b]at this;simp at this
  .omega
def qB.dw{b da:List (Option Nat)}(k:qB b ad da):qB b ad (da++[none]):=by
 refine⟨k.len,k.bl,fun q t h=>?_,fun q c t h a=>?_⟩
 .rcases gH h with h|⟨_,h⟩
  .exact k.gone _ _ h
  .simp at h
 .rcases gH h with h|⟨_,h⟩<;>rcases gH a with a|⟨_,a⟩
  .exact k.inj _ _ _ h a
  .simp at a
  .simp at h
  .simp at h
def qC:∀(l:List Nat),ku l=true->l.Nodup
 |[],_=>List.nodup_nil
 |a::l,h=>by
  simp only[ku,bU,gw,List.contains_eq_mem]at h;exact hH.2 ⟨by simpa using h.1,qC l h.2⟩
def vw{a:List Nat}(h:a.Nodup){i b:Nat}(d:a[i]?=some b):a.idxOf b=i:=by
 have f:b∈a:=aK d;have c:=x8 f;have e:a[a.idxOf b]?=some b:=by rw[bk c,List.getElem_idxOf]
 exact(List.getElem?_inj c h).1 (e.trans d.symm)
def lX{a:List Nat}{b:Nat}(d:b∈a):a[a.idxOf b]?=some b:=by
 have c:=x8 d;rw[bk c,List.getElem_idxOf]
def kz(a:List Nat)(da:List (Option Nat)):Hd->Option Hd
 |.box i=>(a[i]?).map .box
 |.cell i j=>(a[i]?).map fun b=>.cell b j
 |.nO i k=>(a[i]?).map fun b=>.nO b k
 |.tok k=>(da[k]?).join.map .tok
def yB{g:List Nat}{da:List (Option Nat)}(h:g.Nodup)(n:∀k m t:Nat,da[k]?=some (some t)->da[m]?=some (some t)->k=m):∀x y z,kz g da x=some z->kz g da y=some z->x=y:=by
 have key:∀(i j b:Nat),g[i]?=some b->g[j]?=some b->i=j:=fun i j b c l=>(List.getElem?_inj (aE.1 c).1 h).1 (c.trans l.symm)
 intro x y z c l;cases x<;>cases y<;>simp only[kz,aX]at c l<;>obtain⟨a,d,rfl⟩:=c<;>obtain⟨b,e,f⟩:=l<;>simp at f
 .subst f;rw[key _ _ _ d e]
 .obtain⟨rfl,rfl⟩:=f;rw[key _ _ _ d e]
 .obtain⟨rfl,rfl⟩:=f;rw[key _ _ _ d e]
 .subst f
  rw[Option.join_eq_some_iff]at d e;rw[n _ _ _ d e]
def Gh.o6(G:Gh)(a:List Nat)(da:List (Option Nat)):Gh:=
 ⟨G.bQ,fun x=>(kz a da x).bind G.h,fun i=>G.val (a.getD i 0),fun i=>i<a.length⟩
def Gh.F1(G:Gh){c:List Nat}(da:List (Option Nat)):lh G (G.o6 c da) (fun b=>c.idxOf b) (· ∈ c) where
 bQ:=rfl
 bz:=fun b a _=>x8 a
 val:=fun b a=>by simp[Gh.o6,bS,lX a]
 box:=fun b a=>by simp[Gh.o6,kz,lX a]
 cell:=fun b j a=>by simp[Gh.o6,kz,lX a]
 nO:=fun b k a=>by simp[Gh.o6,kz,lX a]
def Inv.o6(d:Inv P w0 aJ O G heap w){a:List Nat}{da:List (Option Nat)}(l:a.Nodup)(E:∀k p t:Nat,da[k]?=some (some t)->da[p]?=some (some t)->k=p)
  (D:(a.map fun b=>heap.getD b .dead).all Bx.simple=true)(j:(a.map fun b=>heap.getD b .dead).all Bx.alive=true)(r:((a.map fun b=>heap.getD b .dead).flatMap Bx.refs).all a.contains=true):
  Inv P w G.bQ (fun n=>∃x,(G.o6 a da).h x=some n) (G.o6 a da) ((a.map fun b=>heap.getD b .dead).map (Bx.dq fun b=>a.idxOf b)) w where
 frame:=my.refl _ _ _ d.frame.wI d.frame.Bq
 nb:=fun b h=>by simpa[Gh.o6]using h
 box:=fun i bx h=>by
  simp only[dE,bp]at h;obtain⟨b,f,rfl⟩:=aX.1 h;have m:=aK f;have e:heap.getD b .dead∈a.map fun b=>heap.getD b .dead:=bg.2 ⟨b,m,rfl⟩
  have c:=bf.1 j _ e;have J:=bf.1 D _ e;have M:heap[b]?=some (heap.getD b .dead):=by
   rw[bS]at c⊢;cases hh:heap[b]? with
   |none=>rw[hh]at c;simp[Bx.alive]at c
   |some x=>rfl
  have:=(d.box b _ M).Th J (by revert c;cases heap.getD b .dead<;>simp[Bx.alive,Bx.there]) (G.F1 da) m fun b' I=>by
   have:=bf.1 r b' (fk.2 ⟨_,e,I⟩);simpa using this
  rw[vw l f]at this;exact this
 inj:=fun x y n s z=>by
  obtain⟨u,o,g⟩:=cI.1 s;obtain⟨v,H,K⟩:=cI.1 z;obtain rfl:=d.inj _ _ _ g K;exact yB l E _ _ _ o H
 nf:=fun x n h=>by
  obtain⟨u,o,g⟩:=cI.1 h;exact⟨(d.nf _ _ g).1,fun _=>⟨x,h⟩⟩
 dead:=fun i n h=>by
  simp only[dE,bp]at h;obtain⟨b,f,q⟩:=aX.1 h;have e:heap.getD b .dead∈a.map fun b=>heap.getD b .dead:=bg.2 ⟨b,aK f,rfl⟩
  have c:=bf.1 j _ e;simp only[C4]at q;revert c q
  cases heap.getD b .dead<;>simp[Bx.alive,Bx.dq]
structure U5 (G G0:Gh) (f:Nat->Nat) (S:Nat->Prop) (da:List (Option Nat)):Prop where
 dq:lh G G0 f S
 tok:∀q t:Nat,da[q]?=some (some t)->G0.h (.tok q)=G.h (.tok t)
def AV.qD:AV->Bool
 |.own .. => true
 |_=>false
def qE{b:AV}(h:b.qD=false):cq [b]=[]:=by cases b<;>first|rfl|simp[AV.qD]at h
def BE{a:AV}{f:Nat->Nat}(h:a.simple=true):(a.dq f).qD=false:=by cases a<;>first|rfl|simp[AV.simple]at h
def sU{P:Program}{t:TypeId}{a:AV}(h:a.qD=false):(yb P t a).qD=false:=by
 unfold yb;split
 .split<;>rfl
 .rfl
 .exact h
def F2{u da:List (Option Nat)}{f:Nat->Nat}{S:Nat->Prop}{t:Option TypeId}{own:Bool}{a b:AV}{gx:List (Option Nat)}{m:Nat}{v:Value}(k:qB u ad da)
  (h:uc P t own f a ad da.length=some (b,gx,m))(i:aL G u w v a)(y:∀b∈a.refs,S b):
  ∃o,qB u gx o/\o.length=m/\(∃l,o=da++l)/\cq [b]=List.replicate (m-da.length) (some 0)/\
   ∀(c:Gh)(T d:List (Option Nat)),(∀(q:Nat)x,o[q]?=some x->d[q]?=some x)->U5 G c f S d->(∀q:Nat,q<m->T[q]?=some (some 0))->aL c T w v b:=by
 unfold uc at h;split at h
 .split at h<;>try(simp at h;done)
  .rename_i tk Q n al
   split at h<;>try(simp at h;done)
   rename_i D;have r:=aN D;simp only[aw,ax]at h;obtain⟨rfl,rfl,rfl⟩:=h;refine⟨_,k.snoc r,by simp,⟨_,rfl⟩,by simp[cq],fun c T d g L e=>?_⟩
   cases i with
   |@own _ _ _ _ A len cap E I p z=>
    have s:=e da.length (by omega)
    refine .own (aE.1 s).1 (fun _ _=>dD _) (p.jA L.dq.bQ) fun _=>?_
    exact(z (k.bl _ _ r)).eq L.dq.bQ (L.tok _ _ (g _ _ (by simp)))
  .split at h<;>try(simp at h;done)
   rename_i n K;simp only[aw,ax]at h;obtain⟨rfl,rfl,rfl⟩:=h;refine⟨_,k.dw,by simp,⟨_,rfl⟩,by simp[cq],fun c T d g L e=>?_⟩
   have H:v = .slice none 0 0:=by cases i with|v h=>cases h;rfl
   subst H;have s:=e da.length (by omega)
   exact .own (aE.1 s).1 (fun _ _=>dD _) (.mw n) fun _ M=>by omega
 .split at h
  .simp only[aw,ax]at h
   obtain⟨rfl,rfl,rfl⟩:=h;refine⟨da,k,rfl,⟨[],by simp⟩,by simp[cq],fun c T d g L e=>?_⟩
   cases i with
   |own E I p z=>exact .v (p.jA L.dq.bQ)
  .split at h<;>try(simp at h;done)
   rename_i j;split at h
   .rename_i J
    simp only[aw,ax]at h;obtain⟨rfl,rfl,rfl⟩:=h;refine⟨da,k,rfl,⟨[],by simp⟩,?_,fun c T d g L e=>(i.dq j L.dq y).norm⟩
    rw[kZ];exact qE (sU (BE j))
   .simp only[aw,ax]at h
    obtain⟨rfl,rfl,rfl⟩:=h;refine⟨da,k,rfl,⟨[],by simp⟩,?_,fun c T d g L e=>i.dq j L.dq y⟩
    rw[kZ];exact qE (BE j)
def uu(b:AV)(a:List AV):cq (b::a)=cq [b]++cq a:=by cases b<;>rfl
def uv{J:List (Option Nat)}{f:Nat->Nat}{S:Nat->Prop}{cons:List Nat}:∀(e:List AV)(s:List TypeId)(i:Nat)(ad da:List (Option Nat))(g:List AV)(gx:List (Option Nat))(m:Nat)(d:List Value),
  qB J ad da->hO P f cons s i e ad da.length=some (g,gx,m)->d.length=e.length->(∀(j:Nat)v a,d[j]?=some v->e[j]?=some a->aL G J w v a)->(∀a∈e,∀b∈a.refs,S b)->
  ∃t,qB J gx t/\t.length=m/\(∃l,t=da++l)/\g.length=e.length/\cq g=List.replicate (m-da.length) (some 0)/\
   ∀(n:Gh)(T o:List (Option Nat)),(∀(q:Nat)x,t[q]?=some x->o[q]?=some x)->U5 G n f S o->(∀q:Nat,q<m->T[q]?=some (some 0))->∀(j:Nat)v b,d[j]?=some v->g[j]?=some b->aL n T w v b
 |[],s,i,ad,da,g,gx,m,d,k,h,D,z,E=>by
  simp only[hO,aw,ax]at h;obtain⟨rfl,rfl,rfl⟩:=h;exact⟨da,k,rfl,⟨[],by simp⟩,rfl,by simp[cq],fun _ _ _ _ _ _ j v b _ V=>by simp at V⟩
 |a::e,s,i,ad,da,g,gx,m,d,k,h,D,z,E=>by
  simp only[hO]at h;split at h<;>try(simp at h;done)
  rename_i b a3 kA a2;split at h<;>try(simp at h;done)
  rename_i a0 a4 kB Z;simp only[aw,ax]at h;obtain⟨rfl,rfl,rfl⟩:=h;cases d with
  |nil=>simp at D
  |cons v d=>
   obtain⟨I,W,K,⟨l1,M⟩,F,A⟩:=F2 (S:=S) k a2 (z 0 v a rfl rfl) (E a (aS ..));rw[<-K]at Z;obtain⟨Y,a1,R,⟨l2,y⟩,B,C,N⟩:=uv e s.tail (i+1) a3 I a0 a4 kB d W Z (by simpa using D) (fun j v a U p=>z (j+1) v a (by simpa using U) (by simpa using p)) (fun a h=>E a (aP _ h))
   have Ov:da.length<=I.length:=by rw[M];simp
   have MP:I.length<=Y.length:=by rw[y];simp
   refine⟨Y,a1,R,⟨l1++l2,by rw[y,M];simp⟩,by simp[B],?_,fun n T o p L Q j u c H r=>?_⟩
   .rw[uu,F,C,<-K,List.replicate_append_replicate]
    congr 1
    omega
   .cases j with
    |zero=>
     simp at H r;subst H;subst r;exact A n T o (fun q x X=>p q x (by rw[y,bX (aE.1 X).1];exact X)) L (fun q hq=>Q q (by omega))
    |succ j=>exact N n T o p L Q j u c (by simpa using H) (by simpa using r)
end
def uw:∀(xs:List Bx)(nb:Nat)(heap h:List Bx),cm nb xs heap=some h->(∀i,i<xs.length->heap[nb+i]?=some .free)/\h.length=heap.length /\
  ∀b:Nat,h[b]?=if nb<=b/\b<nb+xs.length then xs[b-nb]? else heap[b]?
 |[],nb,heap,h,a=>by
  simp only[cm,aw]at a;subst a;exact⟨by simp,rfl,fun b=>by rw[aI (by simp only[cO];omega)]⟩
 |x::xs,nb,heap,h,a=>by
  simp only[cm]at a;split at a<;>try(simp at a;done)
  rename_i f;obtain⟨g,j,k⟩:=uw xs (nb+1) _ h a;refine⟨fun i l=>?_,by simpa using j,fun b=>?_⟩
  .cases i with
   |zero=>exact f
   |succ i=>
    have:=g i (by simpa using l)
    rw[bM (by omega)]at this
    rw[show nb+(i+1)=nb+1+i by omega]
    exact this
  .rw[k b]
   by_cases c:b=nb
   .subst c
    rw[aI (by omega),aF ⟨ar _,by simp⟩,bN (aE.1 f).1]
    simp
   .by_cases d:nb+1<=b/\b<nb+1+xs.length
    .rw[aF d,aF ⟨by omega,by simp;omega⟩,show b-nb=(b-(nb+1))+1 by omega]
     simp
    .rw[aI d,aI (by simp;omega),bM (fun e=>c e.symm)]
def ux(f:Nat->Nat):∀(a:List Nat)(c heap:List Bx),a.Nodup->a.length<=c.length->(gT f a c heap).length=heap.length /\
  ∀b:Nat,(gT f a c heap)[b]?=if b∈a/\b<heap.length then(c[a.idxOf b]?).map (Bx.dq f)else heap[b]?
 |[],c,heap,_,_=>by
  cases c<;>exact⟨rfl,fun b=>by simp[gT]⟩
 |l::a,[],heap,_,h=>by simp at h
 |l::a,x::c,heap,m,h=>by
  obtain⟨n,o⟩:=hH.1 m;obtain⟨j,k⟩:=ux f a c (heap.set l (x.dq f)) o (by simpa using h)
  refine⟨by rw[gT,j];simp,fun b=>?_⟩
  rw[gT,k b];simp only[eH];by_cases g:b=l
  .subst g
   rw[aI (fun h=>n h.1)]
   by_cases i:b<heap.length
   .rw[aF ⟨aS ..,i⟩,bN i,List.idxOf_cons_self]
    rfl
   .rw[aI (fun h=>i h.2),ee (by simpa using i),ee (by omega)]
  .have p:(l::a).idxOf b=a.idxOf b+1:=by
    rw[List.idxOf_cons];have:(l==b)=false:=by simpa using fun e:l=b=>g e.symm
    rw[this];rfl
   by_cases d:b∈a/\b<heap.length
   .rw[aF d,aF ⟨aP _ d.1,d.2⟩,p]
    simp
   .rw[aI d,aI (fun h=>d ⟨(aU.1 h.1).resolve_left g,h.2⟩),bM (fun e=>g e.symm)]
def AU(a:List Nat)(nb m b:Nat):Option Nat:=
 if b∈a then some (a.idxOf b)else if nb<=b/\b<nb+m then some (a.length+(b-nb))else none
def It(a:List Nat)(nb j:Nat):Nat:=match decide (j<a.length)with
 |true=>a.getD j 0
 |false=>nb+(j-a.length)
def F3{a:List Nat}{nb m j:Nat}(c:a.Nodup)(d:∀i,i<m->nb+i∉a)(e:j<a.length+m):AU a nb m (It a nb j)=some j:=by
 unfold AU It;by_cases h:j<a.length
 .have b:a[j]?=some (a.getD j 0):=by rw[bS,bk h];rfl
  simp only[h,decide_true];rw[aF (aK b),vw c b]
 .simp only[h,decide_false]
  rw[aI (d _ (by omega)),aF ⟨by omega,by omega⟩]
  congr 1
  omega
def KH{a:List Nat}{nb m b j:Nat}(h:AU a nb m b=some j):It a nb j=b/\j<a.length+m:=by
 unfold AU at h;unfold It;split at h
 .rename_i c
  obtain rfl:=au h;have d:=x8 c;have e:=lX c;simp only[d,decide_true];exact⟨by rw[bS,e];rfl,by omega⟩
 .split at h<;>try(simp at h;done)
  obtain rfl:=au h;have:¬(a.length+(b-nb)<a.length):=by omega
  simp only[this,decide_false];exact⟨by omega,by omega⟩
def ot(a:List Nat)(nb m nt:Nat)(bA:Bool):Hd->Option Hd
 |.box b=>(AU a nb m b).map .box
 |.cell b j=>(AU a nb m b).map fun i=>.cell i j
 |.nO b k=>(AU a nb m b).map fun i=>.nO i k
 |.tok t=>if bA=true/\nt<=t then some (.tok (t-nt))else none
def Gh.back(G a:Gh)(c:List Nat)(da:List (Option Nat))(nb m nt:Nat)(bA:Bool):Gh where
 bQ:=a.bQ
 h:=fun x=>match ot c nb m nt bA x with
  |some y=>a.h y
  |none=>match x with
   |.tok t=>if some t∈da\/nt<=t then none else G.h (.tok t)
   |x=>G.h x
 val:=fun b=>match AU c nb m b with
  |some i=>a.val i
  |none=>G.val b
 bz:=fun b=>match AU c nb m b with
  |some i=>a.bz i
  |none=>G.bz b
def Gh.Ow(G f:Gh){e:List Nat}(da:List (Option Nat)){nb m nt:Nat}(bA:Bool)(c:e.Nodup)(d:∀i,i<m->nb+i∉e):lh f (G.back f e da nb m nt bA) (It e nb) (· < e.length+m) where
 bQ:=rfl
 bz:=fun b a h=>by simp only[Gh.back,F3 c d a];exact h
 val:=fun b a=>by simp only[Gh.back,F3 c d a]
 box:=fun b a=>by simp only[Gh.back,ot,F3 c d a,cP]
 cell:=fun b j a=>by simp only[Gh.back,ot,F3 c d a,cP]
 nO:=fun b k a=>by simp only[Gh.back,ot,F3 c d a,cP]
section
variable {P:Program} {w0:World} {aJ:Nat->Nat} {O:Nat->Prop} {G:Gh} {ad:List (Option Nat)} {heap:List Bx} {w:World}
def Ox(a:List Nat)(nb nt:Nat):Hd->Hd
 |.box i=>.box (It a nb i)
 |.cell i j=>.cell (It a nb i) j
 |.nO i k=>.nO (It a nb i) k
 |.tok q=>.tok (nt+q)
def U6{b:List Nat}{nb m nt:Nat}{bA:Bool}{x z:Hd}(h:ot b nb m nt bA x=some z):x=Ox b nb nt z:=by
 cases x<;>simp only[ot]at h
 .obtain⟨i,a,rfl⟩:=aX.1 h
  simp[Ox,(KH a).1]
 .obtain⟨i,a,rfl⟩:=aX.1 h
  simp[Ox,(KH a).1]
 .obtain⟨i,a,rfl⟩:=aX.1 h
  simp[Ox,(KH a).1]
 .split at h<;>try(simp at h;done)
  rename_i c;obtain rfl:=au h;simp only[Ox];congr 1
  omega
def Oy{a:List Nat}{nb m nt:Nat}{bA:Bool}(x y z:Hd)(b:ot a nb m nt bA x=some z)(c:ot a nb m nt bA y=some z):x=y:=(U6 b).trans (U6 c).symm
def yC{e:List Nat}{da:List (Option Nat)}{nb m nt:Nat}{bA:Bool}(j:Inv P w0 aJ O G heap w){x:Hd}{n:Nat}(d:ot e nb m nt bA x=none)(l:∀t,x = .tok t->some t∉da)(k:G.h x=some n):¬ ∃y,(G.o6 e da).h y=some n:=by
 rintro⟨y,o⟩;obtain⟨z,g,p⟩:=cI.1 o;obtain rfl:=j.inj _ _ _ k p;have f:∀i b:Nat,e[i]?=some b->AU e nb m b≠none:=fun i b h=>by
  unfold AU;rw[aF (aK h)];simp
 cases y<;>simp only[kz,aX]at g<;>obtain⟨a,c,rfl⟩:=g<;>simp only[ot,Option.map_eq_none_iff]at d
 .exact f _ _ c d
 .exact f _ _ c d
 .exact f _ _ c d
 .rw[Option.join_eq_some_iff]at c
  exact l _ rfl (aK c)
def Inv.MQ(a:Inv P w0 aJ O G heap w){g:List Nat}{da:List (Option Nat)}{m:List Bx}{e:Gh}{w':World}(c:Inv P w G.bQ (fun n=>∃x,(G.o6 g da).h x=some n) e m w'):my w0 aJ O w' e.bQ:=by
 refine⟨dF a.frame.size c.frame.size,c.frame.os.trans a.frame.os,c.frame.tape.trans a.frame.tape,c.frame.output.trans a.frame.output,fun b d f=>?_,a.frame.grow.trans c.frame.grow,c.frame.wI,a.frame.laid⟩
 have p:¬ ∃x,(G.o6 g da).h x=some b:=by
  rintro⟨y,o⟩;obtain⟨z,s,q⟩:=cI.1 o;exact f ((a.nf _ _ q).2 d)
 obtain⟨i,j⟩:=c.frame.DC b (gg d a.frame.size) p;obtain⟨k,l⟩:=a.frame.DC b d f;exact⟨i.trans k,j.trans l⟩
def Inv.Ti(d:Inv P w0 aJ O G heap w){gx:List (Option Nat)}{a:List Nat}{da:List (Option Nat)}{H:List Bx}{c:Gh}{w':World}{nb m:Nat}{bA:Bool}(k:Inv P w G.bQ (fun n=>∃x,(G.o6 a da).h x=some n) c H w'):
  (∀x y n,(G.back c a da nb m ad.length bA).h x=some n->(G.back c a da nb m ad.length bA).h y=some n->x=y)/\
  (∀x n,(G.back c a da nb m ad.length bA).h x=some n->n<w'.heap.size/\(n<w0.heap.size->O n)):=by
 have p:∀x n,(G.back c a da nb m ad.length bA).h x=some n->(∃y,ot a nb m ad.length bA x=some y/\c.h y=some n)\/(ot a nb m ad.length bA x=none/\G.h x=some n/\∀t,x = .tok t->some t∉da):=by
  intro x n h;simp only[Gh.back]at h;cases hb:ot a nb m ad.length bA x with
  |some y=>rw[hb]at h;exact .inl ⟨y,rfl,h⟩
  |none=>
   rw[hb]at h;right
   cases x with
   |tok t=>
    simp only at h;split at h<;>try(simp at h;done)
    rename_i E;exact⟨rfl,h,fun Q e=>by simp only[Hd.tok.injEq]at e;subst e;exact fun D=>E (.inl D)⟩
   |_=>exact⟨rfl,h,fun t e=>by simp at e⟩
 have mixed:∀y n x,c.h y=some n->ot a nb m ad.length bA x=none->G.h x=some n->(∀t,x = .tok t->some t∉da)->False:=by
  intro y n x f g q r;have l:=(d.nf _ _ q).1;exact yC d g r q ((k.nf _ _ f).2 l)
 refine⟨fun x y n f g=>?_,fun x n h=>?_⟩
 .rcases p x n f with⟨u,i,b⟩|⟨i,b,s⟩<;>rcases p y n g with⟨v,o,j⟩|⟨o,j,J⟩
  .obtain rfl:=k.inj _ _ _ b j
   exact Oy _ _ _ i o
  .exact(mixed _ _ _ b o j J).elim
  .exact(mixed _ _ _ j i b s).elim
  .exact d.inj _ _ _ b j
 .rcases p x n h with⟨u,i,b⟩|⟨i,b,s⟩
  .obtain⟨f,g⟩:=k.nf _ _ b
   refine⟨f,fun l=>?_⟩
   obtain⟨y,I⟩:=g (gg l d.frame.size);obtain⟨z,M,K⟩:=cI.1 I;exact(d.nf _ _ K).2 l
  .have:=d.nf _ _ b
   exact⟨gg this.1 k.frame.size,this.2⟩
def Inv.Oz(j:Inv P w0 aJ O G heap w){gx new:List (Option Nat)}{a:List Nat}{da:List (Option Nat)}{r:List Bx}{d:Gh}{w':World}{nb m:Nat}{bA:Bool}(k:qB ad gx da)
  (o:Inv P w G.bQ (fun n=>∃x,(G.o6 a da).h x=some n) d r w')(u:∀i,i<a.length->d.bz i/\d.val i=G.val (a.getD i 0))(H:∀i,i<m->heap[nb+i]?=some .free):
  cb G ad w (G.back d a da nb m ad.length bA) (gx++new) w':=by
 have l:∀b i,G.bz b->AU a nb m b=some i->i<a.length/\a.getD i 0=b:=by
  intro b i c h;unfold AU at h;split at h
  .rename_i f
   obtain rfl:=au h;exact⟨x8 f,by rw[bS,lX f];rfl⟩
  .split at h<;>try(simp at h;done)
   rename_i J;have:=j.box _ _ (H (b-nb) (by omega))
   rw[show nb+(b-nb)=b by omega]at this
   exact absurd c this
 refine⟨o.frame.grow,fun b c=>?_,fun b c=>?_,by simp[k.len],fun t n h z=>?_⟩
 .simp only[Gh.back]
  cases hf:AU a nb m b with
  |some i=>exact(u i (l b i c hf).1).1
  |none=>exact c
 .simp only[Gh.back]
  cases hf:AU a nb m b with
  |some i=>
   show d.val i=G.val b
   rw[(u i (l b i c hf).1).2,(l b i c hf).2]
  |none=>rfl
 .rw[bX (by rw[k.len];exact z)]at h
  have I:=k.bl _ _ h;refine⟨n,I,.inr ⟨rfl,fun b g=>?_⟩⟩
  have s:some t∉da:=by
   intro f;obtain⟨q,D⟩:=rM.1 f;have:=(k.gone _ _ D).2;rw[h]at this;simp at this
  have p:ot a nb m ad.length bA (.tok t)=none:=by simp only[ot];rw[aI (by omega)]
  have E:=yC j p (fun K e=>by simp only[Hd.tok.injEq]at e;subst e;exact s) g
  obtain⟨v,y⟩:=o.frame.DC b (j.nf _ _ g).1 E;refine⟨?_,y,v⟩;simp only[Gh.back,p];rw[aI (by rintro(h|h);exact s h;omega)]
  exact g
def yD{f:Nat->Nat}{x:Bx}(h:x.dq f = .free):x = .free:=by cases x<;>simp[Bx.dq]at h⊢
def Inv.back(o:Inv P w0 aJ O G heap w){gx new:List (Option Nat)}{a:List Nat}{da:List (Option Nat)}{c s:List Bx}{p:Gh}{w':World}{nb:Nat}{bA:Bool}(k:qB ad gx da)(J:a.Nodup)
  (Q:∀b∈a,∃x,heap[b]?=some x/\x.alive=true)(q:Inv P w G.bQ (fun n=>∃x,(G.o6 a da).h x=some n) p c w')(a1:∀i,i<a.length->p.bz i/\p.val i=G.val (a.getD i 0))(hlen:a.length<=c.length)
  (N:∀x∈c,x.simple=true)(z:∀x∈c,x.there=true)(L:∀x∈c,∀b∈x.refs,b<c.length)(A:cm nb ((c.drop a.length).map (Bx.dq (It a nb))) (gT (It a nb) a c heap)=some s):
  lh p (G.back p a da nb (c.length-a.length) ad.length bA) (It a nb) (· < c.length)/\
  Inv P w0 aJ O (G.back p a da nb (c.length-a.length) ad.length bA) s w'/\cb G ad w (G.back p a da nb (c.length-a.length) ad.length bA) (gx++new) w':=by
 obtain⟨f1,f2,f3⟩:=uw _ _ _ _ A;obtain⟨S,r⟩:=ux (It a nb) a c heap J hlen;have C:((c.drop a.length).map (Bx.dq (It a nb))).length=c.length-a.length:=by simp
 rw[C]at f1 f3;have Z:∀i,i<c.length-a.length->heap[nb+i]?=some .free:=by
  intro i E;have:=f1 i E;rw[r]at this;split at this
  .obtain⟨x,d,l⟩:=aX.1 this
   have H:=yD l;subst H;have:=z _ (aK d);simp[Bx.there]at this
  .exact this
 have M:∀i,i<c.length-a.length->nb+i∉a:=by
  intro i E f;obtain⟨x,d,F⟩:=Q _ f;rw[Z i E]at d;obtain rfl:=au d;simp[Bx.alive]at F
 have R:=Gh.Ow (nt:=ad.length) G p da bA J M;rw[show a.length+(c.length-a.length)=c.length by omega]at R
 have K:=o.Oz (new:=new) (bA:=bA) (nb:=nb) (m:=c.length-a.length) k q a1 Z;have D:∀b j,AU a nb (c.length-a.length) b=some j->s[b]?=(c[j]?).map (Bx.dq (It a nb)):=by
  intro b j h;unfold AU at h;rw[f3];split at h
  .rename_i f
   obtain rfl:=au h;rw[aI (fun u=>M (b-nb) (by omega) (by rw[show nb+(b-nb)=b by omega];exact f)),r]
   obtain⟨x,d,-⟩:=Q _ f;rw[aF ⟨f,(aE.1 d).1⟩]
  .split at h<;>try(simp at h;done)
   rename_i u;obtain rfl:=au h;rw[aF u,bp,jb]
 have Y:∀b,AU a nb (c.length-a.length) b=none->s[b]?=heap[b]?:=by
  intro b h;unfold AU at h;rw[f3];split at h
  .simp at h
  .rename_i f
   split at h
   .simp at h
   .rename_i u
    rw[aI u,r,aI (fun h=>f h.1)]
 obtain⟨inj,a0⟩:=o.Ti (gx:=gx) (bA:=bA) (nb:=nb) (m:=c.length-a.length) q;have V:=o.MQ q;refine⟨R,⟨V,fun b l=>?_,fun b bx g=>?_,inj,a0,fun b n g l=>?_⟩,K⟩
 .simp only[Gh.back]at l
  cases MR:AU a nb (c.length-a.length) b with
  |some j=>
   rw[MR]at l;have B:=q.nb j l;have:=D b j MR;rw[bk B]at this;exact(aE.1 this).1
  |none=>
   rw[MR]at l;rw[f2,S];exact o.nb b l
 .cases MR:AU a nb (c.length-a.length) b with
  |some j=>
   obtain⟨y,I⟩:=KH MR;rw[D b j MR]at g;obtain⟨x,d,rfl⟩:=aX.1 g;have f:=aK d;have:=(q.box j x d).Th (N _ f) (z _ f) R (by omega) (L x f)
   rw[y]at this;exact this
  |none=>
   rw[Y b MR]at g;refine(o.box b bx g).bA K.low (fun e=>?_) fun x n v d=>?_
   .subst e
    have:=o.box b _ g;simp only[Gh.back,MR];exact this
   .have T:ot a nb (c.length-a.length) ad.length bA x=none:=by
     cases x<;>simp only[Hd.on]at v<;>first|exact v.elim|(subst v;simp only[ot,MR,qm])
    have X:∀t,x≠.tok t:=fun t e=>by subst e;exact v
    have W:=yC (da:=da) o T (fun t e=>absurd e (X t)) d
    obtain⟨y,I⟩:=q.frame.DC n (o.nf _ _ d).1 W;refine⟨?_,I,y⟩;simp only[Gh.back,T];cases x with
    |tok t=>exact absurd rfl (X t)
    |_=>exact d
 .cases MR:AU a nb (c.length-a.length) b with
  |some j=>
   rw[D b j MR]at g;obtain⟨x,d,U⟩:=aX.1 g;have H:=yD U;subst H;have:=z _ (aK d);simp[Bx.there]at this
  |none=>
   rw[Y b MR]at g;simp only[Gh.back,ot,MR,qm]at l;exact o.dead b n g l
def qF:∀(l:List AV)(t:Nat)x,(cq l)[t]?=some x->x=some 0
 |[],t,x,h=>by simp[cq]at h
 |a::l,t,x,h=>by
  have b:cq (a::l)=cq l\/cq (a::l)=some 0::cq l:=by cases a<;>first|exact .inl rfl|exact .inr rfl
  rcases b with b|b<;>rw[b]at h
  .exact qF l t x h
  .cases t with
   |zero=>simp at h;exact h.symm
   |succ t=>exact qF l t x (by simpa using h)
def wJ{i M:Gh}{w':World}{bA:Bool}{f:Nat->Nat}{n:Nat}{L:Nat}{r0:List AV}{T2:List (Option Nat)}(R:lh M i f (· < L))(Z:bA=true->∀q,i.h (.tok (n+q))=M.h (.tok q)):
  ∀(r:List AV)(k:Nat)(l:List AV)(new:List (Option Nat))(e:List Value),ir bA f n r k=some (l,new)->e.length=r.length->(∀(j:Nat)v a,e[j]?=some v->r[j]?=some a->aL M (cq r0) w' v a)->
  (∀a∈r,∀b∈a.refs,b<L)->(∀(q:Nat)x,new[q]?=some x->T2[n+k+q]?=some x)->l.length=r.length/\∀(j:Nat)v b,e[j]?=some v->l[j]?=some b->aL i T2 w' v b
 |[],k,l,new,e,h,I,E,H,o=>by
  simp only[ir,aw,ax]at h;obtain⟨rfl,rfl⟩:=h;exact⟨rfl,fun j v b _ Q=>by simp at Q⟩
 |a::r,k,l,new,[],h,I,E,H,o=>by simp at I
 |a::r,k,l,new,v::e,h,I,E,H,o=>by
  have y:=E 0 v a rfl rfl;have step:∀(J:Nat)(d:List AV)(K:List (Option Nat)),ir bA f n r J=some (d,K)->(∀(q:Nat)x,K[q]?=some x->T2[n+J+q]?=some x)->d.length=r.length/\∀(j:Nat)v b,e[j]?=some v->d[j]?=some b->aL i T2 w' v b:=
   fun J d K D S=>wJ R Z r J d K e D (by simpa using I) (fun j v a p s=>E (j+1) v a (by simpa using p) (by simpa using s)) (fun a y=>H a (aP _ y)) S
  have put:∀{b:AV}{d:List AV},aL i T2 w' v b->(d.length=r.length/\∀(j:Nat)v b,e[j]?=some v->d[j]?=some b->aL i T2 w' v b)->(b::d).length=(a::r).length/\∀(j:Nat)u c,(v::e)[j]?=some u->(b::d)[j]?=some c->aL i T2 w' u c:=by
   intro b d Q D;refine⟨by simp[D.1],fun j u c p s=>?_⟩
   cases j with
   |zero=>simp at p s;subst p;subst s;exact Q
   |succ j=>exact D.2 j u c (by simpa using p) (by simpa using s)
  simp only[ir]at h;split at h
  .rename_i j m al
   cases hk:bA with
   |true=>
    simp only[hk,if_true]at h;split at h<;>try(simp at h;done)
    rename_i B;subst B;obtain⟨⟨d,t⟩,z,g⟩:=aX.1 h;simp only[ax]at g;obtain⟨rfl,rfl⟩:=g;subst hk;refine put ?_ (step _ _ _ z fun q x N=>by have:=o (q+1) x (by simpa using N);rw[show n+(j+1)+q=n+j+(q+1) by omega];exact this)
    cases y with
    |@own _ _ _ _ A len cap X U T Y=>
     have V:=o 0 _ rfl;refine .own (aE.1 V).1 (fun _ _=>dD _) (T.jA R.bQ) fun _=>?_
     have F:=qF r0 j _ (bk X);exact(Y (by rw[bk X,F])).eq R.bQ (Z rfl j)
   |false=>
    simp only[hk,jO,if_false]at h;obtain⟨⟨d,t⟩,z,g⟩:=aX.1 h;simp only[ax]at g;obtain⟨rfl,rfl⟩:=g;subst hk;refine put ?_ (step _ _ _ z o);cases y with
    |own X U T Y=>exact .v (T.jA R.bQ)
  .simp at h
  .split at h<;>try(simp at h;done)
   rename_i C;obtain⟨⟨d,t⟩,z,g⟩:=aX.1 h;simp only[ax]at g;obtain⟨rfl,rfl⟩:=g;exact put (y.dq C R (H a (aS ..))) (step _ _ _ z o)
def Inv.KI(c:Inv P w0 aJ O G heap w){b:Nat}{bx ue:Bx}(f:heap[b]?=some bx)(d:ue≠.free)(h:fY P G w b ue):Inv P w0 aJ O G (heap.set b ue) w where
 frame:=c.frame
 nb:=fun x a=>by simpa using c.nb x a
 box:=fun x y a=>by
  rw[il]at a;split at a
  .rename_i e
   subst e;split at a<;>simp at a
   subst a;exact h
  .exact c.box x y a
 inj:=c.inj
 nf:=c.nf
 dead:=fun x n a=>by
  rw[il]at a;split at a
  .split at a<;>simp at a
   exact absurd a d
  .exact c.dead x n a
def Inv.freeze(f:Inv P w0 aJ O G heap w){b n:Nat}{al:List (List PV)}(d:heap[b]?=some (.bc n al)\/heap[b]?=some (.tZ n al)):
  ∃q,Inv P w0 aJ O q (heap.set b (.tZ n al)) w/\cb G ad w q ad w/\bW q.bQ w (G.val b) (.sl n al):=by
 rcases d with d|d
 .obtain⟨x,y,h|⟨l,A,s⟩⟩:=f.box b _ d
  .obtain⟨v,X,elem,cap,H,M,D,Q,N,I,E⟩:=h
   have key:∀i j p,jI al i j=some p->∃u,X[i*n+j]?=some u/\i*n+j<al.length*n:=by
    intro i j p c;obtain⟨r,l,s⟩:=cI.1 c;have Y:=(aE.1 l).1;have Z:=(aE.1 s).1;rw[y r (aK l)]at Z;have B:i*n+n<=al.length*n:=by
     have:=dt n (show i+1<=al.length from Y)
     rw[bY]at this;omega
    have C:al.length*n<=cap*n:=dt n D;exact⟨X[i*n+j]'(by omega),cK (by omega),by omega⟩
   obtain⟨k,mk⟩:=f.write (ad:=ad) (br:=ad) H (w':=w) (gz:=kp G.bQ v (al.length*n)) rfl rfl rfl rfl (fun m J=>⟨rfl,qv _ _ J⟩) (by rw[I];exact dD _) (fun o L=>by rfl) (ar _) (fun t m K _=>⟨m,K,.inr ⟨rfl,by simp⟩⟩)
   have c:bW (kp G.bQ v (al.length*n)) w (G.val b) (.sl n al):=by
    rw[M];refine .sl v 0 al.length cap n al (fun i j=>(X[i*n+j]?).getD undef) rfl D y (fun i j p c=>?_) fun i j p c=>?_
    .obtain⟨u,g,F⟩:=key i j p c
     refine⟨?_,by rw[fx];omega⟩
     simp only[World.cell?,Q,g,cr];simp[g]
    .obtain⟨u,g,F⟩:=key i j p c
     simp only[g,mq];exact(E i j u p g c).grow k.grow
   refine⟨_,mk (heap.set b (.tZ n al)) (by simp) (fun b' T=>by rw[bM (fun e=>T e)]) (fun b' bx R z=>?_),k,c⟩
   have:b=b':=R;subst this;rw[bN (aE.1 d).1]at z;obtain rfl:=au z;exact⟨by simp,x,c⟩
  .have c:bW G.bQ w (G.val b) (.sl n al):=by
    rw[s,l];cases A with
    |none=>exact .mw n
    |some a=>exact .Is a n
   exact⟨G,f.KI d (by simp) ⟨x,c⟩,cb.refl _ _ _,c⟩
 .have h:=f.box b _ d
  exact⟨G,f.KI d (by simp) h,cb.refl _ _ _,h.2⟩
def wK:∀(d:List AV)(heap:List Bx)(k:List AV)(h:List Bx)(G:Gh)(o:List Value),Inv P w0 aJ O G heap w->freeze d heap=some (k,h)->o.length=d.length->(∀(j:Nat)v a,o[j]?=some v->d[j]?=some a->aL G ad w v a)->
  ∃g,Inv P w0 aJ O g h w/\cb G ad w g ad w/\k.length=d.length/\∀(j:Nat)v b,o[j]?=some v->k[j]?=some b->aL g ad w v b
 |[],heap,k,h,G,o,q,m,r,z=>by
  simp only[freeze,aw,ax]at m;obtain⟨rfl,rfl⟩:=m;exact⟨G,q,cb.refl _ _ _,rfl,fun j v b _ p=>by simp at p⟩
 |a::d,heap,k,h,G,[],q,m,r,z=>by simp at r
 |a::d,heap,k,h,G,v::o,q,m,r,z=>by
  have step:∀(E:List Bx)(i:Gh)(b:AV)(f:List AV)(l:List Bx),Inv P w0 aJ O i E w->cb G ad w i ad w->aL i ad w v b->Go.Ac.freeze d E=some (f,l)->
    ∃g,Inv P w0 aJ O g l w/\cb G ad w g ad w/\(b::f).length=(a::d).length/\∀(j:Nat)u c,(v::o)[j]?=some u->(b::f)[j]?=some c->aL g ad w u c:=by
   intro E i b f l y s p I;obtain⟨g,Q,K,T,X⟩:=wK d E f l i o y I (by simpa using r) fun j v a t x=>(z (j+1) v a (by simpa using t) (by simpa using x)).bA s
   refine⟨g,Q,s.trans K,by simp[T],fun j u c t x=>?_⟩
   cases j with
   |zero=>simp at t x;subst t;subst x;exact p.bA K
   |succ j=>exact X j u c (by simpa using t) (by simpa using x)
  have J:=z 0 v a rfl rfl;by_cases p:∃b,a = .bo b
  .obtain⟨b,rfl⟩:=p
   simp only[Go.Ac.freeze]at m;cases J with
   |bo Y Z=>
    split at m<;>try(simp at m;done)
    all_goals
     rename_i n al M;obtain⟨⟨f,l⟩,D,e⟩:=aX.1 m;simp only[ax]at e;obtain⟨rfl,rfl⟩:=e;first
     |obtain⟨i,y,s,H⟩:=q.freeze (ad:=ad) (.inl M)
      exact step _ i _ f l y s (.v H) D
     |obtain⟨i,y,s,H⟩:=q.freeze (ad:=ad) (.inr M)
      exact step _ i _ f l y s (.v H) D
  .have I:(Go.Ac.freeze d heap).map (fun(k,h)=>(a::k,h))=some (k,h):=by
    cases a<;>first|exact m|exact absurd ⟨_,rfl⟩ p
   obtain⟨⟨f,l⟩,D,e⟩:=aX.1 I;simp only[ax]at e;obtain⟨rfl,rfl⟩:=e;exact step _ G a f l q (cb.refl _ _ _) J D
def uy{f:Nat->Nat}:∀(j:List AV)(e:List TypeId)(i:Nat)(T d:List (Option Nat))(k:Nat)(l:List AV)(g:List (Option Nat))(m:Nat),hO P f [] e i j T k=some (l,g,m)->g=T/\hO P f [] e i j d k=some (l,d,m)
 |[],e,i,T,d,k,l,g,m,h=>by
  simp only[hO,aw,ax]at h;obtain⟨rfl,rfl,rfl⟩:=h;exact⟨rfl,rfl⟩
 |a::j,e,i,T,d,k,l,g,m,h=>by
  simp only[hO]at h;split at h<;>try(simp at h;done)
  rename_i b n o c;split at h<;>try(simp at h;done)
  rename_i u p kB v;simp only[aw,ax]at h;obtain⟨rfl,rfl,rfl⟩:=h;have q:n=T/\uc P e.head? false f a d k=some (b,d,o):=by
   simp only[List.contains_nil,uc]at c⊢;split at c
   .simp only[aw,ax]at c
    obtain⟨rfl,rfl,rfl⟩:=c;exact⟨rfl,rfl⟩
   .split at c<;>try(simp at c;done)
    rename_i x;split at c<;>simp only[aw,ax]at c<;>obtain⟨rfl,rfl,rfl⟩:=c<;>exact⟨rfl,rfl⟩
  obtain⟨rfl,s⟩:=q;obtain⟨rfl,t⟩:=uy j e.tail (i+1) n d o u p kB v;refine⟨rfl,?_⟩;simp only[hO,List.contains_nil,s,t]
def qG{f:Nat->Nat}:∀(l:List AV)(n c k b:Nat)(d:List AV)(new:List (Option Nat)),ir false f n l k=some (d,new)->new=[]/\ir false f c l b=some (d,[])
 |[],n,c,k,b,d,new,h=>by
  simp only[ir,aw,ax]at h;obtain⟨rfl,rfl⟩:=h;exact⟨rfl,rfl⟩
 |a::l,n,c,k,b,d,new,h=>by
  simp only[ir]at h⊢;split at h
  .simp only[jO,if_false]at h⊢
   obtain⟨⟨j,t⟩,i,e⟩:=aX.1 h;simp only[ax]at e;obtain⟨rfl,rfl⟩:=e;obtain⟨rfl,g⟩:=qG l n c k b j t i;exact⟨rfl,by rw[g];rfl⟩
  .simp at h
  .split at h<;>try(simp at h;done)
   rename_i m;obtain⟨⟨j,t⟩,i,e⟩:=aX.1 h;simp only[ax]at e;obtain⟨rfl,rfl⟩:=e;obtain⟨rfl,g⟩:=qG l n c k b j t i;refine⟨rfl,?_⟩;rw[g];rfl
def OA{d:List Value}{c:List AV}(h:c.length=d.length)(f:∀(j:Nat)v b,d[j]?=some v->c[j]?=some b->aL G ad w v b):aL G ad w (ur d) (Du c):=by
 unfold ur Du;split
 .rename_i v
  split
  .rename_i a
   exact f 0 v a rfl rfl
  .rename_i e
   exfalso;match c,h with
   |[a],_=>exact e a rfl
 .rename_i e
  split
  .rename_i a
   exfalso;match d,h with
   |[v],_=>exact e v rfl
  .exact .xg (by simpa using h.symm) fun i v a g k=>f i v a (by simpa using g) k
def I6{nb:Nat}{an:An}{g:FuncId}{s r:List AV}{Z:List Bx}{p:ly}{c:Bool}{k:List Value}(I:Inv P w0 aJ O G heap w)(hc:c=(an.bA || !an.cons.isEmpty))
  (h:qq P nb an g s r Z (if c then ad else[]) heap=some p)(K:k.length=s.length)(l:∀(j:Nat)v a,k[j]?=some v->s[j]?=some a->aL G ad w v a)
  (hs:∀x∈p.calls,yA P x.f x.args x.heap x.r x.sG):dj P (callFunc g k.toArray) w (Good P w0 aJ O G ad w p.v (if c then p.ad else ad) p.heap):=by
 unfold qq at h;split at h<;>try(simp at h;done)
 rename_i args u o;have b3:∃n,Inv P w0 aJ O n u w/\cb G ad w n ad w/\args.length=s.length/\∀(j:Nat)v b,k[j]?=some v->args[j]?=some b->aL n ad w v b:=by
  unfold Kz at o;split at o
  .exact wK s heap args u G k I o K l
  .simp only[aw,ax]at o
   obtain⟨rfl,rfl⟩:=o;exact⟨G,I,cb.refl _ _ _,rfl,l⟩
 obtain⟨z,F,k1,A,V⟩:=b3;clear I l o;unfold Dw at h;extract_lets ls YG f back at h
 split at h<;>try(simp at h;done)
 rename_i D gx kk L E;split at h<;>try(simp at h;done)
 rename_i C new h1 y U;obtain rfl:=au h;have a8:back=It ls nb:=rfl;rw[a8]at y U;simp only[bU]at L;obtain⟨⟨⟨⟨⟨⟨⟨⟨⟨⟨q1,q2⟩,q3⟩,q4⟩,B⟩,q6⟩,q7⟩,T⟩,q9⟩,a4⟩,a5⟩:=L;have T:=aN T;have both:∃e N,hO P f an.cons (N6 P an.cons g) 0 args ad 0=some (D,e,kk)/\ir an.bA (It ls nb) e.length r 0=some (C,N)/\(if c then gx++new else ad)=e++N:=by
  cases c with
  |true=>exact⟨gx,new,E,y,rfl⟩
  |false=>
   obtain⟨W,c2⟩:an.bA=false/\an.cons=[]:=by
    cases J:an.bA<;>cases hcs:an.cons<;>simp[J,hcs]at hc⊢
   rw[W]at y⊢;rw[c2]at E⊢;obtain⟨-,h2⟩:=uy _ _ _ _ ad _ _ _ _ E;obtain⟨-,h3⟩:=qG _ _ ad.length _ 0 _ _ y;exact⟨ad,[],h2,h3,by simp⟩
 obtain⟨e,N,b1,b2,X⟩:=both;clear E y;have Y:=qC _ q2;have a0:∀b∈ls,∃x,u[b]?=some x/\x.alive=true:=by
  intro b m;have:=bf.1 B (u.getD b .dead) (bg.2 ⟨b,m,rfl⟩);rw[bS]at this;cases d:u[b]? with
  |none=>rw[d]at this;simp[Bx.alive]at this
  |some x=>rw[d]at this;exact⟨x,rfl,this⟩
 obtain⟨da,Q,e1,-,e3,e4,e5⟩:=uv (S:=(· ∈ ls)) args (N6 P an.cons g) 0 ad [] D e kk k (qB.refl ad) b1 (K.trans A.symm) V fun a l b m=>by
  have:=bf.1 q9 b (fk.2 ⟨a,l,m⟩);simpa using this
 have a9:=F.o6 (da:=da) Y Q.inj q4 B q3;have b0:lj (z.o6 ls da) (cq D) w k D:=by
  refine⟨by rw[e3,K,A],e5 _ _ da (fun _ _ h=>h) ⟨z.F1 da,fun q t M=>by simp[Gh.o6,kz,M]⟩ fun q M=>?_⟩
  rw[e4];simp[M]
 refine(hs _ (cE.2 rfl) w (z.o6 ls da) _ k a9 b0).mono fun v w'⟨n,rv,hI,H,hv,a7⟩=>?_
 obtain⟨R,i2,k2⟩:=F.back (bA:=an.bA) (new:=N) Q Y a0 hI (fun i a2=>a7 i a2) T (fun x d=>bf.1 q6 x d) (fun x d=>bf.1 q7 x d)
  (fun x d b m=>aN (bf.1 a4 b (fk.2 ⟨x,d,m⟩))) U
 have a3:e.length=ad.length:=Q.len;have a6:an.bA=true->∀q,(z.back n ls da nb (Z.length-ls.length) ad.length an.bA).h (.tok (e.length+q))=n.h (.tok q):=by
  intro J q;simp only[Gh.back,ot];rw[aF ⟨J,by omega⟩]
  simp[a3]
 obtain⟨l2,r2⟩:=wJ (r0:=r) (T2:=e++N) R a6 r 0 C N rv b2 H.1 H.2 (fun a l b m=>aN (bf.1 a5 b (fk.2 ⟨a,l,m⟩))) fun q x d=>by
  rw[hE,ei (by omega)]
  simpa using d
 refine⟨_,?_,i2,?_⟩
 .subst hv
  show aL _ (if c then gx++new else ad) _ _ _
  rw[X];exact OA (l2.trans H.1.symm) r2
 .show cb _ _ _ _ (if c then gx++new else ad) _
  rw[X];exact k1.trans k2
def MS{e:Operand->Value}{ρ:Operand->AV}{o:Oper}{f:Operand}{args:Array Operand}{u:Array TypeId}{nb:Nat}{an:An}{k:Kd}{r:ly}{c:Bool}(z:o.op = .call {callee:=.value f,args:=args,argTypes:=u})(X:Inv P w0 aJ O G heap w)
  (i:qt G ad w e ρ o.op)(T:c=(an.bA || !an.cons.isEmpty))(h:core P nb o.op an k ρ (if c then ad else[]) heap=some r)(Z:∀x∈r.calls,yA P x.f x.args x.heap x.r x.sG):
  dj P (execOp e o) w (Good P w0 aJ O G ad w r.v (if c then r.ad else ad) r.heap):=by
 rw[z]at h i;have D:∀x∈(Op.call {callee:=.value f,args:=args,argTypes:=u}).operands.toList,aL G ad w (e x) (ρ x):=i;have q:aL G ad w (e f) (ρ f):=D f (by simp[Op.operands,Call.operands])
 have C:∀x∈args.toList,aL G ad w (e x) (ρ x):=fun x i=>D x (by simp only[Op.operands,Call.operands];simp;exact .inr (by simpa using i))
 simp only[core]at h;split at h<;>try(simp at h;done)
 rename_i g first cap N L m
 have A:ρ f = .fn (.func g) first cap:=by
  unfold Dv at m;split at m<;>simp at m
  rename_i R;obtain⟨rfl,rfl,rfl⟩:=m;exact R
 rw[A]at q;generalize Q:e f=V at q;cases q with
 |@fn _ fi I _ _ p J K M=>
  have B:execOp e o=callFunc g (fi.toList++args.toList.map e++I.toList).toArray:=by
   simp[execOp,z,resolve,Q,Deferred.ofValue,invoke];congr 1
   apply Array.ext';simp
  rw[B];refine I6 X T h (by simp[p,J]) (fun j v a d b=>?_) Z
  have key:∀(xs t:List Value)(l n:List AV),xs.length=l.length->(∀(j:Nat)v a,xs[j]?=some v->l[j]?=some a->aL G ad w v a)->(∀(j:Nat)v a,t[j]?=some v->n[j]?=some a->aL G ad w v a)->
    ∀(j:Nat)v a,(xs++t)[j]?=some v->(l++n)[j]?=some a->aL G ad w v a:=by
   intro xs t l n Y i F j v a d b;rcases bR j xs.length with s|s
   .rw[bX s]at d
    rw[bX (by omega)]at b
    exact i j v a d b
   .rw[ei s]at d
    rw[ei (by omega),<-Y]at b
    exact F _ v a d b
  refine key _ _ _ _ (by simp[p]) (key _ _ _ _ (by simpa using p) (fun j v a d b=>K j v a (by simpa using d) b) fun j v a d b=>?_) (fun j v a d b=>M j v a (by simpa using d) b) j v a d b
  simp only[bp]at d b;obtain⟨x,E,rfl⟩:=aX.1 d;obtain⟨y,H,rfl⟩:=aX.1 b;rw[E]at H;obtain rfl:=au H;exact C x (aK E)
def OB{e:Operand->Value}{ρ:Operand->AV}{o:Oper}{nb:Nat}{an:An}{k:Kd}{r:ly}(c:Inv P w0 aJ O G heap w)
  (d:qt G ad w e ρ o.op)(h:core P nb o.op an k ρ (if(cL o.op an nb).tk then ad else[]) heap=some r)(g:∀q∈r.du,q)(i:∀x∈r.calls,yA P x.f x.args x.heap x.r x.sG):
  dj P (execOp e o) w (Good P w0 aJ O G ad w r.v (if(cL o.op an nb).tk then r.ad else ad) r.heap):=by
 by_cases a:∃f args b,o.op = .call {callee:=.value f,args:=args,argTypes:=b}
 .obtain⟨f,args,b,a⟩:=a
  refine MS a c d ?_ h i;rw[a];rfl
 .exact MO c d h g fun f args b e=>a ⟨f,args,b,e⟩
end
structure eE (S:Nat->Prop) (eu hv heap:List Bx):Prop where
 inn:∀b:Nat,S b->hv[b]?=heap[b]?
 eX:∀b:Nat,¬S b->heap[b]?=eu[b]?/\(hv[b]?=none\/hv[b]?=some .dead)
 len:heap.length=eu.length
section
variable {S:Nat->Prop} {eu hv heap:List Bx}
def eE.get(s:eE S eu hv heap){b:Nat}{x:Bx}(h:hv[b]?=some x)(d:x≠.dead):heap[b]?=some x/\S b:=by
 by_cases a:S b
 .exact⟨(s.inn b a).symm.trans h,a⟩
 .rcases(s.eX b a).2 with c|c<;>rw[c]at h
  .simp at h
  .exact absurd (au h).symm d
def eE.set(s:eE S eu hv heap){b:Nat}{x:Bx}(h:hv[b]?=some x)(f:x≠.dead)(y:Bx):eE S eu (hv.set b y) (heap.set b y):=by
 obtain⟨c,d⟩:=s.get h f;refine⟨fun b' a=>?_,fun b' a=>?_,by simpa using s.len⟩
 .by_cases e:b=b'
  .subst e
   rw[bN (aE.1 h).1,bN (aE.1 c).1]
  .rw[bM e,bM e]
   exact s.inn b' a
 .have e:b≠b':=fun e=>a (e▸d)
  rw[bM e,bM e];exact s.eX b' a
def eE.fill:∀(xs:List Bx)(nb:Nat){hv heap h:List Bx},eE S eu hv heap->cm nb xs hv=some h->∃b,cm nb xs heap=some b/\eE S eu h b
 |[],nb,hv,heap,h,s,a=>by
  simp only[cm,aw]at a;subst a;exact⟨heap,rfl,s⟩
 |x::xs,nb,hv,heap,h,s,a=>by
  simp only[cm]at a;split at a<;>try(simp at a;done)
  rename_i c;obtain⟨d,-⟩:=s.get c (by simp)
  simp only[cm,d];exact eE.fill xs (nb+1) (s.set c (by simp) x) a
def eE.F4(s:eE S eu hv heap){xs:List Bx}{nb:Nat}{F:List Bx->ly}{r:ly}(c:∀h a,F a={F h with heap:=a}/\(F h).heap=h)(h:(cm nb xs hv).map F=some r):
  ∃a,(cm nb xs heap).map F=some {r with heap:=a}/\eE S eu r.heap a:=by
 obtain⟨b,d,rfl⟩:=aX.1 h;obtain⟨a,f,e⟩:=eE.fill xs nb s d;exact⟨a,by rw[f];simp only[cP];rw[(c b a).1],by rw[(c b a).2];exact e⟩
def eE.freeze:∀(d:List AV){hv heap:List Bx}{c:List AV}{h:List Bx},eE S eu hv heap->Go.Ac.freeze d hv=some (c,h)->∃g,Go.Ac.freeze d heap=some (c,g)/\eE S eu h g
 |[],hv,heap,c,h,s,f=>by
  simp only[Go.Ac.freeze,aw,ax]at f;obtain⟨rfl,rfl⟩:=f;exact⟨heap,rfl,s⟩
 |a::d,hv,heap,c,h,s,f=>by
  by_cases l:∃b,a = .bo b
  .obtain⟨b,rfl⟩:=l
   simp only[Go.Ac.freeze]at f;split at f<;>try(simp at f;done)
   all_goals
    rename_i n al o;obtain⟨⟨p,g⟩,m,e⟩:=aX.1 f;simp only[ax]at e;obtain⟨rfl,rfl⟩:=e;obtain⟨i,j,k⟩:=eE.freeze d (s.set o (by simp) (.tZ n al)) m
    exact⟨i,by simp only[Go.Ac.freeze,(s.get o (by simp)).1,j,cP],k⟩
  .have q:(Go.Ac.freeze d hv).map (fun(c,h)=>(a::c,h))=some (c,h):=by
    cases a<;>first|exact f|exact absurd ⟨_,rfl⟩ l
   obtain⟨⟨p,g⟩,m,e⟩:=aX.1 q;simp only[ax]at e;obtain⟨rfl,rfl⟩:=e;obtain⟨i,j,k⟩:=eE.freeze d s m;refine⟨i,?_,k⟩;have:Go.Ac.freeze (a::d) heap=(Go.Ac.freeze d heap).map (fun(c,h)=>(a::c,h)):=by
    cases a<;>first|rfl|exact absurd ⟨_,rfl⟩ l
   rw[this,j];rfl
def vx(heap:List Bx):∀(n:Nat)(l a:List Nat){b:Nat},b∈a->b∈reach heap n l a
 |0,l,a,b,h=>by cases l<;>simpa[reach]using h
 |n+1,[],a,b,h=>by simpa[reach]using h
 |n+1,x::l,a,b,h=>by
  simp only[reach];split
  .exact vx heap n l a h
  .exact vx heap n _ _ (dL _ h)
def BF{h:List Bx}{b:Nat}(a:(h.getD b .dead).alive=true):h[b]?=some (h.getD b .dead)/\h.getD b .dead≠.dead:=by
 rw[bS]at a⊢;cases hx:h[b]? with
 |none=>rw[hx]at a;simp[Bx.alive]at a
 |some x=>
  rw[hx]at a;refine⟨rfl,fun e=>?_⟩
  simp only[mq]at a e;rw[e]at a;simp[Bx.alive]at a
def eE.getD(s:eE S eu hv heap){b:Nat}(d:(hv.getD b .dead).alive=true):heap.getD b .dead=hv.getD b .dead:=by
 obtain⟨a,c⟩:=BF d;rw[bS,(s.get a c).1];rfl
def eE.reach(s:eE S eu hv heap):∀(n:Nat)(l a:List Nat),(∀b∈Go.Ac.reach hv n l a,b∈a\/(hv.getD b .dead).alive=true)->Go.Ac.reach heap n l a=Go.Ac.reach hv n l a
 |0,l,a,h=>by cases l<;>rfl
 |n+1,[],a,h=>by rfl
 |n+1,x::l,a,h=>by
  simp only[Go.Ac.reach]at h⊢;split
  .rename_i c
   rw[c]at h;exact eE.reach s n l a h
  .rename_i c
   rw[c]at h;have g:=(h x (vx _ _ _ _ (by simp))).resolve_left fun f=>by
    have:a.contains x=true:=by simpa using f
    rw[c]at this;simp at this
   rw[s.getD g];refine eE.reach s n _ _ fun b e=>?_
   rcases h b e with d|d
   .exact .inl (dL _ d)
   .exact .inr d
def eE.gT(f:Nat->Nat):∀(a:List Nat)(c:List Bx){hv heap:List Bx},eE S eu hv heap->a.Nodup->(∀b∈a,∃x,hv[b]?=some x/\x≠.dead)->eE S eu (Go.Ac.gT f a c hv) (Go.Ac.gT f a c heap)
 |[],c,hv,heap,s,_,_=>by cases c<;>exact s
 |b::a,[],hv,heap,s,_,_=>s
 |b::a,x::c,hv,heap,s,i,d=>by
  obtain⟨j,m⟩:=hH.1 i;obtain⟨y,k,n⟩:=d b (aS ..);simp only[Go.Ac.gT];refine eE.gT f a c (s.set k n _) m fun b' g=>?_
  obtain⟨z,l,o⟩:=d b' (aP _ g);exact⟨z,by rw[bM (fun e=>by subst e;exact j g)];exact l,o⟩
section
variable {P:Program}
def eE.qq(s:eE S eu hv heap){nb:Nat}{an:An}{g:FuncId}{k r:List AV}{l:List Bx}{T:List (Option Nat)}{o:ly}(h:qq P nb an g k r l T hv=some o):
  ∃e,Go.Ac.qq P nb an g k r l T heap=some {o with heap:=e}/\eE S eu o.heap e:=by
 unfold Go.Ac.qq at h⊢;split at h<;>try(simp at h;done)
 rename_i args d c;have I:∃e,Kz an k heap=some (args,e)/\eE S eu d e:=by
  unfold Kz at c⊢;split at c
  .exact eE.freeze k s c
  .simp only[aw,ax]at c
   obtain⟨rfl,rfl⟩:=c;exact⟨heap,rfl,s⟩
 obtain⟨t,q,m⟩:=I;rw[q];clear c q;simp only;unfold Dw at h⊢;extract_lets ls YG f back at h
 extract_lets Yo YH f' YI
 split at h<;>try(simp at h;done)
 rename_i X gx kk p M;split at h<;>try(simp at h;done)
 rename_i N new Y Q J;obtain rfl:=au h;have y:=p;simp only[bU]at p;obtain⟨⟨⟨⟨⟨⟨⟨⟨⟨⟨Z,D⟩,F⟩,A⟩,E⟩,R⟩,B⟩,C⟩,L⟩,U⟩,V⟩:=p;have n:∀b∈ls,(d.getD b .dead).alive=true:=fun b a=>bf.1 E _ (bg.2 ⟨b,a,rfl⟩)
 have i:Yo=ls:=by
  show(match an.fz with|true=>[]|false=>Go.Ac.reach t 100 (args.flatMap AV.refs) [])=(match an.fz with|true=>[]|false=>Go.Ac.reach d 100 (args.flatMap AV.refs) [])
  have u:∀b∈(match an.fz with|true=>[]|false=>Go.Ac.reach d 100 (args.flatMap AV.refs) []),(d.getD b .dead).alive=true:=n
  cases hz:an.fz with
  |true=>rfl
  |false=>
   rw[hz]at u;exact m.reach 100 _ [] fun b a=>.inr (u b a)
 have K:YH=YG:=by
  show Yo.map (fun b=>t.getD b .dead)=ls.map fun b=>d.getD b .dead
  rw[i];exact rL fun b a=>m.getD (n b a)
 have z:f'=f:=by
  show(fun b=>Yo.idxOf b)=fun b=>ls.idxOf b
  rw[i]
 have a:YI=back:=by
  show(fun j=>match decide (j<Yo.length)with|true=>Yo.getD j 0|false=>nb+(j-Yo.length))=fun j=>match decide (j<ls.length)with|true=>ls.getD j 0|false=>nb+(j-ls.length)
  rw[i]
 obtain⟨x,v,H⟩:=eE.fill _ nb (eE.gT back ls l m (qC _ D) fun b a=>⟨_,BF (n b a)⟩) J
 refine⟨x,?_,H⟩;rw[i,K,z,a,y,M];simp only[Q,v]
def gi(S:Nat->Prop)(eu heap:List Bx)(c:nN)(X:Option ly)(r:ly):Prop:=
 ∃a,X=some {r with heap:=a}/\eE S eu r.heap a/\(c.hr=true->c.hw=false->a=heap)
def gi.of(s:eE S eu hv heap){c:nN}{X:Option ly}{r:ly}(a:r.heap=hv)(h:X=some {r with heap:=heap}):gi S eu heap c X r:=⟨heap,h,by rw[a];exact s,fun _ _=>rfl⟩
def gi.set(s:eE S eu hv heap){c:nN}{X:Option ly}{r:ly}{b:Nat}{x y:Bx}(a:hv[b]?=some x)(f:x≠.dead)(d:c.hw=true)(e:r.heap=hv.set b y)(h:X=some {r with heap:=heap.set b y}):gi S eu heap c X r:=
 ⟨heap.set b y,h,by rw[e];exact s.set a f y,fun _ h=>by rw[d]at h;simp at h⟩
def gi.fill(s:eE S eu hv heap){c:nN}{X:List Bx->Option ly}{r:ly}{nb:Nat}{xs:List Bx}(g:c.hw=true){F:List Bx->ly}(e:∀h a,F a={F h with heap:=a}/\(F h).heap=h)(f:∀h,X h=(cm nb xs h).map F)
  (h:X hv=some r):gi S eu heap c (X heap) r:=by
 rw[f]at h⊢;obtain⟨a,b,d⟩:=s.F4 e h;exact⟨a,b,d,fun _ h=>by rw[g]at h;simp at h⟩
def gi.plain{o:Op}{an:An}{k:Kd}{ρ:Operand->AV}{T:List (Option Nat)}{c:nN}{r:ly}(s:eE S eu hv heap)(h:(plain P o an k ρ).map (fun(v,l)=>({v,ad:=T,heap:=hv,du:=l}:ly))=some r):
  gi S eu heap c ((Ac.plain P o an k ρ).map (fun(v,l)=>({v,ad:=T,heap,du:=l}:ly))) r:=by
 obtain⟨⟨v,l⟩,a,rfl⟩:=aX.1 h;exact⟨heap,by rw[a];rfl,s,fun _ _=>rfl⟩
def eE.look(s:eE S eu hv heap)(b:Nat):hv[b]?=none\/hv[b]?=some .dead\/∃x,hv[b]?=some x/\x≠.dead/\heap[b]?=some x:=by
 cases hb:hv[b]? with
 |none=>exact .inl rfl
 |some x=>
  by_cases a:x = .dead
  .subst a;exact .inr (.inl rfl)
  .exact .inr (.inr ⟨x,rfl,a,(s.get hb a).1⟩)
def MT{o:Op}{nb:Nat}{an:An}{k:Kd}{ρ:Operand->AV}{T:List (Option Nat)}{r:ly}(s:eE S eu hv heap)(h:core P nb o an k ρ T hv=some r):gi S eu heap (cL o an nb) (core P nb o an k ρ T heap) r:=by
 have pl:(∀z,core P nb o an k ρ T z=(plain P o an k ρ).map (fun(v,l)=>({v,ad:=T,heap:=z,du:=l}:ly)))->gi S eu heap (cL o an nb) (core P nb o an k ρ T heap) r:=by
  intro J;rw[J]at h⊢;exact gi.plain s h
 cases o
 case alloc t=>
  simp only[core]at h⊢;split at h<;>try(simp at h;done)
  split at h<;>try(simp at h;done)
  exact gi.fill s rfl (F:=fun h=>{v:=.aA nb 0,ad:=_,heap:=h}) (fun _ _=>⟨rfl,rfl⟩) (X:=fun h=>(cm nb _ h).map _) (fun _=>rfl) h
 case box t x=>
  simp only[core]at h⊢;split at h<;>try(simp at h;done)
  split at h<;>try(simp at h;done)
  exact gi.fill s rfl (F:=fun h=>{v:=.aA nb 0,ad:=_,heap:=h}) (fun _ _=>⟨rfl,rfl⟩) (X:=fun h=>(cm nb _ h).map _) (fun _=>rfl) h
 case makeSlice t x y=>
  simp only[core]at h⊢;split at h<;>try(simp at h;done)
  split at h<;>try(simp at h;done)
  split at h<;>try(simp at h;done)
  exact gi.fill s rfl (F:=fun h=>{v:=.bo nb,ad:=_,heap:=h,du:=_}) (fun _ _=>⟨rfl,rfl⟩) (X:=fun h=>(cm nb _ h).map _) (fun _=>rfl) h
 case makeMap t y=>
  cases y with
  |some y=>exact pl fun _=>rfl
  |none=>
   simp only[core]at h⊢;split at h<;>try(simp at h;done)
   exact gi.fill s rfl (F:=fun h=>{v:=.mp nb,ad:=_,heap:=h}) (fun _ _=>⟨rfl,rfl⟩) (X:=fun h=>(cm nb _ h).map _) (fun _=>rfl) h
 case lookup t m i ok=>
  simp only[core]at h⊢;split at h<;>try(simp at h;done)
  rename_i b key Q I o q K M;rcases s.look b with d|d|⟨x,d,g,e⟩<;>rw[d]at h<;>try(simp at h;done)
  rw[e];split at h<;>try(simp at h;done)
  split at h<;>try(simp at h;done)
  split at h
  .split at h<;>obtain rfl:=au h
   .rename_i H
    exact gi.set s d g (by simp[cL,H]) rfl rfl
   .exact gi.of s rfl rfl
  .split at h<;>try(simp at h;done)
   obtain rfl:=au h;exact gi.of s rfl rfl
  .obtain rfl:=au h
   exact gi.of s rfl rfl
 case mapUpdate t m i x=>
  simp only[core]at h⊢;split at h<;>try(simp at h;done)
  rename_i b key Q I q K M;rcases s.look b with d|d|⟨x,d,g,e⟩<;>rw[d]at h<;>try(simp at h;done)
  rw[e];split at h<;>try(simp at h;done)
  split at h<;>try(simp at h;done)
  obtain rfl:=au h;exact gi.set s d g rfl rfl rfl
 case store t a x=>
  simp only[core]at h⊢;split at h<;>try(simp at h;done)
  .rename_i b off q
   rcases s.look b with d|d|⟨x,d,g,e⟩<;>rw[d]at h<;>try(simp at h;done)
   rw[e];split at h<;>try(simp at h;done)
   obtain⟨⟨cs,tk⟩,j,rfl⟩:=aX.1 h;exact gi.set s d g rfl rfl (by rw[j];rfl)
  .rename_i b _ _ _ _ _ q
   rcases s.look b with d|d|⟨x,d,g,e⟩<;>rw[d]at h<;>try(simp at h;done)
   rw[e];split at h<;>try(simp at h;done)
   split at h<;>try(simp at h;done)
   split at h<;>try(simp at h;done)
   obtain rfl:=au h;exact gi.set s d g rfl rfl rfl
  .rename_i b _ _ _ q
   rcases s.look b with d|d|⟨x,d,g,e⟩<;>rw[d]at h<;>try(simp at h;done)
   rw[e];split at h<;>try(simp at h;done)
   split at h<;>try(simp at h;done)
   obtain rfl:=au h;exact gi.set s d g rfl rfl rfl
 case load t x=>
  by_cases D:an.fz=true
  .refine pl fun z=>?_
   simp only[core,D]
  .have D:an.fz=false:=by simpa using D
   simp only[core,D]at h⊢;split at h
   .rename_i b off q _
    rcases s.look b with d|d|⟨x,d,g,e⟩<;>rw[d]at h<;>try(simp at h;done)
    rw[e];split at h<;>try(simp at h;done)
    split at h
    .rename_i H _ _
     obtain rfl:=au h;exact gi.set s d g (by simp[cL,D,H]) rfl rfl
    .obtain⟨v,j,rfl⟩:=aX.1 h
     exact gi.of s rfl (by rw[j];rfl)
   .rename_i b _ _ _ _ _ q _
    rcases s.look b with d|d|⟨x,d,g,e⟩<;>rw[d]at h<;>try(simp at h;done)
    rw[e];split at h<;>try(simp at h;done)
    split at h<;>try(simp at h;done)
    obtain rfl:=au h;exact gi.of s rfl rfl
   .rename_i b _ _ _ q _
    rcases s.look b with d|d|⟨x,d,g,e⟩<;>rw[d]at h<;>try(simp at h;done)
    rw[e];split at h<;>try(simp at h;done)
    all_goals
     split at h<;>try(simp at h;done)
     obtain rfl:=au h;exact gi.of s rfl rfl
   .exact gi.plain s h
 case indexAddr t x ix=>
  simp only[core]at h⊢;split at h
  .rename_i b q
   rcases s.look b with d|d|⟨x,d,g,e⟩<;>rw[d]at h<;>try(simp at h;done)
   rw[e];split at h<;>try(simp at h;done)
   all_goals
    split at h<;>try(simp at h;done)
    split at h<;>try(simp at h;done)
    obtain rfl:=au h;exact gi.of s rfl rfl
  .split at h<;>try(simp at h;done)
   split at h<;>try(simp at h;done)
   obtain rfl:=au h;exact gi.of s rfl rfl
  .exact gi.plain s h
 case slice t x lo z mx=>
  have u:(cL (.slice t x lo z mx) an nb).hr=true->(cL (.slice t x lo z mx) an nb).hw=false->False:=by simp[cL]
  simp only[core]at h⊢;split at h
  .rename_i b q
   rcases s.look b with d|d|⟨x,d,g,e⟩<;>rw[d]at h<;>try(simp at h;done)
   rw[e];split at h<;>try(simp at h;done)
   split at h<;>try(simp at h;done)
   split at h<;>try(simp at h;done)
   obtain⟨n,j,p⟩:=(s.set d g .dead).F4 (F:=fun h=>{v:=.bo nb,ad:=T,heap:=h,du:=_}) (fun _ _=>⟨rfl,rfl⟩) h
   exact⟨n,j,p,fun a b=>(u a b).elim⟩
  .exact gi.plain s h
 case buildSlice t len aV=>
  have u:(cL (.buildSlice t len aV) an nb).hr=true->False:=by simp[cL]
  simp only[core]at h⊢;split at h<;>try(simp at h;done)
  .obtain⟨n,j,p⟩:=s.F4 (F:=fun h=>{v:=.bo nb,ad:=T,heap:=h,du:=_}) (fun _ _=>⟨rfl,rfl⟩) h
   exact⟨n,j,p,fun a _=>(u a).elim⟩
  .obtain rfl:=au h
   exact gi.of s rfl rfl
  .obtain rfl:=au h
   exact gi.of s rfl rfl
 case call c=>
  obtain⟨callee,args,E⟩:=c;cases callee with
  |invoke a b=>exact pl fun _=>rfl
  |value f=>
   have u:(cL (.call {callee:=.value f,args:=args,argTypes:=E}) an nb).hr=true->(cL (.call {callee:=.value f,args:=args,argTypes:=E}) an nb).hw=false->False:=by simp[cL]
   simp only[core]at h⊢;split at h<;>try(simp at h;done)
   obtain⟨n,j,p⟩:=s.qq h;exact⟨n,j,p,fun a b=>(u a b).elim⟩
  |builtin b=>
   cases b
   case append=>
    have u:(cL (.call {callee:=.builtin .append,args:=args,argTypes:=E}) an nb).hr=true->(cL (.call {callee:=.builtin .append,args:=args,argTypes:=E}) an nb).hw=false->False:=by simp[cL]
    simp only[core]at h⊢;split at h<;>try(simp at h;done)
    split at h<;>try(simp at h;done)
    split at h<;>try(simp at h;done)
    split at h<;>try(simp at h;done)
    unfold yc at h⊢;split at h<;>try(simp at h;done)
    .split at h
     .obtain⟨n,j,p⟩:=s.F4 (F:=fun h=>{v:=.bo nb,ad:=T,heap:=h,du:=_}) (fun _ _=>⟨rfl,rfl⟩) h
      exact⟨n,j,p,fun a b=>(u a b).elim⟩
     .obtain rfl:=au h
      exact gi.of s rfl rfl
    .split at h<;>try(simp at h;done)
     obtain rfl:=au h;exact gi.of s rfl rfl
    .rename_i b _
     rcases s.look b with d|d|⟨x,d,g,e⟩<;>rw[d]at h<;>try(simp at h;done)
     rw[e];split at h<;>try(simp at h;done)
     split at h<;>try(simp at h;done)
     obtain⟨n,j,p⟩:=(s.set d g .dead).F4 (F:=fun h=>{v:=.bo nb,ad:=T,heap:=h,du:=_}) (fun _ _=>⟨rfl,rfl⟩) h
     exact⟨n,j,p,fun a b=>(u a b).elim⟩
   case delete=>
    simp only[core]at h⊢;split at h<;>try(simp at h;done)
    rename_i b i t _ _ _;rcases s.look b with d|d|⟨x,d,g,e⟩<;>rw[d]at h<;>try(simp at h;done)
    rw[e];split at h<;>try(simp at h;done)
    split at h<;>try(simp at h;done)
    obtain rfl:=au h;exact gi.set s d g rfl rfl rfl
   case len=>
    simp only[core]at h⊢;split at h
    .rename_i b t _ _
     rcases s.look b with d|d|⟨x,d,g,e⟩<;>rw[d]at h<;>try(simp at h;done)
     rw[e];split at h<;>try(simp at h;done)
     all_goals
      obtain rfl:=au h;exact gi.of s rfl rfl
    .exact gi.plain s h
   all_goals exact pl fun _=>rfl
 all_goals exact pl fun _=>rfl
def ou(l:List Nat):∀(h:List Bx)(k b:Nat),(Bn l k h)[b]?=(h[b]?).map fun x=>match l.contains (k+b)with|true=>x|false=>.dead
 |[],k,b=>by simp[Bn]
 |x::h,k,0=>by simp only[Bn,xI,cP];rfl
 |x::h,k,b+1=>by
  simp only[Bn,rO];rw[ou l h (k+1) b,show k+1+b=k+(b+1) by omega]
def jn(l:List Nat):∀(h a:List Bx)(k b:Nat),(vn l k h a)[b]?=(h[b]?).map fun x=>match l.contains (k+b)with|true=>(a[b]?).getD .dead|false=>x
 |[],a,k,b=>by simp[vn]
 |x::h,a,k,0=>by
  simp only[vn,xI,cP];cases a<;>rfl
 |x::h,a,k,b+1=>by
  simp only[vn,rO];rw[jn l h a.tail (k+1) b,show k+1+b=k+(b+1) by omega]
  cases a<;>simp
def nN.Tj(c:nN)(b:Nat):Prop:=(c.hr||c.hw)=true/\∀l,c.bx=some l->b∈l
def eE.view(c:nN)(heap:List Bx):eE c.Tj heap (c.view heap) heap:=by
 refine⟨fun b a=>?_,fun b a=>⟨rfl,?_⟩,rfl⟩
 .unfold nN.view
  rw[a.1];cases d:c.bx with
  |none=>rfl
  |some l=>
   have:=a.2 l d;simp only[ou,cr];rw[show l.contains b=true by simpa using this]
   cases heap[b]?<;>rfl
 .unfold nN.view
  split
  .rename_i f
   split
   .rename_i d
    exact absurd ⟨f,fun l h=>by rw[d]at h;simp at h⟩ a
   .rename_i l d
    have:l.contains b=false:=by
     rw[k8];intro h;refine a ⟨f,fun g e=>?_⟩
     rw[d]at e;obtain rfl:=au e;simpa using h
    simp only[ou,cr,this];cases heap[b]?<;>simp
  .simp
def eE.Tk{c:nN}{heap h f:List Bx}(s:eE c.Tj heap h f)(k:c.hr=true->c.hw=false->f=heap):c.merge heap h=f:=by
 unfold nN.merge;split
 .rename_i a
  split
  .rename_i e
   exact eR fun b=>s.inn b ⟨by simp[a],fun l h=>by rw[e]at h;simp at h⟩
  .rename_i l e
   refine eR fun b=>?_
   rw[jn,cr];by_cases d:b∈l
   .have g:c.Tj b:=⟨by simp[a],fun m h=>by rw[e]at h;obtain rfl:=au h;exact d⟩
    rw[show l.contains b=true by simpa using d,s.inn b g]
    rcases bR b heap.length with j|i
    .rw[bk j,bk (by rw[s.len];exact j)]
     rfl
    .rw[ee i,ee (by rw[s.len];exact i)]
     rfl
   .have g:¬c.Tj b:=fun h=>d (h.2 l e)
    rw[show l.contains b=false by simpa using d,(s.eX b g).1]
    cases heap[b]?<;>rfl
 .rename_i a
  cases hr:c.hr with
  |true=>exact(k hr a).symm
  |false=>
   refine eR fun b=>((s.eX b fun h=>?_).1).symm
   have:=h.1;rw[hr,a]at this;simp at this
def MU{o:Op}{nb:Nat}{an:An}{k:Kd}{ρ:Operand->AV}{T:List (Option Nat)}{heap:List Bx}{r:ly}(h:core P nb o an k ρ T ((cL o an nb).view heap)=some r):
  core P nb o an k ρ T heap=some {r with heap:=(cL o an nb).merge heap r.heap}:=by
 obtain⟨d,a,b,c⟩:=MT (eE.view _ heap) h;rw[b.Tk c];exact a
variable {w0:World} {aJ:Nat->Nat} {O:Nat->Prop} {G:Gh} {ad:List (Option Nat)} {w:World}
def KJ{e:Operand->Value}{ρ:Operand->AV}{o:Oper}{nb:Nat}{an:An}{k:Kd}{heap:List Bx}{r:ly}(b:Inv P w0 aJ O G heap w)
  (f:qt G ad w e ρ o.op)(h:S1 P nb o.op an k ρ ad heap=some r)(c:∀q∈r.du,q)(d:∀x∈r.calls,yA P x.f x.args x.heap x.r x.sG):
  dj P (execOp e o) w (Good P w0 aJ O G ad w r.v r.ad r.heap):=by
 unfold S1 at h;simp only at h;split at h<;>try(simp at h;done)
 rename_i r0 a;obtain rfl:=au h;exact OB b f (MU a) c d
end
end
structure mB (P:Program) (w0:World) (aJ:Nat->Nat) (O:Nat->Prop) (G0 G:Gh) (s:St) (a:Act) (w:World):Prop where
 inv:Inv P w0 aJ O G s.heap w
 size:a.tmps.size=s.tmps.length
 rep:∀(t:Nat)v x,a.tmps[t]?=some v->s.tmps[t]?=some x->aL G s.ad w v x
 defers:a.defers=[]
 nf:∀b,G0.bz b->G.bz b/\G.val b=G0.val b
def gY(P:Program)(w0:World)(aJ:Nat->Nat)(O:Nat->Prop)(G0:Gh)(s:St)(a:Act)(w:World):Prop:=∃G,mB P w0 aJ O G0 G s a w
section
variable {P:Program} {w0:World} {aJ:Nat->Nat} {O:Nat->Prop} {G0 G:Gh} {s:St} {a:Act} {w:World}
def mB.at(h:mB P w0 aJ O G0 G s a w)(t:Nat):aL G s.ad w (a.tmps.getD t undef) (s.tmps.getD t .none):=by
 rcases bR t s.tmps.length with b|b
 .have c:=bk b
  have d:=cK (xs:=a.tmps) (i:=t) (by rw[h.size];exact b)
  rw[bS,c,jj,d];exact h.rep t _ _ d c
 .rw[bS,ee b]
  exact .none _
def mB.ev(h:mB P w0 aJ O G0 G s a w)(x:Operand):aL G s.ad w (a.eval x) (ff s.tmps x):=by
 cases x with
 |tmp t=>exact h.at t
 |const v=>exact la v _ _ _
 |global g=>exact .none _
 |func f=>exact .fn rfl rfl (fun i v a c b=>by simp at b) fun i v a c b=>by simp at b
def aL.uz{ad:List (Option Nat)}{v:Value}{a:AV}(h:aL G ad w v a)(y:∀D∈a.conds,D.1=true):aL G ad w v a.strip:=by
 cases h with
 |@opt c j g b _ h z=>exact h (y (c,j,g) (by simp[AV.conds]))
 |none v=>exact .none v
 |v h=>exact .v h
 |agg i h=>exact .agg i h
 |Dr i e f h=>exact .Dr i e f h
 |own q x h p=>exact .own q x h p
 |aA d h=>exact .aA d h
 |iS d e h=>exact .iS d e h
 |fK d e h=>exact .fK d e h
 |kr u t o=>exact .kr u t o
 |bo d f=>exact .bo d f
 |mp d f=>exact .mp d f
 |fn k l m n=>exact .fn k l m n
 |xg k l=>exact .xg k l
 |qg=>exact .qg
 |Bp i h=>exact .Bp i h
def lF(n:(Bool×Nat×Bool)×Option (Bool×Bool)):Prop:=(∀B,n.2=some B->B.2=true)->n.1.1=true
def mB.U7(h:mB P w0 aJ O G0 G s a w){o:Op}(f:∀n∈iC s.tmps o,lF n):qt G s.ad w a.eval (fun x=>(ff s.tmps x).strip) o:=by
 have l:(∀n∈o.operands.toList.flatMap (fun x=>(ff s.tmps x).conds.map (fun D=>(D,(none:Option (Bool×Bool))))),lF n)->∀x∈o.operands.toList,aL G s.ad w (a.eval x) (ff s.tmps x).strip:=by
  intro j x k;exact(h.ev x).uz fun D d=>j (D,none) (fk.2 ⟨x,k,bg.2 ⟨D,d,rfl⟩⟩) fun B b=>by simp at b
 cases o with
 |pick c x y=>
  simp only[iC]at f;refine⟨(h.ev c).uz fun D d=>f (D,none) (dL _ (bg.2 ⟨D,d,rfl⟩)) fun B b=>by simp at b,fun B b=>?_⟩
  have b:(ff s.tmps c).strip = .v (.bool B):=b;rw[b]at f;refine⟨fun g=>(h.ev x).uz fun D d=>?_,fun g=>(h.ev y).uz fun D d=>?_⟩
  .exact f (D,some (true,B)) (eT _ (dL _ (bg.2 ⟨D,d,rfl⟩))) fun i e=>by cases e;exact g
  .exact f (D,some (false,!B)) (eT _ (eT _ (bg.2 ⟨D,d,rfl⟩))) fun i e=>by cases e;simp[g]
 |_=>exact l f
def mB.put(h:mB P w0 aJ O G0 G s a w){f:Gh}{br:List (Option Nat)}{n:List Bx}{w':World}{v:Value}{x:AV}(d:Option Tmp)
  (k:Inv P w0 aJ O f n w')(i:cb G s.ad w f br w')(o:aL f br w' v x):mB P w0 aJ O G0 f {tmps:=s.put d x,ad:=br,heap:=n} (a.put d v) w':=by
 have m:∀(t:Nat)v x,a.tmps[t]?=some v->s.tmps[t]?=some x->aL f br w' v x:=fun t v x e c=>(h.rep t v x e c).bA i
 have hold:∀b,G0.bz b->f.bz b/\f.val b=G0.val b:=fun b g=>⟨i.bz _ (h.nf b g).1,(i.val _ (h.nf b g).1).trans (h.nf b g).2⟩
 cases d with
 |none=>exact⟨k,h.size,m,h.defers,hold⟩
 |some d=>
  refine⟨k,by simp[Act.put,St.put,h.size],fun t u y e c=>?_,h.defers,hold⟩
  have e:(a.tmps.setIfInBounds d v)[t]?=some u:=e;have c:(s.tmps.set d x)[t]?=some y:=c;by_cases j:d=t
  .subst j
   have l:d<s.tmps.length:=by
    have:=(aE.1 c).1;simpa using this
   rw[bN l]at c;rw[N2 (by rw[h.size];exact l)]at e
   obtain rfl:=au e;obtain rfl:=au c;exact o
  .rw[bM j]at c
   rw[Array.getElem?_setIfInBounds_ne j]at e;exact m t u y e c
def Tl(P:Program)(l:List FB):Prop:=∀x∈l,yA P x.f x.args x.heap x.r x.sG
def OC{nb:Nat}{o:Oper}{an:An}{k:Kd}{x:Step}(h:mB P w0 aJ O G0 G s a w)(b:qf P nb o an k none s=some x)(f:∀n∈iC s.tmps o.op,lF n)(g:∀p∈x.du,p)(e:Tl P x.calls):
  dj P (execOp a.eval o) w fun v w'=>gY P w0 aJ O G0 x.st (a.put o.dst v) w':=by
 unfold qf at b;split at b<;>try(simp at b;done)
 rename_i r i;simp only at b;split at b<;>try(simp at b;done)
 simp only[aw]at b;subst b;exact(KJ h.inv (h.U7 f) i g e).mono fun v w'⟨d,c⟩=>⟨d,h.put o.dst c.2.1 c.2.2 c.1⟩
def MV{nb:Nat}{o:Op}{an:An}{k:Kd}{ρ:Operand->AV}{ad:List (Option Nat)}{heap:List Bx}{r:ly}(c:(cL o an nb).hw=false)(d:(cL o an nb).tk=false)(b:S1 P nb o an k ρ ad heap=some r):r.ad=ad/\r.heap=heap:=by
 unfold S1 at b;simp only[d,nN.merge,c]at b;split at b<;>try(simp at b;done)
 simp only[aw]at b;subst b;exact⟨rfl,rfl⟩
def MW{nb:Nat}{o:Oper}{an:An}{k:Kd}{g:Bool}{j:Nat}{want:Bool}{x:Step}(h:mB P w0 aJ O G0 G s a w)(b:qf P nb o an k (some (g,j,want)) s=some x)(z:g=true->∀n∈iC s.tmps o.op,lF n):
  (g=true->dj P (execOp a.eval o) w fun v w'=>gY P w0 aJ O G0 x.st (a.put o.dst v) w')/\(g=false->gY P w0 aJ O G0 x.st (a.put o.dst undef) w):=by
 unfold qf at b;split at b<;>try(simp at b;done)
 rename_i r f;simp only at b;split at b<;>try(simp at b;done)
 rename_i i;simp only[De,Bool.not_eq_false',List.isEmpty_iff]at i;obtain⟨⟨⟨m,p⟩,q⟩,t⟩:=i;simp only[aw]at b;obtain⟨u,y⟩:=MV m p f;subst b;refine⟨fun e=>?_,fun e=>?_⟩
 .subst e
  exact(KJ h.inv (h.U7 (z rfl)) f (by rw[t];simp) (by rw[q];simp)).mono fun v w'⟨l,c⟩=>⟨l,h.put o.dst c.2.1 c.2.2 (.opt (fun _=>c.1) fun d=>by simp at d)⟩
 .subst e
  simp only[u,y];exact⟨G,h.put o.dst h.inv (cb.refl _ _ _) (.opt (fun d=>by simp at d) fun _=>rfl)⟩
def I7{o:Oper}(h:mB P w0 aJ O G0 G s a w):gY P w0 aJ O G0 (jl o s).st (a.put o.dst undef) w:=by
 refine⟨G,h.put o.dst h.inv (cb.refl _ _ _) ?_⟩;split
 .exact .opt (fun b=>by simp at b) fun _=>rfl
 .exact .none _
def dj.upon{o:Oper}{K:Act->World->Prop}{Q:Exit->Act->World->Prop}(h:dj P (execOp a.eval o) w fun v w'=>K (a.put o.dst v) w'):o.wp P a w K Q:=by
 unfold Oper.wp;unfold dj at h;split at h
 .rename_i v w' b;rw[b];exact h
 .rename_i w' b;rw[b];exact h
 .rename_i f args w' b
  rw[b];refine Calls.mono h fun e g⟨v,c,d⟩=>?_
  subst c;exact d
 .exact h.elim
def cc(ops:List Oper)(s:St)(j:Nat):Option Bool:=
 match(ops[j]?).bind (·.dst)with
 |some t=>match s.tmps.getD t .none with
  |.v (.bool b)=>some b
  |.opt true _ _ (.v (.bool b))=>some b
  |_=>none
 |none=>none
def F5(ops:List Oper)(s:St)(j:Nat):Prop:=∃t b w' x,(ops[j]?).bind (·.dst)=some t/\s.tmps.getD t .none = .opt false b w' x
def OD{ops:List Oper}{j:Nat}(h:F5 ops s j):cc ops s j=none:=by
 obtain⟨t,d,w',x,b,c⟩:=h;unfold cc;rw[b];simp only[c]
def BG{l:Array Value}{t:Nat}{b:Bool}(c:l.getD t undef = .bool b):l[t]?=some (.bool b):=by
 rw[jj]at c;cases hx:l[t]? with
 |none=>rw[hx]at c;simp[undef]at c
 |some v=>rw[hx]at c;simp at c;rw[c]
def I8{l:Array Value}{t:Nat}(c:l.getD t undef=undef)(b:Bool):l[t]?≠some (.bool b):=by
 intro d;rw[jj,d]at c;simp[undef]at c
def sV{ops:Array Oper}{j:Nat}{b:Bool}(h:mB P w0 aJ O G0 G s a w)(c:cc ops.toList s j=some b):yielded ops a.tmps j=some b:=by
 unfold cc at c;simp only[gR]at c;unfold yielded;split at c<;>try(simp at c;done)
 rename_i t i;rw[i];simp only[fS];have d:=h.at t;split at c<;>try(simp at c;done)
 .rename_i b' e
  rw[e]at d;rw[BG d.np];simpa using c
 .rename_i b' e
  rw[e]at d;generalize g:a.tmps.getD t undef=V at d;cases d with
  |opt f k=>
   rw[BG (g.trans (f rfl).np)];simpa using c
def F6{ops:Array Oper}{j:Nat}(h:mB P w0 aJ O G0 G s a w)(k:F5 ops.toList s j):yielded ops a.tmps j=none:=by
 obtain⟨t,m,w',x,d,e⟩:=k;simp only[gR]at d;unfold yielded;rw[d];simp only[fS];have c:=h.at t;rw[e]at c;generalize g:a.tmps.getD t undef=V at c;cases c with
 |opt l f=>
  have:=I8 (g.trans (f rfl));split
  .rename_i b i;exact absurd i (this b)
  .rfl
def sK{ops:List Oper}{j:Nat}{want G:Bool}(h:guardOf ops s j want=some G):(cc ops s j==some want)=G:=by
 unfold guardOf at h;unfold cc;split at h<;>try(simp at h;done)
 rename_i t e;rw[e];simp only;split at h<;>(try(simp at h;done))<;>obtain rfl:=au h
 .rename_i b d
  rw[d];cases b<;>rfl
 .rename_i b d
  rw[d];cases b<;>rfl
 .rename_i c f w' b d
  rw[d];cases c<;>cases b<;>rfl
 .rename_i c f w' b d
  rw[d];cases c<;>cases b<;>rfl
def I9{ops:Array Oper}{j:Nat}{want f:Bool}(h:mB P w0 aJ O G0 G s a w)(e:guardOf ops.toList s j want=some f):(yielded ops a.tmps j==some want)=f:=by
 have i:=sK e;cases hx:cc ops.toList s j with
 |some b=>rw[sV h hx,<-hx];exact i
 |none=>
  rw[hx]at i;have k:f=false:=by rw[<-i];rfl
  subst k;have:F5 ops.toList s j:=by
   unfold guardOf at e;unfold cc at hx;split at e<;>try(simp at e;done)
   rename_i t g;rw[g]at hx;simp only at hx;split at e<;>try(simp at e;done)
   .rename_i b d;rw[d]at hx;simp at hx
   .rename_i b d;rw[d]at hx;simp at hx
   .rename_i c l w' b d
    cases c with
    |true=>rw[d]at hx;simp at hx
    |false=>exact⟨t,_,_,_,g,d⟩
   .rename_i c l w' b d
    cases c with
    |true=>rw[d]at hx;simp at hx
    |false=>exact⟨t,_,_,_,g,d⟩
  rw[F6 h this];rfl
inductive sW (P:Program) (E:FuncId->List AV->List Bx->List AV->List Bx->Prop) (ops:List Oper) (an:Nat->An) (nb:Nat->Nat) (i:Nat) (s:St):St->Prop
 |run {o:Oper} {kd:Kd} {x:Step} (ho:ops[i]?=some o) (hg:∀j w,o.guard=some (j,w)->cc ops s j=some w) (hd:qf P (nb i) o (an i) kd none s=some x) (hn:∀n∈iC s.tmps o.op,lF n) (hb:∀p∈x.du,p)
   (hc:∀c∈x.calls,E c.f c.args c.heap c.r c.sG):sW P E ops an nb i s x.st
 |skip {o:Oper} {j:Nat} {w:Bool} (ho:ops[i]?=some o) (hg:o.guard=some (j,w)) (hy:cc ops s j=some (!w)\/F5 ops s j):sW P E ops an nb i s (jl o s).st
 |spec {o:Oper} {j:Nat} {w G:Bool} {kd:Kd} {x:Step} (ho:ops[i]?=some o) (hg:o.guard=some (j,w)) (hG:guardOf ops s j w=some G) (hd:qf P (nb i) o (an i) kd (some (G,j,w)) s=some x) (hn:G=true->∀n∈iC s.tmps o.op,lF n):sW P E ops an nb i s x.st
def sW.F7{ops:Array Oper}{an:Nat->An}{nb:Nat->Nat}{i:Nat}{n:St}{K:Act->World->Prop}{Q:Exit->Act->World->Prop}(c:sW P (yA P) ops.toList an nb i s n)(h:gY P w0 aJ O G0 s a w)
  (f:∀a' w',gY P w0 aJ O G0 n a' w'->K a' w'):Go.wpOp P ops Q i K a w:=by
 obtain⟨G,h⟩:=h;unfold Go.wpOp;cases c with
 |@run o z x b c g k u y=>
  rw[gR]at b;simp only[b];have d:Region.wanted o (yielded ops a.tmps)=true:=by
   unfold Region.wanted;split
   .rfl
   .rename_i j w r
    rw[sV h (c j w r)];simp
  rw[aF d];exact .inl (dj.upon ((OC h g k u y).mono fun v w' l=>f _ _ l))
 |@skip o j w' b c e=>
  rw[gR]at b;simp only[b];have d:Region.wanted o (yielded ops a.tmps)=false:=by
   simp only[Region.wanted,c];rcases e with e|e
   .rw[sV h e];cases w'<;>rfl
   .rw[F6 h e];rfl
  rw[d,aI (by simp)]
  exact f _ _ (I7 h)
 |@spec o j w' m z x b c t g k=>
  rw[gR]at b;simp only[b];have d:Region.wanted o (yielded ops a.tmps)=m:=by
   simp only[Region.wanted,c];exact I9 h t
  rw[d];obtain⟨p,q⟩:=MW h g k;cases m with
  |true=>
   rw[aF rfl];exact .inl (dj.upon ((p rfl).mono fun v w' l=>f _ _ l))
  |false=>
   rw[aI (by simp)]
   exact f _ _ (q rfl)
end
section
variable {P:Program} {E:FuncId->List AV->List Bx->List AV->List Bx->Prop}
def p6{pl:Nat->Option (Nat×Nat)}{ρ ρ':Operand->AV}:∀(ps:List (Nat×Operand))(cs:List AV),(∀p∈ps,ρ p.2=ρ' p.2)->jz pl ρ ps cs=jz pl ρ' ps cs
 |[],cs,h=>rfl
 |(i,x)::ps,cs,h=>by
  have b:ρ x=ρ' x:=h (i,x) (aS ..);have c:=fun cs=>p6 (pl:=pl) ps cs fun p a=>h p (aP _ a)
  simp only[jz,b,c]
def qH{e:TypeId}{n:Nat}{ρ ρ':Operand->AV}:∀(ps:List (Nat×Operand))(cs:List (List PV)),(∀p∈ps,ρ p.2=ρ' p.2)->k9 P e n ρ ps cs=k9 P e n ρ' ps cs
 |[],cs,h=>rfl
 |(i,x)::ps,cs,h=>by
  have b:ρ x=ρ' x:=h (i,x) (aS ..);have c:=fun cs=>qH (e:=e) (n:=n) ps cs fun p a=>h p (aP _ a)
  simp only[k9,b,c]
def iT{ρ ρ':Operand->AV}{l:List Operand}(h:∀x∈l,ρ x=ρ' x):l.map ρ=l.map ρ':=rL h
def F8{o:Op}{an:An}{k:Kd}{ρ ρ':Operand->AV}(h:∀x∈o.operands.toList,ρ x=ρ' x):plain P o an k ρ=plain P o an k ρ':=by
 cases o
 case build t aV=>
  have i:∀p∈aV.toList,ρ p.2=ρ' p.2:=fun p i=>h p.2 (by simp only[Op.operands];exact bg.2 ⟨p,i,rfl⟩)
  simp only[plain];split
  .rw[p6 _ _ i]
  .rfl
 case buildSlice t n aV=>
  have i:∀p∈aV.toList,ρ p.2=ρ' p.2:=fun p i=>h p.2 (by simp only[Op.operands];exact bg.2 ⟨p,i,rfl⟩)
  simp only[plain];split
  .split
   .rw[qH _ _ i]
   .rfl
  .rfl
 case makeFunc f first cap=>
  simp only[plain];rw[iT (l:=first.toList) fun x j=>h x (by simp only[Op.operands,tS];exact dL _ j),
   iT (l:=cap.toList) fun x j=>h x (by simp only[Op.operands,tS];exact eT _ j)]
 case call c=>
  obtain⟨callee,args,v⟩:=c;cases callee with
  |builtin b=>
   have q:args.toList.map ρ=args.toList.map ρ':=iT fun x j=>h x (by simp only[Op.operands,Call.operands];simpa using j)
   cases b
   case len=>
    simp only[plain];split
    .rename_i x t j u
     rw[h x (by simp only[Op.operands,Call.operands];simp[j])]
    .rfl
   all_goals simp only[plain,q]
  |_=>rfl
 case slice t x lo hi mx=>
  have e:ρ x=ρ' x:=h x (by simp[Op.operands])
  have g:lo.map ρ=lo.map ρ':=by cases lo with|none=>rfl|some y=>simp[h y (by simp[Op.operands])]
  have m:hi.map ρ=hi.map ρ':=by cases hi with|none=>rfl|some y=>simp[h y (by simp[Op.operands])]
  simp only[plain,e,g,m]
 case pick c x y=>
  have e:ρ c=ρ' c:=h c (by simp[Op.operands])
  have g:ρ x=ρ' x:=h x (by simp[Op.operands])
  have m:ρ y=ρ' y:=h y (by simp[Op.operands])
  cases k<;>simp only[plain,e,g,m]
 case binOp op t x y t'=>
  have e:ρ x=ρ' x:=h x (by simp[Op.operands])
  have g:ρ y=ρ' y:=h y (by simp[Op.operands])
  simp only[plain,e,g]
 case indexAddr t x y=>
  have e:ρ x=ρ' x:=h x (by simp[Op.operands])
  have g:ρ y=ρ' y:=h y (by simp[Op.operands])
  simp only[plain,e,g]
 case index t x y=>
  have e:ρ x=ρ' x:=h x (by simp[Op.operands])
  have g:ρ y=ρ' y:=h y (by simp[Op.operands])
  simp only[plain,e,g]
 case move x=>simp only[plain,h x (by simp[Op.operands])]
 case assign x=>simp only[plain,h x (by simp[Op.operands])]
 case load t x=>simp only[plain,h x (by simp[Op.operands])]
 case nilCheck x=>simp only[plain,h x (by simp[Op.operands])]
 case unOp op t x=>simp only[plain,h x (by simp[Op.operands])]
 case convert s d x=>simp only[plain,h x (by simp[Op.operands])]
 case makeInterface t x=>simp only[plain,h x (by simp[Op.operands])]
 case typeAssert x a b c=>cases k<;>simp only[plain,h x (by simp[Op.operands])]
 case fieldAddr t x f=>simp only[plain,h x (by simp[Op.operands])]
 case field t x f=>simp only[plain,h x (by simp[Op.operands])]
 case extract x f=>simp only[plain,h x (by simp[Op.operands])]
 all_goals rfl
def Ja{nb:Nat}{o:Op}{an:An}{k:Kd}{ρ ρ':Operand->AV}{T:List (Option Nat)}{j:List Bx}(h:∀x∈o.operands.toList,ρ x=ρ' x):core P nb o an k ρ T j=core P nb o an k ρ' T j:=by
 have e:=F8 (P:=P) (an:=an) (k:=k) h;cases o
 case box t x=>simp only[core,h x (by simp[Op.operands])]
 case makeSlice t x y=>
  have a:ρ x=ρ' x:=h x (by simp[Op.operands])
  have d:ρ y=ρ' y:=h y (by simp[Op.operands])
  simp only[core,a,d]
 case makeMap t y=>cases y<;>simp only[core,e]
 case lookup t x y ok=>
  have a:ρ x=ρ' x:=h x (by simp[Op.operands])
  have d:ρ y=ρ' y:=h y (by simp[Op.operands])
  simp only[core,a,d]
 case mapUpdate t x y z=>
  have a:ρ x=ρ' x:=h x (by simp[Op.operands])
  have d:ρ y=ρ' y:=h y (by simp[Op.operands])
  have i:ρ z=ρ' z:=h z (by simp[Op.operands])
  simp only[core,a,d,i]
 case store t x y=>
  have a:ρ x=ρ' x:=h x (by simp[Op.operands])
  have d:ρ y=ρ' y:=h y (by simp[Op.operands])
  simp only[core,a,d]
 case load t x=>simp only[core,h x (by simp[Op.operands]),e]
 case indexAddr t x y=>
  have a:ρ x=ρ' x:=h x (by simp[Op.operands])
  have d:ρ y=ρ' y:=h y (by simp[Op.operands])
  simp only[core,a,d,e]
 case slice t x lo hi mx=>
  have a:ρ x=ρ' x:=h x (by simp[Op.operands])
  have i:hi.map ρ=hi.map ρ':=by cases hi with|none=>rfl|some y=>simp[h y (by simp[Op.operands])]
  simp only[core,a,i,e]
 case buildSlice t n aV=>simp only[core,e]
 case call c=>
  obtain⟨callee,args,u⟩:=c;cases callee with
  |builtin b=>
   have l:args.toList.map ρ=args.toList.map ρ':=iT fun x g=>h x (by simp only[Op.operands,Call.operands];simpa using g)
   cases b
   case append=>
    simp only[core];split
    .rename_i x y t s g q
     rw[h x (by simp only[Op.operands,Call.operands];simp[g]),h y (by simp only[Op.operands,Call.operands];simp[g])]
    .rfl
   case delete=>simp only[core,l]
   case len=>simp only[core,l,e]
   all_goals simp only[core,e]
  |invoke x n=>simp only[core,e]
  |value f=>
   have p:ρ f=ρ' f:=h f (by simp[Op.operands,Call.operands])
   have m:args.toList.map ρ=args.toList.map ρ':=iT fun x g=>h x (by
    simp only[Op.operands,Call.operands,tS];exact eT _ g)
   simp only[core,p,m]
 all_goals (simp only[core,e])
structure S2 where
 v:AV
 ad:List (Option Nat)
 heap:List Bx
def S2.on(f:S2)(c:nN)(d:Option Tmp)(s:St):St:=
 {tmps:=s.put d f.v,ad:=if c.tk then f.ad else s.ad,heap:=c.merge s.heap f.heap}
def St.Tm(s a:St)(c:nN)(rd:List Tmp):Prop:=
 (∀t∈rd,a.tmps.getD t .none=s.tmps.getD t .none)/\(c.tk=true->a.ad=s.ad)/\c.view a.heap=c.view s.heap
def vy{l a:List AV}{x:Operand}(h:∀t,x = .tmp t->a.getD t .none=l.getD t .none):ff a x=ff l x:=by
 cases x with
 |tmp t=>exact h t rfl
 |_=>rfl
def yE{l a:List AV}{o:Op}(h:∀x∈o.operands.toList,ff a x=ff l x):iC a o=iC l o:=by
 have d:(o.operands.toList.flatMap fun x=>(ff a x).conds.map (fun D=>(D,(none:Option (Bool×Bool)))))=o.operands.toList.flatMap fun x=>(ff l x).conds.map (fun D=>(D,none)):=by
  rw[List.flatMap_def,List.flatMap_def];congr 1
  exact rL fun x b=>by rw[h x b]
 cases o with
 |pick c x y=>simp only[iC,h c (by simp[Op.operands]),h x (by simp[Op.operands]),h y (by simp[Op.operands])]
 |_=>exact d
def yF{ops:List Oper}{o:Oper}{x:Operand}{t:Tmp}(b:x∈o.op.operands.toList)(a:x = .tmp t):t∈jc ops o:=by
 subst a;exact dL _ (List.mem_filterMap.2 ⟨.tmp t,b,rfl⟩)
def qI{ops:List Oper}{o:Oper}{j:Nat}{w:Bool}{t:Tmp}(a:o.guard=some (j,w))(b:(ops[j]?).bind (·.dst)=some t):t∈jc ops o:=
 eT _ (by simp only[a,b];simp)
def F9{nb:Nat}{o:Oper}{an:An}{k:Kd}{c:Option (Bool×Nat×Bool)}{s:St}{x:Step}{ops:List Oper}(h:qf P nb o an k c s=some x):
  ∃f:S2,x.st=f.on (cL o.op an nb) o.dst s/\∀a,s.Tm a (cL o.op an nb) (jc ops o)->qf P nb o an k c a=some {st:=f.on (cL o.op an nb) o.dst a,du:=x.du,calls:=x.calls}:=by
 unfold qf at h;split at h<;>try(simp at h;done)
 rename_i r b;have l:∃r0:ly,r={r0 with ad:=if(cL o.op an nb).tk then r0.ad else s.ad,heap:=(cL o.op an nb).merge s.heap r0.heap}/\∀a,s.Tm a (cL o.op an nb) (jc ops o)->
   S1 P nb o.op an k (fun x=>(ff a.tmps x).strip) a.ad a.heap=some {r0 with ad:=if(cL o.op an nb).tk then r0.ad else a.ad,heap:=(cL o.op an nb).merge a.heap r0.heap}:=by
  unfold S1 at b;simp only at b;split at b<;>try(simp at b;done)
  rename_i r0 p;refine⟨r0,(au b).symm,fun a⟨y,z,D⟩=>?_⟩
  have G:∀x∈o.op.operands.toList,ff a.tmps x=ff s.tmps x:=fun x e=>vy fun t v=>y t (yF e v)
  unfold S1;simp only;have n:(if(cL o.op an nb).tk=true then a.ad else[])=if(cL o.op an nb).tk=true then s.ad else[]:=by
   split
   .rename_i q;rw[z q]
   .rfl
  rw[n,D,Ja (ρ':=fun x=>(ff s.tmps x).strip) fun x e=>by rw[G x e],p]
 obtain⟨r0,l,m⟩:=l;subst l;cases c with
 |none=>
  simp only at h;split at h<;>try(simp at h;done)
  rename_i i;obtain rfl:=au h;refine⟨⟨r0.v,r0.ad,r0.heap⟩,rfl,fun a d=>?_⟩
  unfold qf;rw[m a d];simp only[i];rfl
 |some g=>
  obtain⟨g,j,w⟩:=g;simp only at h;split at h<;>try(simp at h;done)
  rename_i i;obtain rfl:=au h;refine⟨⟨.opt g j w r0.v,r0.ad,r0.heap⟩,rfl,fun a d=>?_⟩
  unfold qf;rw[m a d];simp only;split
  .rename_i u
   exact absurd (u.symm.trans i) (by simp)
  .rfl
def o7{ops:List Oper}{o:Oper}{s a:St}{c:nN}{j:Nat}{w:Bool}(b:o.guard=some (j,w))(d:s.Tm a c (jc ops o)):cc ops a j=cc ops s j/\(F5 ops s j->F5 ops a j)/\guardOf ops a j w=guardOf ops s j w:=by
 refine⟨?_,?_,?_⟩
 .unfold cc
  split
  .rename_i t e
   rw[d.1 t (qI b e)]
  .rfl
 .rintro⟨t,i,w',x,f,g⟩
  exact⟨t,i,w',x,f,(d.1 t (qI b f)).trans g⟩
 .unfold guardOf
  split
  .rename_i t e
   rw[d.1 t (qI b e)]
  .rfl
structure nN.below (c d:nN):Prop where
 tk:c.tk=true->d.tk=true
 hr:c.hr=true->d.hr=true
 hw:c.hw=true->d.hw=true
 bx:c.bx=d.bx\/(c.hr=false/\c.hw=false)
def sW.eff{ops:List Oper}{an:Nat->An}{nb:Nat->Nat}{i:Nat}{s y:St}{o:Oper}(g:ops[i]?=some o)(h:sW P E ops an nb i s y):
  ∃c:nN,c.below (cL o.op (an i) (nb i))/\∃f:S2,y=f.on c o.dst s/\∀a,s.Tm a c (jc ops o)->sW P E ops an nb i a (f.on c o.dst a):=by
 cases h with
 |@run o' I x e b m n r D=>
  rw[g]at e;obtain rfl:=au e;obtain⟨f,k,l⟩:=F9 (ops:=ops) m;refine⟨_,⟨id,id,id,.inl rfl⟩,f,k,fun a d=>?_⟩
  have u:∀x∈o.op.operands.toList,ff a.tmps x=ff s.tmps x:=fun x q=>vy fun t p=>d.1 t (yF q p)
  exact .run (x:={st:=f.on _ o.dst a,du:=x.du,calls:=x.calls}) g (fun j w v=>(o7 v d).1.trans (b j w v)) (l a d) (by rw[yE u];exact n) r D
 |@skip o' j w e b H=>
  rw[g]at e;obtain rfl:=au e;refine⟨{},⟨by simp,by simp,by simp,.inr ⟨rfl,rfl⟩⟩,⟨.opt false j w .none,s.ad,s.heap⟩,?_,fun a d=>?_⟩
  .simp[jl,S2.on,b,nN.merge]
  .have:(⟨.opt false j w .none,s.ad,s.heap⟩:S2).on {} o.dst a=(jl o a).st:=by simp[jl,S2.on,b,nN.merge]
   rw[this];exact .skip g b (H.imp (fun h=>(o7 b d).1.trans h) (o7 b d).2.1)
 |@spec o' j w G I x e b z m n=>
  rw[g]at e;obtain rfl:=au e;obtain⟨f,k,l⟩:=F9 (ops:=ops) m;refine⟨_,⟨id,id,id,.inl rfl⟩,f,k,fun a d=>?_⟩
  have u:∀x∈o.op.operands.toList,ff a.tmps x=ff s.tmps x:=fun x q=>vy fun t p=>d.1 t (yF q p)
  exact .spec (x:={st:=f.on _ o.dst a,du:=x.du,calls:=x.calls}) g b ((o7 b d).2.2.trans z) (l a d) (by rw[yE u];exact n)
def vz{a b:Option (List Nat)}(h:meets a b=false):∃l m,a=some l/\b=some m/\∀x∈l,x∉m:=by
 unfold meets at h;split at h<;>try(simp at h;done)
 rename_i l m;refine⟨l,m,rfl,rfl,fun x d c=>?_⟩
 rw[k8]at h;exact h (og.2 ⟨x,d,by simpa using c⟩)
def yG{a b:nN}{heap x:List Bx}(h:a.hw=true->(b.hr||b.hw)=true->meets a.bx b.bx=false):b.view (a.merge heap x)=b.view heap:=by
 unfold nN.view;cases hb:(b.hr||b.hw)with
 |false=>rfl
 |true=>
  simp only;cases ha:a.hw with
  |false=>simp[nN.merge,ha]
  |true=>
   obtain⟨l,m,d,e,f⟩:=vz (h ha hb);simp only[nN.merge,ha,d,e];refine eR fun i=>?_
   rw[ou,ou,jn,cr];by_cases c:i∈m
   .have j:l.contains i=false:=by
     rw[k8];intro g;exact f i (by simpa using g) c
    rw[j];cases heap[i]?<;>rfl
   .have k:m.contains i=false:=by simpa using c
    rw[k];cases heap[i]?<;>rfl
def Jb{a b:nN}{heap x y:List Bx}(h:a.hw=true->b.hw=true->meets a.bx b.bx=false):a.merge (b.merge heap y) x=b.merge (a.merge heap x) y:=by
 cases ha:a.hw with
 |false=>simp[nN.merge,ha]
 |true=>
  cases hb:b.hw with
  |false=>simp[nN.merge,hb]
  |true=>
   obtain⟨l,m,d,e,f⟩:=vz (h ha hb);simp only[nN.merge,ha,hb,d,e];refine eR fun i=>?_
   rw[jn,jn,jn,jn,cr];by_cases c:i∈m
   .have j:l.contains i=false:=by
     rw[k8];intro g;exact f i (by simpa using g) c
    rw[j];cases heap[i]?<;>rfl
   .have k:m.contains i=false:=by simpa using c
    rw[k];cases heap[i]?<;>rfl
def Passes(ops:List Oper)(an:Nat->An)(nb:Nat->Nat)(j i:Nat):Prop:=
 ∀x y,ops[j]?=some x->ops[i]?=some y->(∀d,x.dst=some d->d∉jc ops y)/\(∀d,x.dst=some d->y.dst≠some d)/\(∀d,y.dst=some d->d∉jc ops x)/\
  ((cL x.op (an j) (nb j)).fits (cL y.op (an i) (nb i))=true\/(cL y.op (an i) (nb i)).fits (cL x.op (an j) (nb j))=true)
def Ga{ops:List Oper}{x y:Oper}(h:IB ops x y=true):(∀d,x.dst=some d->d∉jc ops y)/\(∀d,x.dst=some d->y.dst≠some d)/\(∀d,y.dst=some d->d∉jc ops x):=by
 refine⟨fun d a=>?_,fun d a=>?_,fun d a=>?_⟩<;>simp[IB,a]at h
 .exact h.1.1
 .exact h.1.2
 .exact h.2
def BH{ops:List Oper}{an:Nat->An}{nb:Nat->Nat}{j i:Nat}(h:KA ops an nb j i=true):Passes ops an nb j i:=by
 intro x y d e;unfold KA at h;rw[d,e]at h;simp only[bU]at h;obtain⟨a,b,c⟩:=Ga h.1;exact⟨a,b,c,.inl h.2⟩
def Passes.symm{ops:List Oper}{an:Nat->An}{nb:Nat->Nat}{j i:Nat}(h:Passes ops an nb j i):Passes ops an nb i j:=by
 intro x y k l;obtain⟨a,b,c,f⟩:=h y x l k;exact⟨c,fun d g e=>b d e g,a,f.symm⟩
def ov{s:St}{d:Option Tmp}{v:AV}{t:Tmp}(h:∀e,d=some e->e≠t):(s.put d v).getD t .none=s.tmps.getD t .none:=by
 cases d with
 |none=>rfl
 |some e=>
  have:=h e rfl;simp only[St.put,bS];rw[bM this]
def put_comm{s a b:St}{x y:Option Tmp}{v u:AV}(h:∀d,x=some d->y≠some d)(c:a.tmps=s.put x v)(f:b.tmps=s.put y u):a.put y u=b.put x v:=by
 cases x with
 |none=>
  cases y with
  |none=>exact c.trans f.symm
  |some e=>
   show a.tmps.set e u=b.tmps
   rw[c,f];rfl
 |some d=>
  cases y with
  |none=>
   show a.tmps=b.tmps.set d v
   rw[c,f];rfl
  |some e=>
   have i:d≠e:=fun g=>h d rfl (g▸rfl)
   show a.tmps.set e u=b.tmps.set d v
   rw[c,f];exact List.set_comm _ _ i
structure Fit (a b:nN):Prop where
 tk:a.tk=true->b.tk=false
 ab:a.hw=true->(b.hr||b.hw)=true->meets a.bx b.bx=false
 ba:b.hw=true->(a.hr||a.hw)=true->meets b.bx a.bx=false
def Jc(a b:Option (List Nat))(h:meets a b=false):meets b a=false:=by
 obtain⟨l,m,rfl,rfl,c⟩:=vz h;rw[k8];intro d;obtain⟨x,f,e⟩:=og.1 d;exact c x (by simpa using e) f
def Fit.of{a b:nN}(h:a.fits b=true):Fit a b:=by
 simp only[nN.fits,bU,gw,Bool.and_eq_false_iff,De]at h;obtain⟨c,e⟩:=h;refine⟨fun h=>?_,fun h k=>?_,fun h k=>?_⟩
 .rcases e with e|e
  .rw[h]at e;simp at e
  .exact e
 .rcases c with⟨c,-⟩|c
  .rcases c with c|⟨c,d⟩
   .rw[h]at c;simp at c
   .rw[c,d]at k;simp at k
  .exact c
 .refine Jc _ _ ?_
  rcases c with⟨c,d⟩|c
  .rcases c with c|⟨-,c⟩
   .rcases d with d|d
    .rw[h]at d;simp at d
    .rw[c,d]at k;simp at k
   .rw[h]at c;simp at c
  .exact c
def Fit.symm{a b:nN}(h:Fit a b):Fit b a:=⟨fun k=>k8.2 fun c=>by rw[h.tk c]at k;simp at k,h.ba,h.ab⟩
def Fit.below{a b a' b':nN}(h:Fit a b)(e:a'.below a)(f:b'.below b):Fit a' b':=by
 have m:∀{c d:nN},c.below d->(c.hr||c.hw)=true->(d.hr||d.hw)=true:=by
  intro c d g h;simp only[gu]at h⊢;exact h.imp g.hr g.hw
 have i:∀{c d:nN},c.below d->(c.hr||c.hw)=true->c.bx=d.bx:=by
  intro c d g h;rcases g.bx with j|⟨j,n⟩
  .exact j
  .rw[j,n]at h;simp at h
 refine⟨fun k=>k8.2 fun o=>?_,fun k l=>?_,fun k l=>?_⟩
 .have:=h.tk (e.tk k)
  rw[f.tk o]at this;simp at this
 .rw[i e (by simp[k]),i f l]
  exact h.ab (e.hw k) (m f l)
 .rw[i f (by simp[k]),i e l]
  exact h.ba (f.hw k) (m e l)
def sW.has{ops:List Oper}{an:Nat->An}{nb:Nat->Nat}{i:Nat}{s b:St}(h:sW P E ops an nb i s b):∃o,ops[i]?=some o:=by
 cases h with
 |run a=>exact⟨_,a⟩
 |skip a=>exact⟨_,a⟩
 |spec a=>exact⟨_,a⟩
def sW.comm{ops:List Oper}{an:Nat->An}{nb:Nat->Nat}{j i:Nat}{s x n:St}(J:Passes ops an nb j i)(p:sW P E ops an nb j s x)(q:sW P E ops an nb i x n):
  ∃t,sW P E ops an nb i s t/\sW P E ops an nb j t n:=by
 obtain⟨w,v⟩:=p.has;obtain⟨m,u⟩:=q.has;obtain⟨y,z,r,X⟩:=J w m v u;obtain⟨d,G,I,b,K⟩:=p.eff v;obtain⟨c,D,fi,H,M⟩:=q.eff u;have a:Fit d c:=(X.elim Fit.of fun h=>(Fit.of h).symm).below G D
 have Q:=M s ⟨fun t l=>by
   rw[b];exact(ov fun e f o=>y e f (o▸l)).symm,fun g=>by
   rw[b];simp[S2.on,a.symm.tk g],by
   rw[b];exact(yG a.ab).symm⟩
 have T:=K (fi.on c m.dst s) ⟨fun t l=>ov fun e f o=>r e f (o▸l),fun g=>by simp[S2.on,a.tk g],yG a.ba⟩
 refine⟨_,Q,?_⟩;have:n=I.on d w.dst (fi.on c m.dst s):=by
  rw[H,b];simp only[S2.on,St.mk.injEq];refine⟨put_comm z rfl rfl,?_,Jb fun h k=>a.ba h (by simp[k])⟩
  cases hc:d.tk
  .rfl
  .rw[a.tk hc];rfl
 rw[this];exact T
def jU:∀(l:List CT){k:List PV->Prop},oh l k->∃ps,k ps
 |[],k,h=>⟨[],h⟩
 |c::l,k,h=>by
  cases c<;>simp only[oh]at h<;>obtain⟨b,h⟩:=h<;>obtain⟨ps,h⟩:=jU l h<;>exact⟨_,h⟩
def lk{an:An}{c:Nat}:∀(a:List TypeId)(j:Nat)(bx:List Bx){k:List AV->List Bx->Prop},qs P an c a j bx k->∃r b,k r b
 |[],j,bx,k,h=>⟨[],bx,h⟩
 |t::a,j,bx,k,h=>by
  simp only[qs]at h;split at h
  .obtain⟨ps,h⟩:=jU _ h
   obtain⟨r,b,h⟩:=lk a _ _ h;exact⟨_,_,h⟩
  .obtain⟨ps,h⟩:=jU _ h
   obtain⟨r,b,h⟩:=lk a _ _ h;exact⟨_,_,h⟩
  .obtain⟨o,h⟩:=h
   obtain⟨r,b,h⟩:=lk a _ _ h;exact⟨_,_,h⟩
  .split at h
   all_goals
    obtain⟨o,h⟩:=h;obtain⟨r,b,h⟩:=lk a _ _ h;exact⟨_,_,h⟩
  .obtain⟨o,h⟩:=h
   obtain⟨r,b,h⟩:=lk a _ _ h;exact⟨_,_,h⟩
  .obtain⟨r,b,h⟩:=lk a _ _ h
   exact⟨_,_,h⟩
  .obtain⟨ps,h⟩:=jU _ h
   split at h
   .obtain⟨r,b,h⟩:=lk a _ _ h
    exact⟨_,_,h⟩
   .exact h.elim
def BI(a:AV){k:AV->Prop}(h:Dx a k):∃b,k b:=by
 unfold Dx at h;split at h<;>first|(obtain⟨b,h⟩:=h;exact⟨_,h⟩)|exact⟨_,h⟩
def mC{c:Bool}{idx:List Nat}:∀(l:List AV)(i:Nat){k:List AV->Prop},oW c idx i l k->∃m,k m
 |[],i,k,h=>⟨[],h⟩
 |a::l,i,k,h=>by
  simp only[oW]at h;split at h
  .obtain⟨b,h⟩:=BI a h
   obtain⟨m,h⟩:=mC l _ h;exact⟨_,h⟩
  .split at h
   .obtain⟨b,h⟩:=BI _ h
    obtain⟨m,h⟩:=mC l _ h;exact⟨_,h⟩
   .obtain⟨m,h⟩:=mC l _ h
    exact⟨_,h⟩
def Tn{idx:List Nat}{b:Bx}{k:Bx->Prop}(h:Wh idx b k):∃x,k x:=by
 unfold Wh at h;split at h
 .obtain⟨m,h⟩:=mC _ _ h
  exact⟨_,h⟩
 .split at h
  .obtain⟨r,h⟩:=h
   exact⟨_,h⟩
  .exact⟨_,h⟩
 .obtain⟨r,h⟩:=h
  exact⟨_,h⟩
 .exact⟨_,h⟩
def DT{a:List (Nat×List Nat)}:∀(l:List Bx)(i:Nat){k:List Bx->Prop},N7 a i l k->∃m,k m
 |[],i,k,h=>⟨[],h⟩
 |b::l,i,k,h=>by
  simp only[N7]at h;split at h
  .obtain⟨x,h⟩:=Tn h
   obtain⟨m,h⟩:=DT l _ h;exact⟨_,h⟩
  .obtain⟨m,h⟩:=DT l _ h
   exact⟨_,h⟩
def OE{t:TypeId}{k:AV->Prop}(h:N8 P t k):∃a,k a:=by
 unfold N8 at h;split at h
 .obtain⟨ps,h⟩:=jU _ h
  exact⟨_,h⟩
 .obtain⟨r,h⟩:=h
  exact⟨_,h⟩
 .obtain⟨ps,h⟩:=jU _ h
  split at h
  .exact⟨_,h⟩
  .exact h.elim
def To{o:Op}{an:An}{d:List (Nat×List Nat)}{ρ:Operand->AV}{heap:List Bx}{k:Kd->Prop}(h:Wi P o an d ρ heap k):∃c,k c:=by
 have one:∀{l:List CT}{k:Kd->Prop},(oh l fun ps=>match ps with|[p]=>k (.cell (.v p))|_=>False)->∃c,k c:=by
  intro l k h;obtain⟨ps,h⟩:=jU _ h;split at h
  .exact⟨_,h⟩
  .exact h.elim
 unfold Wi at h;split at h
 .split at h
  .exact one h
  .obtain⟨ps,h⟩:=jU _ h
   exact⟨_,h⟩
  .exact one h
  .exact⟨_,h⟩
 .split at h
  .split at h
   .obtain⟨m,h⟩:=mC _ _ h
    exact⟨_,h⟩
   .exact h.elim
  .exact⟨_,h⟩
 .split at h
  .exact⟨_,h⟩
  .obtain⟨ps,h⟩:=jU _ h
   exact⟨_,h⟩
  .exact⟨_,h⟩
 .split at h
  .exact one h
  .exact⟨_,h⟩
 .split at h
  .rcases h with h|h
   .exact⟨_,h⟩
   .obtain⟨a,h⟩:=OE h
    exact⟨_,h⟩
  .exact h.elim
 .split at h
  .rcases h with h|h
   .exact⟨_,h⟩
   .obtain⟨a,h⟩:=jU _ h
    exact⟨_,h⟩
  .obtain⟨a,h⟩:=jU _ h
   exact⟨_,h⟩
 .split at h
  .obtain⟨r,b,h⟩:=lk _ _ _ h
   obtain⟨m,h⟩:=DT _ _ h;exact⟨_,h⟩
  .exact h.elim
 .exact⟨_,h⟩
def BJ:∀(l:List Prop){k:Prop},IE l k->(∀p∈l,p)/\k
 |[],k,h=>⟨by simp,h⟩
 |p::l,k,h=>by
  obtain⟨a,b⟩:=BJ l h.2;exact⟨fun q c=>(aU.1 c).elim (fun e=>e▸h.1) (a q),b⟩
def wL:∀(l:List FB){k:Prop},ye E l k->(∀c∈l,E c.f c.args c.heap c.r c.sG)/\k
 |[],k,h=>⟨by simp,h⟩
 |p::l,k,h=>by
  obtain⟨a,b⟩:=wL l h.2;exact⟨fun q d=>(aU.1 d).elim (fun e=>e▸h.1) (a q),b⟩
def nw{ops:List Oper}{f:Env}{o:Oper}:∀(l:List ((Bool×Nat×Bool)×Option (Bool×Bool))){k:Prop},oi ops f o l k->(∀n∈l,covered ops f o n.1 n.2=true\/lF n)/\k
 |[],k,h=>⟨by simp,h⟩
 |(D,x)::l,k,h=>by
  simp only[oi]at h;split at h
  .rename_i i
   obtain⟨a,b⟩:=nw l h;exact⟨fun n c=>(aU.1 c).elim (fun e=>.inl (e▸i)) (a n),b⟩
  .obtain⟨a,b⟩:=nw l h.2
   refine⟨fun n c=>(aU.1 c).elim (fun e=>.inr ?_) (a n),b⟩
   subst e;intro g;have d:=h.1;cases x with
   |none=>exact d
   |some B=>exact d (g B rfl)
structure eb (ops:List Oper) (done:List Nat) (env:Env) (s:St):Prop where
 env:∀j b,(j,b)∈env->j∈done/\cc ops s j=some b
 guard:∀(i:Nat)o j w,i∈done->ops[i]?=some o->o.guard=some (j,w)->j∈done/\(cc ops s i≠none->cc ops s j=some w)
 tag:∀t c j w a,s.tmps.getD t .none = .opt c j w a->j∈done/\c=(cc ops s j==some w)
def Own(ops:List Oper):Prop:=∀(i j:Nat)(x y:Oper)(d:Tmp),ops[i]?=some x->ops[j]?=some y->x.dst=some d->y.dst=some d->i=j
def Wn{ops:List Oper}(h:ku (ops.filterMap (·.dst))=true):Own ops:=by
 have key:∀(ops:List Oper),(ops.filterMap (·.dst)).Nodup->∀(i j:Nat)(x y:Oper)d,ops[i]?=some x->ops[j]?=some y->x.dst=some d->y.dst=some d->i=j:=by
  intro ops;induction ops with
  |nil=>intro _ i j x y d a;simp at a
  |cons o ops p=>
   intro b i j x y d a c f g;have mem:∀(k:Nat)(z:Oper),ops[k]?=some z->z.dst=some d->d∈ops.filterMap (·.dst):=fun k z n m=>List.mem_filterMap.2 ⟨z,aK n,m⟩
   have q:(ops.filterMap (·.dst)).Nodup:=by
    rw[List.filterMap_cons]at b;split at b
    .exact b
    .exact(hH.1 b).2
   have l:o.dst=some d->d∉ops.filterMap (·.dst):=by
    intro e;rw[List.filterMap_cons,e]at b;exact(hH.1 b).1
   cases i with
   |zero=>
    simp at a;subst a;cases j with
    |zero=>rfl
    |succ j=>exact absurd (mem j y (by simpa using c) g) (l f)
   |succ i=>
    cases j with
    |zero=>
     simp at c;subst c;exact absurd (mem i x (by simpa using a) f) (l g)
    |succ j=>rw[p q i j x y d (by simpa using a) (by simpa using c) f g]
 exact key ops (qC _ h)
def yH{s:St}{d:Tmp}{v:AV}(h:d<s.tmps.length):(s.put (some d) v).getD d .none=v:=by
 simp only[St.put,bS];rw[bN h];rfl
def DU{s:St}{d:Tmp}{v:AV}(h:s.tmps.length<=d):(s.put (some d) v)=s.tmps:=List.set_eq_of_length_le h
def Gb{l:List AV}{d:Nat}(h:l.length<=d):l.getD d .none = .none:=by
 rw[bS,ee h];rfl
def MX{ops:List Oper}{s b:St}{i j:Nat}{o:Oper}{v:AV}(l:Own ops)(d:ops[i]?=some o)(g:j≠i)(f:b.tmps=s.put o.dst v):cc ops b j=cc ops s j:=by
 unfold cc;split
 .rename_i t a
  rw[f,ov fun e c k=>?_]
  subst k;cases hx:ops[j]? with
  |none=>rw[hx]at a;simp at a
  |some y=>
   rw[hx]at a;exact g (l j i y o e hx d (by simpa using a) c)
 .rfl
def eb.step{ops:List Oper}{done:List Nat}{r G:Env}{s l:St}{i:Nat}{o:Oper}{v:AV}(T:Own ops)(g:eb ops done r s)(I:i∉done)(x:ops[i]?=some o)(y:l.tmps=s.put o.dst v)
  (Q:∀j b,(j,b)∈G->(j,b)∈r\/(j∈done/\cc ops s j=some b))
  (H:∀j w,o.guard=some (j,w)->j∈done/\(cc ops l i≠none->cc ops s j=some w))(K:∀c j w a,v = .opt c j w a->j∈done/\c=(cc ops s j==some w)):eb ops (i::done) G l:=by
 have k:∀j∈done,cc ops l j=cc ops s j:=fun j J=>MX T x (fun e=>I (e▸J)) y
 refine⟨fun j b h=>?_,fun z o' j w m u D=>?_,fun t c j w a h=>?_⟩
 .have:j∈done/\cc ops s j=some b:=(Q j b h).elim (g.env j b) id
  exact⟨aP _ this.1,(k j this.1).trans this.2⟩
 .rcases aU.1 m with e|m
  .subst e
   rw[x]at u;obtain rfl:=au u;obtain⟨f,n⟩:=H j w D;exact⟨aP _ f,fun q=>(k j f).trans (n q)⟩
  .obtain⟨f,n⟩:=g.guard z o' j w m u D
   exact⟨aP _ f,fun q=>(k j f).trans (n (by rw[<-k z m];exact q))⟩
 .have key:j∈done/\c=(cc ops s j==some w):=by
   rw[y]at h;cases hd:o.dst with
   |none=>rw[hd]at h;exact g.tag t c j w a h
   |some d=>
    rw[hd]at h;by_cases e:d=t
    .subst e
     rcases bR d s.tmps.length with p|p
     .rw[yH p]at h
      exact K c j w a h
     .rw[DU p]at h
      exact g.tag d c j w a h
    .rw[ov (d:=some d) fun X M=>by cases M;exact e]at h
     exact g.tag t c j w a h
  exact⟨aP _ key.1,by rw[k j key.1];exact key.2⟩
def yI{ops:List Oper}{done:List Nat}{l:Env}{s:St}(e:eb ops done l s):∀(n:Nat)(g:Option (Nat×Bool))(d:Nat×Bool),U3 ops n g d=true->(∀j w,g=some (j,w)->j∈done/\cc ops s j=some w)->cc ops s d.1=some d.2
 |0,g,d,h,b=>by simp[U3]at h
 |n+1,none,d,h,b=>by simp[U3]at h
 |n+1,some g,d,h,b=>by
  simp only[U3,gu,beq_iff_eq]at h;obtain⟨f,c⟩:=b g.1 g.2 rfl;rcases h with h|h
  .subst h;exact c
  .refine yI e n _ d h fun j w a=>?_
   cases hx:ops[g.1]? with
   |none=>rw[hx]at a;simp at a
   |some x=>
    rw[hx]at a;obtain⟨i,k⟩:=e.guard g.1 x j w f hx (by simpa using a)
    exact⟨i,k (by rw[c];simp)⟩
def MY{a:AV}{D:Bool×Nat×Bool}(h:D∈a.conds):∃x,a = .opt D.1 D.2.1 D.2.2 x:=by
 cases a<;>simp[AV.conds]at h
 subst h;exact⟨_,rfl⟩
def mD{tmps:List AV}{x:Operand}{D:Bool×Nat×Bool}(h:D∈(ff tmps x).conds):∃t a,x = .tmp t/\tmps.getD t .none = .opt D.1 D.2.1 D.2.2 a:=by
 obtain⟨a,b⟩:=MY h;cases x with
 |tmp t=>exact⟨t,a,rfl,b⟩
 |const v=>
  exfalso;simp only[ff]at b;unfold lU at b;split at b
  .split at b<;>simp at b
  .simp at b
  .split at b<;>simp at b
 |global g=>simp[ff]at b
 |func f=>simp[ff]at b
def Jd{tmps:List AV}{o:Op}{n:(Bool×Nat×Bool)×Option (Bool×Bool)}(h:n∈iC tmps o):∃t a,tmps.getD t .none = .opt n.1.1 n.1.2.1 n.1.2.2 a:=by
 have f:n∈o.operands.toList.flatMap (fun x=>(ff tmps x).conds.map (fun D=>(D,(none:Option (Bool×Bool)))))->∃t a,tmps.getD t .none = .opt n.1.1 n.1.2.1 n.1.2.2 a:=by
  intro h;obtain⟨x,g,e⟩:=fk.1 h;obtain⟨D,b,rfl⟩:=bg.1 e;obtain⟨t,a,-,d⟩:=mD b;exact⟨t,a,d⟩
 cases o with
 |pick c x y=>
  simp only[iC]at h;rcases bC.1 h with h|h
  .obtain⟨D,b,rfl⟩:=bg.1 h
   obtain⟨t,a,-,d⟩:=mD b;exact⟨t,a,d⟩
  .split at h
   .rcases bC.1 h with h|h
    .obtain⟨D,b,rfl⟩:=bg.1 h
     obtain⟨t,a,-,d⟩:=mD b;exact⟨t,a,d⟩
    .obtain⟨D,b,rfl⟩:=bg.1 h
     obtain⟨t,a,-,d⟩:=mD b;exact⟨t,a,d⟩
   .simp at h
 |_=>exact f h
def sL{ops:List Oper}{done:List Nat}{l:Env}{s:St}{o:Oper}(m:eb ops done l s)(G:∀j w,o.guard=some (j,w)->j∈done/\cc ops s j=some w)
  (h:∀n∈iC s.tmps o.op,covered ops l o n.1 n.2=true\/lF n):∀n∈iC s.tmps o.op,lF n:=by
 have v:∀n∈iC s.tmps o.op,cc ops s n.1.2.1=some n.1.2.2->n.1.1=true:=by
  intro n d H;obtain⟨t,a,r⟩:=Jd d;rw[(m.tag _ _ _ _ _ r).2,H];simp
 have simple:∀n∈iC s.tmps o.op,(l.contains (n.1.2.1,n.1.2.2)||U3 ops 20 o.guard (n.1.2.1,n.1.2.2))=true->n.1.1=true:=by
  intro n d b;refine v n d ?_;rcases xA.1 b with b|b
  .exact(m.env _ _ (by simpa using b)).2
  .exact yI m 20 _ _ b G
 have first:∀n∈iC s.tmps o.op,n.2=none->n.1.1=true:=by
  intro n d u;rcases h n d with b|b
  .unfold covered at b
   rw[u]at b;refine simple n d ?_;revert b
   cases(l.contains (n.1.2.1,n.1.2.2)||U3 ops 20 o.guard (n.1.2.1,n.1.2.2))with
   |true=>intro _;rfl
   |false=>
    intro b;rw[mj]at b;split at b<;>first|contradiction|(simp at b;done)
  .exact b fun B i=>by rw[u]at i;simp at i
 intro n d;rcases h n d with b|b
 .intro i
  unfold covered at b;rcases xA.1 b with b|b
  .exact simple n d b
  .split at b<;>try(simp at b;done)
   rename_i c x y Y Bx M f;split at b<;>try(simp at b;done)
   rename_i X Q;simp only[bU,beq_iff_eq]at b;obtain⟨J,K⟩:=b;have g:=i _ f;refine v n d ?_;rw[M]at d first
   simp only[iC]at d first
   have z:∀D∈(ff s.tmps (.tmp c)).conds,D.1=true:=fun D k=>first (D,none) (dL _ (bg.2 ⟨D,k,rfl⟩)) rfl
   rcases bC.1 d with d|d
   .obtain⟨D,k,rfl⟩:=bg.1 d
    simp at f
   .split at d<;>try(simp at d;done)
    rename_i B e;have T:cc ops s n.1.2.1=some B:=by
     unfold cc;rw[Q];simp only[fS,J];change(s.tmps.getD c .none).strip=_ at e
     have p:∀D∈(s.tmps.getD c .none).conds,D.1=true:=z;revert e p
     cases s.tmps.getD c .none<;>intro e p<;>simp only[AV.strip]at e<;>try(simp at e;done)
     .rw[e]
     .rename_i q I w' a'
      have:q=true:=p (q,I,w') (by simp[AV.conds])
      subst this;rw[e]
    rw[T,K];rcases bC.1 d with d|d
    .obtain⟨D,k,rfl⟩:=bg.1 d
     simp only[aw,ax]at f;obtain⟨rfl,rfl⟩:=f;have g:B=true:=g;rw[g]
    .obtain⟨D,k,rfl⟩:=bg.1 d
     simp only[aw,ax]at f;obtain⟨rfl,rfl⟩:=f;simp only[gw]at g;rw[g]
 .exact b
end
section
variable {P:Program} {E:FuncId->List AV->List Bx->List AV->List Bx->Prop} {ops:List Oper} {A:sA} {id:Nat} {nb:Nat->Nat} {s:St} {env:Env} {k:St->Env->Prop} {done:List Nat} {i:Nat} {o:Oper}
def Gc{n:Nat}{an:An}{c:Kd}{a:Option (Bool×Nat×Bool)}{x:Step}(h:qf P n o an c a s=some x):∃v,x.st.tmps=s.put o.dst v/\(a=none->v.IA=true)/\∀g,a=some g->∃r,v = .opt g.1 g.2.1 g.2.2 r:=by
 unfold qf at h;split at h<;>try(simp at h;done)
 rename_i r j;cases a with
 |none=>
  simp only at h;split at h<;>try(simp at h;done)
  rename_i d;obtain rfl:=au h;exact⟨_,rfl,fun _=>d,fun g b=>by simp at b⟩
 |some g=>
  simp only at h;split at h<;>try(simp at h;done)
  obtain rfl:=au h;exact⟨_,rfl,fun e=>by simp at e,fun f b=>by cases b;exact⟨_,rfl⟩⟩
def KK{g:Option (Bool×Nat×Bool)}(h:Mz P E nb ops A id i o g s env k):∃b x,qf P (nb i) o (A.an id i) b g s=some x/\(∀n∈iC s.tmps o.op,covered ops env o n.1 n.2=true\/lF n)/\(∀p∈x.du,p)/\
  (∀c∈x.calls,E c.f c.args c.heap c.r c.sG)/\k x.st env:=by
 unfold Mz at h;obtain⟨d,e⟩:=nw _ h;obtain⟨b,a⟩:=To e;split at a
 .rename_i x q
  obtain⟨f,j⟩:=BJ _ a;obtain⟨l,m⟩:=wL _ j;exact⟨b,x,q,d,f,l,m⟩
 .exact a.elim
def Ge{q:Kd}{x:Step}(t:Own ops)(l:eb ops done env s)(n:i∉done)(p:ops[i]?=some o)(d:∀j w,o.guard=some (j,w)->j∈done/\cc ops s j=some w)
  (m:qf P (nb i) o (A.an id i) q none s=some x):eb ops (i::done) env x.st:=by
 obtain⟨v,f,g,-⟩:=Gc m;refine l.step t n p f (fun j b h=>.inl h) (fun j w h=>⟨(d j w h).1,fun _=>(d j w h).2⟩) fun c j w a e=>?_
 have:=g rfl;rw[e]at this;simp[AV.IA]at this
def Gg(q:Own ops)(d:eb ops done env s)(n:i∉done)(e:ops[i]?=some o)(a:∀j w,o.guard=some (j,w)->j∈done/\cc ops s j=some w)(h:Mz P E nb ops A id i o none s env k):
  ∃b,sW P E ops (A.an id) nb i s b/\eb ops (i::done) env b/\k b env:=by
 obtain⟨t,x,c,f,g,l,m⟩:=KK h;exact⟨x.st,.run e (fun j w p=>(a j w p).2) c (sL d a f) g l,Ge q d n e a c,m⟩
def Wo{n:Nat}{c a b:Operand}{an:An}{t:Bool}{ρ:Operand->AV}{ad:List (Option Nat)}{heap:List Bx}{r:ly}(h:S1 P n (.pick c a b) an (.pk t) ρ ad heap=some r):∃B,ρ c = .v (.bool B)/\r.du=[B=t]/\r.calls=[]:=by
 unfold S1 at h;simp only[core,plain]at h;split at h<;>try(simp at h;done)
 rename_i r0 e;obtain⟨⟨v,l⟩,d,rfl⟩:=aX.1 e;split at d<;>try(simp at d;done)
 rename_i B f;simp only[aw,ax]at d;obtain⟨rfl,rfl⟩:=d;obtain rfl:=au h;exact⟨B,f,rfl,rfl⟩
def o8{c a b:Operand}{t:Bool}(M:o.op = .pick c a b)(O:Own ops)(q:eb ops done env s)(F:i∉done)(H:ops[i]?=some o)(z:∀j w,o.guard=some (j,w)->j∈done/\cc ops s j=some w)
  (m:ff s.tmps c = .v (.bool t)\/∃j w,ff s.tmps c = .opt true j w (.v (.bool t)))(h:vr P nb ops A id i o (if t then a else b) t s env k):∃G,sW P E ops (A.an id) nb i s G/\eb ops (i::done) env G/\k G env:=by
 unfold vr at h;obtain⟨X,v⟩:=nw _ h;split at v
 .rename_i x l
  have T:(ff s.tmps c).strip = .v (.bool t):=by rcases m with m|⟨j,w,m⟩<;>rw[m]<;>rfl
  have N:∀D∈(ff s.tmps c).conds,D.1=true:=by
   intro D f;rcases m with m|⟨j,w,m⟩<;>rw[m]at f<;>simp[AV.conds]at f
   rw[f]
  have Q:∀D∈(ff s.tmps (if t then a else b)).conds,D.1=true:=by
   intro D f;have S:cc ops s D.2.1=some D.2.2->D.1=true:=by
    intro L;obtain⟨u,y,-,C⟩:=mD f;rw[(q.tag _ _ _ _ _ C).2,L];simp
   rcases X (D,none) (bg.2 ⟨D,f,rfl⟩)with e|e
   .unfold covered at e
    refine S ?_;rcases xA.1 e with e|e
    .rcases xA.1 e with e|e
     .exact(q.env _ _ (by simpa using e)).2
     .exact yI q 20 _ _ e z
    .split at e<;>first|contradiction|(simp at e;done)
   .exact e fun B g=>by simp at g
  have d:∀n∈iC s.tmps o.op,lF n:=by
   intro n d g;rw[M]at d;simp only[iC,T]at d;rcases bC.1 d with d|d
   .obtain⟨D,f,rfl⟩:=bg.1 d
    exact N D f
   .rcases bC.1 d with d|d
    .obtain⟨D,f,rfl⟩:=bg.1 d
     have:t=true:=g _ rfl;subst this;exact Q D f
    .obtain⟨D,f,rfl⟩:=bg.1 d
     have:(!t)=true:=g _ rfl;cases t with
     |true=>simp at this
     |false=>exact Q D f
  have K:(∀p∈x.du,p)/\x.calls=[]:=by
   unfold qf at l;split at l<;>try(simp at l;done)
   rename_i r J;simp only at l;split at l<;>try(simp at l;done)
   obtain rfl:=au l;rw[M]at J;obtain⟨B,g,Y,Z⟩:=Wo J;have g:(ff s.tmps c).strip = .v (.bool B):=g;rw[T]at g;cases g;refine⟨fun p I=>?_,Z⟩
   rw[Y]at I;obtain rfl:=cE.1 I;rfl
  exact⟨x.st,.run H (fun j w R=>(z j w R).2) l d K.1 (by rw[K.2];simp),Ge O q F H z l,v⟩
 .exact v.elim
def Je{j:Nat}{t:Tmp}{B:Bool}(b:(ops[j]?).bind (·.dst)=some t)(a:cc ops s j=some B):s.tmps.getD t .none = .v (.bool B)\/∃c w,s.tmps.getD t .none = .opt true c w (.v (.bool B)):=by
 unfold cc at a;rw[b]at a;simp only at a;split at a<;>(try(simp at a;done))<;>obtain rfl:=au a
 .rename_i h;exact .inl h
 .rename_i h;exact .inr ⟨_,_,h⟩
def yJ(m:Own ops)(e:eb ops done env s)(g:i∉done)(l:ops[i]?=some o)(f:∀j w,o.guard=some (j,w)->j∈done/\cc ops s j=some w)(h:yf P E nb ops A id i o s env k):
  ∃p,sW P E ops (A.an id) nb i s p/\eb ops (i::done) env p/\k p env:=by
 unfold yf at h;split at h
 .rename_i c a b n
  have known:∀{t:Bool},vq ops env c=some t->ff s.tmps c = .v (.bool t)\/∃j w,ff s.tmps c = .opt true j w (.v (.bool t)):=by
   intro t d;unfold vq at d;split at d<;>try(simp at d;done)
   rename_i u;split at d<;>try(simp at d;done)
   rename_i x y;obtain rfl:=au d;have z:=kS y;have v:=ql y;simp only[beq_iff_eq]at v;exact Je v (e.env x.1 x.2 z).2
  split at h
  .rename_i d
   exact o8 (t:=true) n m e g l f (known d) h
  .rename_i d
   exact o8 (t:=false) n m e g l f (known d) h
  .split at h
   .exact Gg m e g l f h
   .split at h
    .rename_i B q
     cases B with
     |true=>exact o8 (t:=true) n m e g l f (.inl q) h
     |false=>exact o8 (t:=false) n m e g l f (.inl q) h
    .exact h.elim
 .exact Gg m e g l f h
def eb.more(a:eb ops done env s){j:Nat}{b:Bool}(c:j∈done)(d:cc ops s j=some b):eb ops done ((j,b)::env) s:=
 ⟨fun f b' h=>(aU.1 h).elim (fun e=>by cases e;exact⟨c,d⟩) (a.env f b'),a.guard,a.tag⟩
def rS{j:Nat}{w:Bool}(y:Own ops)(q:eb ops done env s)(t:i∉done)(l:ops[i]?=some o)(m:o.guard=some (j,w))(n:j∈done)(f:cc ops s j=some (!w)\/F5 ops s j):
  sW P E ops (A.an id) nb i s (jl o s).st/\eb ops (i::done) env (jl o s).st:=by
 refine⟨.skip l m f,?_⟩;have p:(jl o s).st.tmps=s.put o.dst (.opt false j w .none):=by simp[jl,m]
 have x:cc ops s j≠some w:=by
  rcases f with f|f
  .rw[f];cases w<;>simp
  .rw[OD f];simp
 refine q.step y t l p (fun j b h=>.inl h) (fun v w' h=>?_) fun c v w' a e=>?_
 .rw[m]at h
  simp only[aw,ax]at h;obtain⟨rfl,rfl⟩:=h;refine⟨n,fun u=>?_⟩
  exfalso;apply u;unfold cc;rw[l];simp only[fS];cases hd:o.dst with
  |none=>rfl
  |some d=>
   simp only[p,hd];rcases bR d s.tmps.length with g|g
   .rw[yH g]
   .rw[DU g,Gb g]
 .simp only[AV.opt.injEq]at e
  obtain⟨rfl,rfl,rfl,-⟩:=e;refine⟨n,?_⟩;symm
  simpa using x
def Jf{j:Nat}{b:Bool}(h:env.lookup j=some b):(j,b)∈env:=by
 induction env with
 |nil=>simp at h
 |cons x l e=>
  obtain⟨a,c⟩:=x;rw[List.lookup_cons]at h;split at h
  .rename_i d
   simp at h d;subst h;subst d;exact aS ..
  .exact aP _ (e h)
def DV(J:Own ops)(q:eb ops done env s)(H:i∉done)(a2:∀o j w,ops[i]?=some o->o.guard=some (j,w)->j∈done)(h:wpOp P E nb ops A id i s env k):
  ∃f I,sW P E ops (A.an id) nb i s f/\eb ops (i::done) I f/\k f I:=by
 unfold wpOp at h;split at h
 .exact h.elim
 .rename_i o p
  split at h
  .rename_i y
   obtain⟨f,g,l,Q⟩:=yJ J q H p (fun j w m=>by rw[y]at m;simp at m) h
   exact⟨f,env,g,l,Q⟩
  .rename_i j w y
   have m:=a2 o j w p y;have one:∀{K:Nat}{w':Bool},o.guard=some (K,w')->K=j/\w'=w:=fun h=>by
    rw[y]at h;simp only[aw,ax]at h;exact⟨h.1.symm,h.2.symm⟩
   split at h
   .rename_i b T
    have u:=(q.env j b (Jf T)).2;split at h
    .rename_i F
     simp only[beq_iff_eq]at F;subst F;obtain⟨f,g,l,Q⟩:=yJ J q H p (fun K w' X=>by obtain⟨rfl,rfl⟩:=one X;exact⟨m,u⟩) h
     exact⟨f,env,g,l,Q⟩
    .rename_i F
     have V:b = !w:=by cases b<;>cases w<;>simp at F⊢
     subst V;obtain⟨g,l⟩:=rS (A:=A) (id:=id) (nb:=nb) (E:=E) J q H p y m (.inl u);exact⟨_,env,g,l,h⟩
   .split at h
    .split at h
     .rename_i z
      have u:F5 ops s j:=by
       unfold U4 at z;split at z<;>try(simp at z;done)
       rename_i t Y;split at z<;>try(simp at z;done)
       rename_i C;split at z<;>try(simp at z;done)
       simp only[gw]at z;subst z;exact⟨t,_,_,_,Y,C⟩
      obtain⟨g,l⟩:=rS (A:=A) (id:=id) (nb:=nb) (E:=E) J q H p y m (.inr u);exact⟨_,env,g,l,h⟩
     .split at h
      .rename_i G N
       obtain⟨kd,x,g,l,Q,h4,S⟩:=KK h;have Z:=sK N;have W:G=true->∀n∈iC s.tmps o.op,lF n:=fun a0=>sL q (fun K w' X=>by
        obtain⟨rfl,rfl⟩:=one X;rw[a0]at Z;exact⟨m,by simpa using Z⟩) l
       refine⟨x.st,env,.spec p y N g W,?_,S⟩;obtain⟨v,M,-,D⟩:=Gc g;obtain⟨r,D⟩:=D _ rfl;refine q.step J H p M (fun j b h=>.inl h) (fun K w' h=>?_) fun c K w' a e=>?_
       .obtain⟨rfl,rfl⟩:=one h
        refine⟨m,fun a1=>?_⟩
        cases G with
        |true=>simpa using Z
        |false=>
         exfalso;apply a1;unfold cc;rw[p];simp only[fS];cases hd:o.dst with
         |none=>rfl
         |some d=>
          simp only[M,hd,D];rcases bR d s.tmps.length with T|T
          .rw[yH T]
          .rw[DU T,Gb T]
       .rw[D]at e
        simp only[AV.opt.injEq]at e;obtain⟨rfl,rfl,rfl,-⟩:=e;exact⟨m,Z.symm⟩
      .exact h.elim
    .split at h
     .rename_i t Y
      split at h
      .rename_i B U
       have u:cc ops s j=some B:=by
        unfold cc;rw[Y];simp only[U]
       have L:∀{w'},w'=w->B=w'->yf P E nb ops A id i o s ((j,w')::env) k->∃f I,sW P E ops (A.an id) nb i s f/\eb ops (i::done) I f/\k f I:=by
        intro w' M D R;subst M D;obtain⟨f,g,l,Q⟩:=yJ J (q.more m u) H p (fun K w' X=>by obtain⟨rfl,rfl⟩:=one X;exact⟨m,u⟩) R
        exact⟨f,_,g,l,Q⟩
       have O:∀{w'},w'=(!w)->B=w'->k (jl o s).st ((j,w')::env)->∃f I,sW P E ops (A.an id) nb i s f/\eb ops (i::done) I f/\k f I:=by
        intro w' M D R;subst M D;obtain⟨g,l⟩:=rS (A:=A) (id:=id) (nb:=nb) (E:=E) J (q.more m u) H p y m (.inl u);exact⟨_,_,g,l,R⟩
       split at h
       .cases B with
        |true=>exact L rfl rfl h
        |false=>exact O rfl rfl h
       .cases B with
        |true=>exact O rfl rfl h
        |false=>exact L rfl rfl h
      .rename_i C
       split at h
       .split at h
        .obtain⟨g,l⟩:=rS (A:=A) (id:=id) (nb:=nb) (E:=E) J q H p y m (.inr ⟨t,_,_,_,Y,C⟩)
         exact⟨_,env,g,l,h⟩
        .exact h.elim
       .exact h.elim
      .exact h.elim
     .exact h.elim
end
section
variable {P:Program} {E:FuncId->List AV->List Bx->List AV->List Bx->Prop} {ops:List Oper} {A:sA} {id:Nat} {an:Nat->An} {nb:Nat->Nat}
def sX(o:Oper)(b:List Nat):Nat:=o.after.toList.foldl (fun s e=>if Region.binds .any e then s ||| 2^e.on ||| b.getD e.on 0 else s) 0
def BK:∀(os:List Oper)(b:List Nat),∃l,jR os b=b++l
 |[],b=>⟨[],by simp[jR]⟩
 |o::os,b=>by
  obtain⟨l,c⟩:=BK os (b++[sX o b]);exact⟨sX o b::l,by unfold jR;exact c.trans (by simp)⟩
def Gi:∀(os:List Oper)(b:List Nat)(i:Nat)(o:Oper),os[i]?=some o->∃pre l,jR os b=pre++l/\(jR os b).getD (b.length+i) 0=sX o pre
 |[],b,i,o,h=>by simp at h
 |o::os,b,0,o',h=>by
  simp at h;subst h;obtain⟨l,f⟩:=BK os (b++[sX o b]);have c:jR (o::os) b=b++(sX o b::l):=by unfold jR;exact f.trans (by simp)
  exact⟨b,_,c,by rw[c];simp⟩
 |o::os,b,i+1,o',h=>by
  simp at h;obtain⟨pre,l,d,e⟩:=Gi os (b++[sX o b]) i o' h;have c:jR (o::os) b=jR os (b++[sX o b]):=rfl;refine⟨pre,l,c.trans d,?_⟩;rw[c,<-e];simp only[de,List.length_singleton];congr 1
  omega
def BL{f:List Nat}{b:Nat}:∀(c:List Edge)(s:Nat),(c.foldl (fun s e=>if Region.binds .any e then s ||| 2^e.on ||| f.getD e.on 0 else s) s).testBit b=true ->
  s.testBit b=true\/∃e∈c,Region.binds .any e=true/\(b=e.on\/(f.getD e.on 0).testBit b=true)
 |[],s,h=>.inl h
 |e::c,s,h=>by
  rw[List.foldl_cons]at h;rcases BL c _ h with h|⟨g,k,i,j⟩
  .by_cases d:Region.binds .any e=true
   .rw[aF d]at h
    simp only[Nat.testBit_or,gu,Nat.testBit_two_pow,fm]at h;rcases h with(h|h)|h
    .exact .inl h
    .exact .inr ⟨e,aS ..,d,.inl h.symm⟩
    .exact .inr ⟨e,aS ..,d,.inr h⟩
   .rw[aI d]at h
    exact .inl h
  .exact .inr ⟨g,aP _ k,i,j⟩
def MZ{os:List Oper}{i b:Nat}{o:Oper}(m:os[i]?=some o)(h:((jR os []).getD i 0).testBit b=true):
  ∃e∈o.after,Region.binds .any e=true/\(b=e.on\/((jR os []).getD e.on 0).testBit b=true):=by
 obtain⟨pre,l,g,f⟩:=Gi os [] i o m;simp only[cO,cr]at f;rw[f]at h;rcases BL _ _ h with h|⟨e,k,j,c⟩
 .simp at h
 .refine⟨e,by simpa using k,j,c.imp _root_.id fun c=>?_⟩
  rw[g];rcases bR e.on pre.length with d|d
  .rw[bS,bX d,<-bS]
   exact c
  .rw[bS,ee d]at c
   simp at c
def eJ(P:Program)(E:FuncId->List AV->List Bx->List AV->List Bx->Prop)(ops:List Oper)(an:Nat->An)(nb:Nat->Nat):Nat->List Nat->St->(St->Prop)->Prop
 |0,_,s,k=>k s
 |n+1,b,s,k=>∀i∈b,iF ops b i=true->∃c,sW P E ops an nb i s c/\eJ P E ops an nb n (b.filter (· != i)) c k
def qJ(ops:List Oper)(c:List Nat):Prop:=∀j,j<ops.length->j∉c->∀b,((jR ops []).getD j 0).testBit b=true->b∉c
def sY(ops:List Oper):Prop:=∀(i:Nat)o,ops[i]?=some o->∀e∈o.after,Region.binds .any e=true->e.on<i
def Tp(h:IC ops=true):sY ops:=by
 intro i o b e d c;unfold IC at h;simp only[bU,bf,dG]at h;have:=h.2 i (aE.1 b).1;rw[b]at this;simp only[bf,gu,gw,fm]at this;exact(this e (by simpa using d)).resolve_left (by simp[c])
def yK{d:List Nat}{i b:Nat}(o:sY ops)(n:qJ ops d)(g:i<ops.length)(c:iF ops d i=true)(m:((jR ops []).getD i 0).testBit b=true):b∉d:=by
 have f:=bk g;obtain⟨e,k,l,h⟩:=MZ f m;unfold iF at c;rw[f]at c;simp only[bf,gu,gw]at c;have j:e.on∉d:=by
  have:=(c e (by simpa using k)).resolve_left (by simp[l])
  simpa using this
 rcases h with rfl|h
 .exact j
 .exact n e.on (qj (o i _ f e k l) g) j b h
def qJ.next{c:List Nat}{i:Nat}(l:sY ops)(f:qJ ops c)(m:i<ops.length)(p:iF ops c i=true):qJ ops (c.filter (· != i)):=by
 intro j n o b d k;have g:=(dZ.1 k).1;clear k;by_cases e:j=i
 .subst e
  exact yK l f m p d g
 .exact f j n (fun h=>o (dZ.2 ⟨h,by simpa using e⟩)) b d g
def kC{b:List Nat}(j:b.Nodup){i:Nat}(c:i∈b):(b.filter (· != i)).length+1=b.length:=by
 induction b with
 |nil=>simp at c
 |cons x l m=>
  obtain⟨d,f⟩:=hH.1 j;by_cases e:x=i
  .subst e
   have:l.filter (· != x)=l:=xz.2 fun a g=>by
    have:a≠x:=fun e=>d (e▸g)
    simpa using this
   simp[this]
  .have:=m f ((aU.1 c).resolve_left fun h=>e h.symm)
   have k:(x !=i)=true:=by simpa using e
   simp only[tO,k,if_true,aC];omega
def M0{c d:List Nat}(h:∀x∈d,x∈c){i:Nat}(b:iF ops c i=true):iF ops d i=true:=by
 unfold iF at b⊢;split at b
 .simp only[bf,gu,gw]at b⊢
  intro e f;refine(b e f).imp _root_.id fun g=>?_
  have:e.on∉c:=by simpa using g
  simpa using fun j=>this (h _ j)
 .simp at b
def eJ.front(l:sY ops){k:St->Prop}:∀(n:Nat)(b:List Nat)(s f:St)(i:Nat),b.length=n+1->b.Nodup->(∀j∈b,j<ops.length)->i∈b->(∀j∈b,j≠i->((jR ops []).getD j 0).testBit i=true\/Passes ops an nb i j)->
  qJ ops b->sW P E ops an nb i s f->eJ P E ops an nb n (b.filter (· != i)) f k->eJ P E ops an nb (n+1) b s k
 |n,b,s,f,i,Y,g,u,o,D,r,H,z=>by
  intro c d q;by_cases e:c=i
  .subst e;exact⟨f,H,z⟩
  .have v:c∈b.filter (· != i):=dZ.2 ⟨d,by simpa using e⟩
   have hlen:=kC g o;cases n with
   |zero=>
    have:b.filter (· != i)=[]:=List.eq_nil_of_length_eq_zero (by omega)
    rw[this]at v;simp at v
   |succ m=>
    obtain⟨X,I,y⟩:=z c v (M0 (fun x M=>(dZ.1 M).1) q)
    have K:Passes ops an nb i c:=(D c d e).resolve_left fun J=>yK l r (u c d) q J o
    obtain⟨t,Q,t2⟩:=H.comm K I;have Z:=kC g d;refine⟨t,Q,eJ.front l m (b.filter (· != c)) t X i (by omega) (g.filter _) (fun j p=>u j (dZ.1 p).1) (dZ.2 ⟨o,by simpa using fun h:i=c=>e h.symm⟩)
     (fun j p T=>D j (dZ.1 p).1 T) (r.next l (u c d) q) t2 ?_⟩
    rw[List.filter_filter]at y⊢;have:(fun a=>(a !=i)&&(a !=c))=fun a=>(a !=c)&&(a !=i):=by funext a;exact Bool.and_comm _ _
    rw[this];exact y
structure Gj (ops:List Oper):Prop where
 own:Own ops
 guard:∀(i:Nat)o j w,ops[i]?=some o->o.guard=some (j,w)->j<i/\∃e∈o.after,Region.binds .any e=true/\e.on=j
def Wp(h:Wj ops=true):Gj ops:=by
 unfold Wj at h;simp only[bU,bf,dG]at h;refine⟨Wn h.1,fun i o j w b k=>?_⟩
 have:=h.2 i (aE.1 b).1;rw[b]at this;simp only[fS,k,bU,fm,og,beq_iff_eq]at this;obtain⟨c,e,d,f,g⟩:=this;exact⟨c,e,by simpa using d,f,g⟩
def wM:∀(l:List Nat){k:Nat->Prop},Dy l k->∀i∈l,k i
 |[],k,h,i,b=>by simp at b
 |[x],k,h,i,b=>by simp at b;subst b;exact h
 |x::y::l,k,h,i,b=>by
  rcases aU.1 b with rfl|b
  .exact h.1
  .exact wM (y::l) h.2 i b
structure Part (ops:List Oper) (done M1:List Nat):Prop where
 nd:M1.Nodup
 lt:∀j∈M1,j<ops.length
 not:∀j∈M1,j∉done
 all:∀j,j<ops.length->j∉M1->j∈done
def Part.next{done d:List Nat}(h:Part ops done d)(i:Nat):Part ops (i::done) (d.filter (· != i)):=by
 refine⟨h.nd.filter _,fun j b=>h.lt j (dZ.1 b).1,fun j b c=>?_,fun j b k=>?_⟩
 .obtain⟨f,g⟩:=dZ.1 b
  rcases aU.1 c with rfl|c
  .simp at g
  .exact h.not j f c
 .by_cases e:j=i
  .subst e;exact aS ..
  .exact aP _ (h.all j b fun c=>k (dZ.2 ⟨c,by simpa using e⟩))
def Part.guards{done d:List Nat}(h:Part ops done d)(n:Gj ops){i:Nat}(b:iF ops d i=true):∀o j w,ops[i]?=some o->o.guard=some (j,w)->j∈done:=by
 intro o j w c m;obtain⟨f,e,g,k,l⟩:=n.guard i o j w c m;refine h.all j (qj f (aE.1 c).1) ?_;unfold iF at b;rw[c]at b;simp only[bf,gu,gw]at b;have:=(b e (by simpa using g)).resolve_left (by simp[k])
 rw[l]at this;simpa using this
def yL(t:Gj ops)(p:sY ops){k:St->Prop}:∀(n:Nat)(f done:List Nat)(s:St)(c:Env),vt P E nb ops A id (jR ops []) n f s c k->eb ops done c s->Part ops done f->qJ ops f->eJ P E ops (A.an id) nb f.length f s k
 |0,f,done,s,c,h,_,_,_=>by cases f<;>exact h.elim
 |n+1,[],done,s,c,h,_,_,_=>h
 |n+1,x::l,done,s,c,h,z,d,u=>by
  have step:∀i∈x::l,iF ops (x::l) i=true->wpOp P E nb ops A id i s c (fun s c=>vt P E nb ops A id (jR ops []) n ((x::l).filter (· != i)) s c k)->
    ∃e,sW P E ops (A.an id) nb i s e/\eJ P E ops (A.an id) nb l.length ((x::l).filter (· != i)) e k:=by
   intro i b g H;obtain⟨e,J,m,o,y⟩:=DV t.own z (d.not i b) (d.guards t g) H;refine⟨e,m,?_⟩;have:=yL t p n _ _ e J y o (d.next i) (u.next p (d.lt i b) g);have D:=kC d.nd b;rw[show((x::l).filter (· != i)).length=l.length by simp only[aC]at D;omega]at this
   exact this
  simp only[vt]at h;split at h
  .rename_i i v
   have b:=kS v;have q:=ql v;simp only[bU,bf,gu,beq_iff_eq]at q;obtain⟨e,m,o⟩:=step i b q.1 h;refine eJ.front p l.length (x::l) s e i rfl d.nd d.lt b (fun j r I=>?_) u m o
   rcases q.2 j r with(h|h)|h
   .exact absurd h I
   .exact .inl h
   .exact .inr (BH h).symm
  .intro i b g
   exact step i b g (wM _ h i (dZ.2 ⟨b,g⟩))
def BM(v:Gj ops)(g:sY ops)(q:ID ops (A.an id) nb (jR ops [])=true){k:St->Prop}:∀(d done:List Nat)(s:St)(p:Env),FD P E nb ops A id d s p k->eb ops done p s->Part ops done d->qJ ops d->d.Pairwise (· < ·)->
  eJ P E ops (A.an id) nb d.length d s k
 |[],done,s,p,h,_,_,_,_=>h
 |i::l,done,s,p,h,K,b,x,Z=>by
  obtain⟨n,T⟩:=kR.1 Z;have f:i∈i::l:=aS ..;have u:∀o j w,ops[i]?=some o->o.guard=some (j,w)->j∈done:=by
   intro o j w m u;obtain⟨t,-⟩:=v.guard i o j w m u;refine b.all j (qj t (b.lt i f)) fun c=>?_
   rcases aU.1 c with e|c
   .omega
   .have:=n j c;omega
  obtain⟨z,R,t,I,J⟩:=DV v.own K (b.not i f) u h;have D:(i::l).filter (· != i)=l:=by
   have:l.filter (· != i)=l:=xz.2 fun a M=>by
    have:=n a M;have:a≠i:=by omega
    simpa using this
   simp[this]
  have Q:iF ops (i::l) i=true:=by
   have m:=bk (b.lt i f);unfold iF;rw[m];simp only[bf,gu,gw];intro e X;cases hb:Region.binds .any e with
   |false=>exact .inl rfl
   |true=>
    right
    have:=g i _ m e (by simpa using X) hb
    have:e.on∉i::l:=fun c=>by
     rcases aU.1 c with h|c
     .omega
     .have:=n _ c;omega
    simpa using this
  have H:=b.next i;have r:=x.next g (b.lt i f) Q;rw[D]at H r;have B:=BM v g q l _ z R J I H r T;refine eJ.front g l.length (i::l) s z i rfl b.nd b.lt f (fun j y F=>?_) x t (by rw[D];exact B)
  have Y:i<j:=n j ((aU.1 y).resolve_left F);unfold ID at q;simp only[bf,dG]at q;have:=q j (b.lt j y) i Y;unfold KB at this;simp only[gu]at this;exact this.imp (fun h=>h) BH
variable {w0:World} {aJ:Nat->Nat} {O:Nat->Prop} {G0 G:Gh} {s:St} {a:Act} {w:World}
def h8(n:Nat)(listed:Array Bool):List Nat:=(List.range n).filter fun k => !listed.getD k true
def Tq{ops:Array Oper}{Q:Exit->Act->World->Prop}{k:St->Prop}(X:sY ops.toList):∀(fuel:Nat)(listed:Array Bool)(s:St)(a:Act)(w:World),listed.size=ops.size->(h8 ops.size listed).length=fuel ->
  gY P w0 aJ O G0 s a w->eJ P (yA P) ops.toList an nb fuel (h8 ops.size listed) s k->(∀m a' w',k m->gY P w0 aJ O G0 m a' w'->Q .normal a' w')->wpAny P .any ops Q fuel listed a w:=by
 intro fuel;have I:∀{listed:Array Bool}{b},listed.size=ops.size->b<ops.size->listed.getD b false=listed.getD b true:=fun{listed b}c f=>by
  have:=cK (xs:=listed) (i:=b) (by rw[c];exact f)
  simp[jj,this]
 induction fuel with
 |zero=>
  intro listed s a w c p y x u;have H:h8 ops.size listed=[]:=List.eq_nil_of_length_eq_zero p;have D:Region.ready .any ops listed=[]:=by
   rw[List.eq_nil_iff_forall_not_mem];intro j F;obtain⟨q,o,N,_⟩:=mem_ready.1 F;have:j∈h8 ops.size listed:=dZ.2 ⟨dG.2 (gK.1 N).1,by simp[q]⟩
   rw[H]at this;simp at this
  exact⟨D,u _ _ _ x y⟩
 |succ fuel R=>
  intro listed s a w c p y x u;refine⟨fun H=>?_,fun i Z=>?_⟩
  .exfalso
   cases hA:h8 ops.size listed with
   |nil=>rw[hA]at p;simp at p
   |cons i A=>
    have n:i∈h8 ops.size listed:=by rw[hA];exact aS ..
    obtain⟨t,g⟩:=dZ.1 n;have d:=dG.1 t;have T:i∈Region.ready .any ops listed:=by
     refine mem_ready.2 ⟨by simpa using g,_,cK d,fun e z f=>?_⟩
     have C:=X i _ (by rw[gR];exact cK d) e z f
     have J:e.on<ops.size:=qj C d;cases hle:listed.getD e.on false with
     |true=>rfl
     |false=>
      have l:e.on∈h8 ops.size listed:=dZ.2 ⟨dG.2 J,by rw[<-I c J,hle];rfl⟩
      have v:(h8 ops.size listed).Pairwise (· < ·):=List.Pairwise.filter _ List.pairwise_lt_range
      rw[hA]at v l;rw[kR]at v;rcases aU.1 l with h|h
      .omega
      .have:=v.1 _ h;omega
    rw[H]at T;simp at T
  .obtain⟨q,o,K,B⟩:=mem_ready.1 Z
   have d:i<ops.size:=(gK.1 K).1;have n:i∈h8 ops.size listed:=dZ.2 ⟨dG.2 d,by simp[q]⟩
   have D:iF ops.toList (h8 ops.size listed) i=true:=by
    unfold iF;rw[gR,K];simp only[bf,gu,gw];intro e z;cases f:Region.binds .any e with
    |false=>exact .inl rfl
    |true=>
     right
     have:=B e (by simpa using z) f
     have:e.on∉h8 ops.size listed:=fun l=>by
      obtain⟨t,g⟩:=dZ.1 l;rw[I c (dG.1 t)]at this;rw[this]at g;simp at g
     simpa using this
   obtain⟨m,Y,S⟩:=x i n D;have M:h8 ops.size (listed.setIfInBounds i true)=(h8 ops.size listed).filter (· != i):=by
    unfold h8;rw[List.filter_filter];apply List.filter_congr;intro k V;by_cases r:i=k
    .subst r
     have:(listed.setIfInBounds i true).getD i true=true:=by
      simp[jj,N2 (show i<listed.size by rw[c];exact d)]
     rw[this];simp
    .rw[getD_set_ne true r]
     have:(k !=i)=true:=by simpa using fun e:k=i=>r e.symm
     rw[this];simp
   have L:(h8 ops.size listed).Nodup:=(qn).filter _;have W:=kC L n;exact Y.F7 y fun a' w' U=>R _ m a' w' (by simpa using c) (by rw[M];omega) U (by rw[M];exact S) u
def gL(P:Program)(E:FuncId->List AV->List Bx->List AV->List Bx->Prop)(ops:List Oper)(an:Nat->An)(nb:Nat->Nat):List Nat->St->(St->Prop)->Prop
 |[],s,k=>k s
 |i::l,s,k=>∃b,sW P E ops an nb i s b/\gL P E ops an nb l b k
def BN(n:Gj ops){k:St->Prop}:∀(d done:List Nat)(s:St)(c:Env),FD P E nb ops A id d s c k->eb ops done c s->Part ops done d->d.Pairwise (· < ·)->gL P E ops (A.an id) nb d s k
 |[],done,s,c,h,_,_,_=>h
 |i::l,done,s,c,h,y,b,I=>by
  obtain⟨q,D⟩:=kR.1 I;have p:i∈i::l:=aS ..;have g:∀o j w,ops[i]?=some o->o.guard=some (j,w)->j∈done:=by
   intro o j w r g;obtain⟨f,-⟩:=n.guard i o j w r g;refine b.all j (qj f (b.lt i p)) fun m=>?_
   rcases aU.1 m with e|m
   .omega
   .have:=q j m;omega
  obtain⟨t,J,f,v,x⟩:=DV n.own y (b.not i p) g h;have H:(i::l).filter (· != i)=l:=by
   have:l.filter (· != i)=l:=xz.2 fun a z=>by
    have:=q a z;have:a≠i:=by omega
    simpa using this
   simp[this]
  have u:=b.next i;rw[H]at u;exact⟨t,f,BN n l _ t J x v u D⟩
def Jg(ops:List Oper)(s b:St):Prop:=∀x B,(∀o∈ops,o.dst≠some x)->s.tmps.getD x .none = .v (.bool B)->b.tmps.getD x .none = .v (.bool B)
def sW.same{i:Nat}{s g:St}(h:sW P E ops an nb i s g):Jg ops s g:=by
 intro x B l k;obtain⟨o,b⟩:=h.has;obtain⟨c,-,f,e,-⟩:=h.eff b;rw[e,<-k];exact ov fun d j e=>l o (aK b) (e▸j)
def gL.bA{k:St->Prop}:∀(c:List Nat)(s:St),gL P E ops an nb c s k->gL P E ops an nb c s (fun d=>k d/\Jg ops s d)
 |[],s,h=>⟨h,fun _ _ _ h=>h⟩
 |i::l,s,⟨d,e,g⟩=>by
  have mono:∀(c:List Nat)(t:St){k f:St->Prop},(∀t,k t->f t)->gL P E ops an nb c t k->gL P E ops an nb c t f:=by
   intro c;induction c with
   |nil=>intro t k f j h;exact j _ h
   |cons i l p=>intro t k f j ⟨n,e,g⟩;exact⟨n,e,p n j g⟩
  exact⟨d,e,mono l d (fun t⟨a,b⟩=>⟨a,fun x B m o=>b x B m (e.same x B m o)⟩) (gL.bA l d g)⟩
def eJ.bA{k:St->Prop}:∀(n:Nat)(c:List Nat)(s:St),eJ P E ops an nb n c s k->eJ P E ops an nb n c s (fun d=>k d/\Jg ops s d)
 |0,c,s,h=>⟨h,fun _ _ _ h=>h⟩
 |n+1,c,s,h=>by
  have mono:∀(n:Nat)(c:List Nat)(t:St){k f:St->Prop},(∀t,k t->f t)->eJ P E ops an nb n c t k->eJ P E ops an nb n c t f:=by
   intro n;induction n with
   |zero=>intro c t k f l h;exact l _ h
   |succ n u=>intro c t k f l h i j m;obtain⟨p,e,g⟩:=h i j m;exact⟨p,e,u _ p l g⟩
  intro i j m;obtain⟨d,e,g⟩:=h i j m;exact⟨d,e,mono n _ d (fun t⟨a,b⟩=>⟨a,fun x B o q=>b x B o (e.same x B o q)⟩) (eJ.bA n _ d g)⟩
def gL.F7{ops:Array Oper}{Q:Exit->Act->World->Prop}{k:St->Prop}:∀(e:List Nat)(s:St)(a:Act)(w:World),gL P (yA P) ops.toList an nb e s k ->
  gY P w0 aJ O G0 s a w->(∀b a' w',k b->gY P w0 aJ O G0 b a' w'->Q .normal a' w')->wpOps P ops Q e a w
 |[],s,a,w,h,d,c=>c _ _ _ h d
 |i::l,s,a,w,⟨b,f,g⟩,d,c=>by
  rw[wpOps_cons];exact f.F7 d fun a' w' j=>gL.F7 l b a' w' g j c
def Inv.extend{heap:List Bx}{ad:List (Option Nat)}(f:Inv P w0 aJ O G heap w)(m:Nat):∃k,Inv P w0 aJ O k (heap++List.replicate m .free) w/\cb G ad w k ad w:=by
 let σ:Hd->Option Hd:=fun x=>match x with
  |.box b=>if b<heap.length then some (.box b)else none
  |x=>some x
 have l:∀x y,σ x=some y->x=y:=by
  intro x y h;cases x<;>simp only[σ]at h<;>first|exact au h|skip
  split at h<;>simp at h
  exact h
 refine⟨⟨G.bQ,(G.dq σ).h,G.val,G.bz⟩,f.ghost σ (fun x y z d i=>(l _ _ d).trans (l _ _ i).symm) (fun b c=>?_) (fun b bx c=>?_) (fun b n c h=>?_),cb.ghost σ (fun _ h=>h) (fun _ _=>rfl) (ar _) fun t n h _=>⟨n,h,.inr ⟨rfl,rfl⟩⟩⟩
 .have:=f.nb b c
  simp;omega
 .rcases bR b heap.length with g|g
  .rw[bX g]at c
   refine(f.box b bx c).dq (fun _ h=>h) (fun _ _=>rfl) (fun e=>by subst e;exact f.box b _ c) fun x j=>?_
   cases x<;>simp only[Hd.on]at j<;>first|exact j.elim|(subst j;simp[σ,g])
  .rw[ei g]at c
   have:bx = .free:=List.eq_of_mem_replicate (aK c);subst this;exact fun o=>by have:=f.nb b o;omega
 .simp only[Gh.dq]at h
  obtain⟨y,d,i⟩:=cI.1 h;simp only[σ]at d;split at d<;>simp at d
  rename_i g;rw[bX g]at c;exact f.dead b n c (d▸i)
def mB.Wq(h:mB P w0 aJ O G0 G s a w){l:List AV}(c:l.length=s.tmps.length)(f:∀(t:Nat)v x y,s.tmps[t]?=some x->l[t]?=some y->aL G s.ad w v x->aL G s.ad w v y):
  mB P w0 aJ O G0 G {s with tmps:=l} a w:=by
 refine⟨h.inv,by rw[h.size];exact c.symm,fun t v y e b=>?_,h.defers,h.nf⟩
 have b:l[t]?=some y:=b;have g:t<s.tmps.length:=by rw[<-c];exact(aE.1 b).1
 have d:=bk g;exact f t v _ y d b (h.rep t v _ e d)
def gY.OF(h:gY P w0 aJ O G0 s a w):gY P w0 aJ O G0 {s with tmps:=s.tmps.map oX} a w:=by
 obtain⟨G,h⟩:=h;refine⟨G,h.Wq (by simp) fun t v x y c b d=>?_⟩
 rw[bp,c]at b;obtain rfl:=au b;unfold oX;split
 .exact .none _
 .exact d
def gY.extend(h:gY P w0 aJ O G0 s a w)(m:Nat):gY P w0 aJ O G0 {s with heap:=s.heap++List.replicate m .free} a w:=by
 obtain⟨G,h⟩:=h;obtain⟨e,i,c⟩:=h.inv.extend (ad:=s.ad) m;exact⟨e,i,h.size,fun t v x f g=>(h.rep t v x f g).bA c,h.defers,fun b d=>⟨c.bz _ (h.nf b d).1,(c.val _ (h.nf b d).1).trans (h.nf b d).2⟩⟩
def gY.drew(h:gY P w0 aJ O G0 s a w):gY P w0 aJ O G0 s a {w with drawn:=w.drawn+1}:=by
 obtain⟨G,h⟩:=h;obtain⟨g,d⟩:=h.inv.drew (ad:=s.ad);exact⟨G,g,h.size,fun t v x e f=>(h.rep t v x e f).bA d,h.defers,fun b c=>⟨d.bz _ (h.nf b c).1,(d.val _ (h.nf b c).1).trans (h.nf b c).2⟩⟩
def sW.mono{j:FuncId->List AV->List Bx->List AV->List Bx->Prop}(n:∀f k h r l,E f k h r l->j f k h r l){i:Nat}{s m:St}(h:sW P E ops an nb i s m):sW P j ops an nb i s m:=by
 cases h with
 |run d b e g p q=>exact .run d b e g p fun c t=>n _ _ _ _ _ (q c t)
 |skip d b u=>exact .skip d b u
 |spec d b o e g=>exact .spec d b o e g
def gL.mono{b:FuncId->List AV->List Bx->List AV->List Bx->Prop}(e:∀f c h r d,E f c h r d->b f c h r d){k:St->Prop}:∀(j:List Nat)(s:St),gL P E ops an nb j s k->gL P b ops an nb j s k
 |[],s,h=>h
 |i::l,s,⟨g,m,n⟩=>⟨g,m.mono e,gL.mono e l g n⟩
def eJ.mono{c:FuncId->List AV->List Bx->List AV->List Bx->Prop}(g:∀f d h r e,E f d h r e->c f d h r e){k:St->Prop}:∀(n:Nat)(b:List Nat)(s:St),eJ P E ops an nb n b s k->eJ P c ops an nb n b s k
 |0,b,s,h=>h
 |n+1,b,s,h=>fun i o p=>by
  obtain⟨j,l,m⟩:=h i o p;exact⟨j,l.mono g,eJ.mono g n _ j m⟩
def yM{ops:Array Oper}{draw:Bool}{k:St->Prop}{rid:Nat}(H:∀f z h r D,E f z h r D->yA P f z h r D)(R:P.follows .mixedOrders=true)(C:gY P w0 aJ O G0 s a w)(h:KD P E ops.toList A id draw s k):
  (Code.region rid ops draw).wp P (fun e a' w'=>e = .normal/\∃d,k d/\Jg ops.toList s d/\gY P w0 aJ O G0 d a' w') a w:=by
 unfold KD at h;extract_lets k' sl nb s1 at h
 have M:gY P w0 aJ O G0 s1 a w:=C.OF.extend _;have kill:∀(l:List AV)(x:Nat)B,l.getD x .none = .v (.bool B)->(l.map oX).getD x .none = .v (.bool B):=by
  intro l x B g;rw[bS]at g⊢;rw[bp];cases hy:l[x]? with
  |none=>rw[hy]at g;simp at g
  |some y=>rw[hy]at g;simp at g;subst g;rfl
 have I:∀d a' w',(k' d/\Jg ops.toList s1 d)->gY P w0 aJ O G0 d a' w'->Exit.normal = .normal/\∃d,k d/\Jg ops.toList s d/\gY P w0 aJ O G0 d a' w':=
  fun d a' w'⟨T,Y⟩X=>⟨rfl,_,T,fun x B g Z=>kill _ _ _ (Y x B g (kill _ _ _ Z)),X.OF⟩
 split at h
 .exact h.elim
 all_goals
  rename_i S;have v:=Wp S;have n:eb ops.toList [] [] s1:=by
   refine⟨fun j b h=>by simp at h,fun i o j w h=>by simp at h,fun t c j w x h=>?_⟩
   exfalso;have h:(s.tmps.map oX).getD t .none = .opt c j w x:=h;rw[bS,bp]at h;cases g:s.tmps[t]? with
   |none=>rw[g]at h;simp at h
   |some y=>
    rw[g]at h;simp only[cP,mq,oX]at h;cases y<;>simp at h
  have u:Part ops.toList [] (List.range ops.toList.length):=⟨qn,fun j m=>dG.1 m,by simp,fun j m q=>absurd (dG.2 m) q⟩
  have K:(List.range ops.toList.length).Pairwise (· < ·):=List.pairwise_lt_range
  skip
 .refine wp_region ?_
  rw[<-lS];exact gL.F7 _ _ _ _ (gL.bA _ _ (gL.mono H _ _ (BN v _ _ _ _ h n u K))) M I
 .split at h
  .exact h.elim
  .rename_i U
   have p:=Tp U;have J:qJ ops.toList (List.range ops.toList.length):=fun j m q=>absurd (dG.2 m) q
   have Q:h8 ops.size (Array.replicate ops.size false)=List.range ops.size:=by
    unfold h8;rw[xz];intro k F;have:=dG.1 F;simp[jj,this]
   have L:eJ P (yA P) ops.toList (A.an id) nb (List.range ops.toList.length).length (List.range ops.toList.length) s1 k':=by
    refine eJ.mono H _ _ _ ?_;split at h
    .rename_i N
     exact BM v p N _ _ _ _ h n u J K
    .exact yL v p _ _ _ _ _ h n u J
   refine wp_region_any R (Tq (k:=fun d=>k' d/\Jg ops.toList s1 d) (an:=A.an id) (nb:=nb) p _ _ s1 a _ (by simp) (by rw[Q];simp) M.drew ?_ I)
   rw[Q];simpa using L.bA
end
section
variable {P:Program} {w0:World} {aJ:Nat->Nat} {O:Nat->Prop} {G0 G:Gh} {s:St} {a:Act} {w:World}
def mE{α:Type}{l:List α}{i t:Nat}{b y:α}(h:(l.set i b)[t]?=some y):(t=i/\y=b)\/(l[t]?=some y):=by
 by_cases e:t=i
 .subst e
  have c:t<l.length:=by have:=(aE.1 h).1;simpa using this
  rw[bN c]at h;exact .inl ⟨rfl,(au h).symm⟩
 .rw[bM (Ne.symm e)]at h
  exact .inr h
def mB.slot(h:mB P w0 aJ O G0 G s a w){t:Nat}{v:Value}{x:AV}(b:a.tmps[t]?=some v)(c:s.tmps.getD t .none=x):aL G s.ad w v x:=by
 have:=h.at t;rw[c]at this;rw[jj,b]at this;exact this
def o9:∀(c:List (Nat×Nat))(s:St)(l:List AV)(br:List (Option Nat)),gY P w0 aJ O G0 s a w->oj c s.tmps s.ad=(l,br)->gY P w0 aJ O G0 {s with tmps:=l,ad:=br} a w
 |[],s,l,br,h,b=>by
  simp only[oj,ax]at b;obtain⟨rfl,rfl⟩:=b;exact h
 |(i,n)::c,s,l,br,h,b=>by
  simp only[oj]at b;split at b
  .rename_i p
   obtain⟨G,h⟩:=h;refine o9 c {s with tmps:=s.tmps.set i (.own s.ad.length 0 n []),ad:=s.ad++[some 0]} l br ⟨G,h.inv,by simp[h.size],fun t v x e d=>?_,h.defers,h.nf⟩ b
   have k:cb G s.ad w G (s.ad++[some 0]) w:=⟨Grow.refl _ _,fun _ h=>h,fun _ _=>rfl,by simp,fun t m f j=>by
    rw[bX j]at f;exact⟨m,f,.inr ⟨rfl,fun _ g=>⟨g,rfl,rfl⟩⟩⟩⟩
   rcases mE d with⟨rfl,rfl⟩|d
   .have o:v = .slice none 0 0:=by
     have:=h.slot e p;cases this with|v h=>cases h;rfl
    subst o;exact .own (by simp) (fun m _=>dD _) (.mw n) fun _ q=>by omega
   .exact(h.rep t v x e d).bA k
  .exact o9 c s l br h b
def qK:∀(q:List (Nat×Nat))(s:St)(l:List AV)(k:List Bx),gY P w0 aJ O G0 s a w->rQ q s.tmps s.heap=(l,k)->gY P w0 aJ O G0 {s with tmps:=l,heap:=k} a w
 |[],s,l,k,h,f=>by
  simp only[rQ,ax]at f;obtain⟨rfl,rfl⟩:=f;exact h
 |(i,n)::q,s,l,k,h,f=>by
  simp only[rQ]at f;split at f
  .rename_i M
   obtain⟨G,h⟩:=h;have K:¬G.bz s.heap.length:=fun j=>by have:=h.inv.nb _ j;omega
   let d:Nat->Value:=fun x=>if x=s.heap.length then .slice none 0 0 else G.val x
   let D:Nat->Prop:=fun x=>G.bz x\/x=s.heap.length
   have u:∀b,G.bz b->d b=G.val b:=fun b c=>by
    have:b≠s.heap.length:=fun e=>K (e▸c)
    simp[d,this]
   have Q:∀x:Hd,(fun x:Hd=>some x) x=some x:=fun _=>rfl
   have H:Inv P w0 aJ O ⟨G.bQ,(G.dq some).h,d,D⟩ (s.heap++[.bc n []]) w:=by
    refine h.inv.ghost some (fun x y z p o=>by cases p;cases o;rfl) (fun b c=>?_) (fun b bx c=>?_) (fun b m c r=>?_)
    .rcases c with c|rfl
     .have:=h.inv.nb b c;simp;omega
     .simp
    .rcases bR b s.heap.length with g|g
     .rw[bX g]at c
      refine(h.inv.box b bx c).dq (fun _ h=>.inl h) u (fun e j=>?_) fun x _=>rfl
      subst e;rcases j with j|j
      .exact h.inv.box b _ c j
      .omega
     .rw[ei g]at c
      have:b-s.heap.length=0:=by
       have:=(aE.1 c).1;simp at this;omega
      have J:b=s.heap.length:=by omega
      rw[this]at c;simp at c;subst c J;exact⟨.inr rfl,by simp,.inr ⟨rfl,none,by simp[d]⟩⟩
    .rcases bR b s.heap.length with g|g
     .rw[bX g]at c
      simp only[Gh.dq,fS]at r;exact h.inv.dead b m c r
     .rw[ei g]at c
      have:=aK c;simp at this
   have I:cb G s.ad w ⟨G.bQ,(G.dq some).h,d,D⟩ s.ad w:=cb.ghost some (fun _ h=>.inl h) u (ar _) fun t m h _=>⟨m,h,.inr ⟨rfl,rfl⟩⟩
   refine qK q {s with tmps:=s.tmps.set i (.bo s.heap.length),heap:=s.heap++[.bc n []]} l k ⟨_,H,by simp[h.size],fun t v x p o=>?_,h.defers,fun b c=>⟨.inl (h.nf b c).1,(u b (h.nf b c).1).trans (h.nf b c).2⟩⟩ f
   rcases mE o with⟨rfl,rfl⟩|o
   .have E:v = .slice none 0 0:=by
     have:=h.slot p M;cases this with|v h=>cases h;rfl
    subst E;have:d s.heap.length = .slice none 0 0:=by simp[d]
    rw[<-this];exact .bo (.inr rfl) (by show(d s.heap.length).oneCell'=true;rw[this];rfl)
   .exact(h.rep t v x p o).bA I
  .exact qK q s l k h f
def qL(heap:List Bx):∀(n:Nat)(l c:List Nat),c.Nodup->(reach heap n l c).Nodup
 |0,l,c,h=>by cases l<;>exact h
 |n+1,[],c,h=>h
 |n+1,b::l,c,h=>by
  simp only[reach];split
  .exact qL heap n l c h
  .rename_i f
   refine qL heap n _ _ ?_;rw[tQ];refine⟨h,by simp,fun x g y d=>?_⟩
   simp at d;subst d;intro e;subst e;have:c.contains x=true:=by simpa using g
   rw[f]at this;simp at this
def vA(heap:List Bx):∀(n:Nat)(l c:List Nat),∃m,reach heap n l c=c++m
 |0,l,c=>⟨[],by cases l<;>simp[reach]⟩
 |n+1,[],c=>⟨[],by simp[reach]⟩
 |n+1,b::l,c=>by
  simp only[reach];split
  .exact vA heap n l c
  .obtain⟨m,d⟩:=vA heap n ((heap.getD b .dead).refs++l) (c++[b])
   exact⟨b::m,by rw[d];simp⟩
def wN{tmps:List AV}{ad:List (Option Nat)}:∀(c:List Nat)(e:List Nat),Dz tmps ad c=some e->∀(j i:Nat),c[j]?=some i->∃t d n al,tmps.getD i .none = .own t d n al/\ad[t]?=some (some d)/\e[j]?=some t
 |[],e,h,j,i,b=>by simp at b
 |x::c,e,h,j,i,b=>by
  simp only[Dz]at h;split at h<;>try(simp at h;done)
  rename_i t d n al p;split at h<;>try(simp at h;done)
  rename_i m;obtain⟨l,o,rfl⟩:=aX.1 h;cases j with
  |zero=>
   simp at b;subst b;exact⟨t,d,n,al,p,aN m,rfl⟩
  |succ j=>
   obtain⟨v,y,q,u,f,g,k⟩:=wN c l o j i (by simpa using b)
   exact⟨v,y,q,u,f,g,by simpa using k⟩
def qM:∀(l:List Nat)(t i:Nat),l.idxOf? t=some i->l[i]?=some t
 |[],t,i,h=>by simp[List.idxOf?]at h
 |x::l,t,i,h=>by
  rw[List.idxOf?_cons]at h;split at h
  .rename_i b
   simp at h;subst h;simp at b;simp[b]
  .obtain⟨j,c,rfl⟩:=aX.1 h
   simpa using qM l t j c
def sZ{α β:Type}(f:Nat->α->β):∀(l:List α)(i j:Nat),(iv f i l)[j]?=(l[j]?).map (f (i+j))
 |[],i,j=>by simp[iv]
 |a::l,i,0=>by simp[iv]
 |a::l,i,j+1=>by
  simp only[iv,rO];rw[sZ f l (i+1) j,show i+1+j=i+(j+1) by omega]
def s0{α β:Type}(f:Nat->α->β):∀(l:List α)(i:Nat),(iv f i l).length=l.length
 |[],i=>rfl
 |a::l,i=>by simp[iv,s0 f l]
def yN(c:List (Nat×Nat)):∀(h:List Bx)(k b:Nat)(y:Bx),(ky c k h)[b]?=some y->∃x,h[b]?=some x/\(y=x\/∃cs,x = .cells cs/\y = .cells (iv (fun i a=>match c.contains (k+b,i)with|true=>a.view|false=>a) 0 cs))
 |[],k,b,y,h=>by simp[ky]at h
 |x::h,k,b,y,d=>by
  cases b with
  |zero=>
   refine⟨x,rfl,?_⟩;cases x<;>simp only[ky,xI,aw]at d<;>subst d
   .exact .inr ⟨_,rfl,rfl⟩
   all_goals exact .inl rfl
  |succ b=>
   have:(ky c (k+1) h)[b]?=some y:=by cases x<;>simpa[ky]using d
   obtain⟨z,f,e⟩:=yN c h (k+1) b y this;rw[show k+1+b=k+(b+1) by omega]at e
   exact⟨z,f,e⟩
def Gk(b:List (Nat×Nat)):∀(h:List Bx)(k:Nat),(ky b k h).length=h.length
 |[],k=>rfl
 |x::h,k=>by cases x<;>simp[ky,Gk b h]
def ej.less{x:Hd}{v:Value}{c:AV}(h:ej G w x v c):ej G w x v c.view:=by
 cases c<;>first|exact h|skip
 obtain⟨b,A,len,cap,e,d,-⟩:=h;exact⟨b,.v (e▸d)⟩
def fY.vp{b:Nat}{x y:Bx}{p:Nat->Bool}(h:fY P G w b x)(t:y=x\/∃cs,x = .cells cs/\y = .cells (iv (fun i a=>match p i with|true=>a.view|false=>a) 0 cs)):fY P G w b y:=by
 rcases t with rfl|⟨cs,rfl,rfl⟩
 .exact h
 .obtain⟨u,X,elem,f,g,k,l,m,n,o⟩:=h
  refine⟨u,X,elem,f,g,k,l,by rw[s0];exact m,n,fun j v c q d=>?_⟩
  rw[sZ]at d;obtain⟨e,z,rfl⟩:=aX.1 d;have:=o j v e q z;split
  .exact this.less
  .exact this
def Inv.select{heap:List Bx}(p:Inv P w0 aJ O G heap w){d:List Nat}{da:List (Option Nat)}(H:d.Nodup)(F:∀k E t:Nat,da[k]?=some (some t)->da[E]?=some (some t)->k=E)
  (X:∀b∈d,∀b'∈(heap.getD b .dead).refs,b'∈d)(Y:∀b∈d,(heap.getD b .dead).simple=true):
  ∃o,lh G o (fun b=>d.idxOf b) (· ∈ d)/\(∀q t:Nat,da[q]?=some (some t)->o.h (.tok q)=G.h (.tok t))/\Inv P w0 aJ O o ((d.map fun b=>heap.getD b .dead).map (Bx.dq fun b=>d.idxOf b)) w /\
   ∀i b:Nat,d[i]?=some b->G.bz b->o.bz i/\o.val i=G.val b:=by
 let σ:Hd->Option Hd:=kz d da
 have T:∀x y z,σ x=some z->σ y=some z->x=y:=yB H F;let D:Nat->Value:=fun i=>G.val (d.getD i 0)
 let A:Nat->Prop:=fun i=>∃b,d[i]?=some b/\heap.getD b .dead≠.free
 have J:∀b,G.bz b->heap.getD b .dead≠.free:=by
  intro b c e;have K:=p.nb b c;have g:=bk K;rw[bS,g]at e;simp at e;rw[e]at g;exact p.box b _ g c
 have I:∀i b:Nat,d[i]?=some b->D i=G.val b:=fun i b h=>by simp[D,bS,h]
 have R:lh G ⟨G.bQ,(G.dq σ).h,D,A⟩ (fun b=>d.idxOf b) (· ∈ d):=by
  refine⟨rfl,fun b c l=>⟨b,lX c,J b l⟩,fun b c=>I _ _ (lX c),fun b c=>?_,fun b j c=>?_,fun b k c=>?_⟩
  all_goals
   show(σ _).bind G.h=_
   simp[σ,kz,lX c]
 refine⟨_,R,fun q t Q=>?_,p.ghost σ T (fun i Z=>?_) (fun i y u=>?_) fun i n u l=>?_,fun i b c l=>⟨⟨b,c,J b l⟩,I i b c⟩⟩
 .show(σ _).bind G.h=_
  simp[σ,kz,Q]
 .obtain⟨b,c,-⟩:=Z
  simp;exact(aE.1 c).1
 .simp only[dE,bp]at u
  obtain⟨b,c,rfl⟩:=aX.1 u;have r:=aK c;simp only[C4];cases m:heap[b]? with
  |none=>
   have:heap.getD b .dead = .dead:=by rw[bS,m];rfl
   rw[this];exact⟨b,c,by rw[this];simp⟩
  |some x=>
   have g:heap.getD b .dead=x:=by rw[bS,m];rfl
   by_cases f:x = .free
   .rw[g,f]
    rintro⟨b',v,M⟩;rw[c]at v;obtain rfl:=au v;exact M (g.trans f)
   .have:=(p.box b x m).Th (by rw[<-g];exact Y b r) (by cases x<;>simp[Bx.there]at f⊢) R r fun b' v=>X b r b' (by rw[g];exact v)
    rw[vw H c]at this;rw[g];exact this
 .simp only[dE,bp]at u
  obtain⟨b,c,f⟩:=aX.1 u;have f:heap.getD b .dead = .free:=yD f;have m:heap[b]?=some .free:=by
   rw[bS]at f;cases m:heap[b]? with
   |none=>rw[m]at f;simp at f
   |some x=>rw[m]at f;simp at f;rw[f]
  have l:(σ (.box i)).bind G.h=some n:=l;simp only[σ,kz,c,cP,fS]at l;exact p.dead b n m l
def Inv.vp{heap:List Bx}(c:Inv P w0 aJ O G heap w)(g:List (Nat×Nat)):Inv P w0 aJ O G (ky g 0 heap) w where
 frame:=c.frame
 nb:=fun b i=>by rw[Gk];exact c.nb b i
 box:=fun b y e=>by
  obtain⟨x,d,f⟩:=yN _ _ _ _ _ e;exact fY.vp (p:=fun j=>g.contains (0+b,j)) (c.box b x d) f
 inj:=c.inj
 nf:=c.nf
 dead:=fun b n e k=>by
  obtain⟨x,d,f⟩:=yN _ _ _ _ _ e;rcases f with rfl|⟨cs,-,h⟩
  .exact c.dead b n d k
  .simp at h
def KL{c:Cut}{base:Nat}{s D:St}(U:∀b,G0.bz b->b<base)(h:gY P w0 aJ O G0 s a w)(g:c.app base s=some D):gY P w0 aJ O G0 D a w:=by
 unfold Cut.app at g;split at g
 rename_i tmps ad e;split at g
 rename_i i heap d;split at g<;>try(simp at g;done)
 rename_i a8 a6;simp only at g;split at g<;>try(simp at g;done)
 rename_i J;obtain rfl:=au g;simp only[bU]at J;obtain⟨⟨⟨B,C⟩,L⟩,N⟩:=J;have o:=o9 _ s _ _ h e;have M:=qK _ {s with tmps:=tmps,ad:=ad} _ _ o d;clear o e d h;obtain⟨G,h⟩:=M;have a2:=qC _ B;have W:=qL heap 100 (c.refs i) (List.range base) qn;obtain⟨m,a5⟩:=vA heap 100 (c.refs i) (List.range base);generalize a4:reach heap 100 (c.refs i) (List.range base)=ids at*;clear a4;have Z:Inv P w0 aJ O G heap w:=h.inv;have mem:∀b∈ids,heap.getD b .dead∈ids.map fun b=>heap.getD b .dead:=fun b f=>bg.2 ⟨b,f,rfl⟩
 obtain⟨K,R,a7,hinv,V⟩:=Z.select (da:=a8.map some) W (fun k k' t e d=>by
  simp only[bp,aX,aw,exists_eq_right]at e d;exact(List.getElem?_inj (aE.1 e).1 a2).1 (e.trans d.symm)) (fun b f b' S=>by
   have:=bf.1 L b' (fk.2 ⟨_,mem b f,S⟩);simpa using this) fun b f=>bf.1 N _ (mem b f)
 refine⟨K,hinv.vp _,?_,fun t v x e d=>?_,h.defers,fun b f=>?_⟩
 .show a.tmps.size=(iv _ 0 i).length
  rw[s0];exact h.size
 .have d:(iv (c.slot fun b=>ids.idxOf b) 0 i)[t]?=some x:=d
  rw[sZ,cr]at d;obtain⟨y,r,rfl⟩:=aX.1 d;have z:=h.rep t v y e r;have E:i.getD t .none=y:=by rw[bS,r];rfl
  unfold Cut.slot;split
  .exact .none _
  .rename_i l
   have l:t∈c.bl:=by simpa using l
   split
   .rename_i tk b0 n al
    cases z with
    |@own _ _ _ _ A len cap ht a9 u a1=>
     split
     .rename_i j q
      obtain⟨t',MK,n',b1,p,Q,T⟩:=wN _ _ a6 j t (qM _ _ _ q);rw[E]at p;obtain⟨rfl,rfl,rfl,rfl⟩:=AV.own.inj p;have a0:j<c.owns.length:=(aE.1 (qM _ _ _ q)).1;exact .own (by simpa using a0) (fun _ _=>dD _) (u.jA R.bQ) fun _=>(a1 Q).eq R.bQ (a7 j _ (by simp[T]))
     .exact .v (u.jA R.bQ)
   .split
    .rename_i I
     refine z.dq I R fun b f=>?_
     have F:b∈c.refs i:=by
      unfold Cut.refs;refine fk.2 ⟨t,l,?_⟩;rw[E];cases y<;>first|exact f|simp[AV.simple]at I
     have:=bf.1 C b F;simpa using this
    .exact .none _
 .have H:=U b f
  have a3:ids[b]?=some b:=by
   rw[a5,bX (by simpa using H),lR H]
  obtain⟨e,d⟩:=h.nf b f;obtain⟨X,Y⟩:=V b b a3 e;exact⟨X,Y.trans d⟩
def Jh{f:ResultVar}{x:AV}(h:mB P w0 aJ O G0 G s a w)(d:DA P s f=some x):
  ∃v,(match f with|.tmp t=>(pure (a.tmps.getD t undef):Sem Value)|.cell c t=>do loadVar t (<-asAddr (a.tmps.getD c undef))).run P w = .ok v w/\aL G s.ad w v x:=by
 cases f with
 |tmp t=>
  simp only[DA,aw]at d;subst d;exact⟨_,rfl,h.at t⟩
 |cell c t=>
  simp only[DA]at d;split at d<;>try(simp at d;done)
  rename_i b off m;split at d<;>try(simp at d;done)
  rename_i cs l;have e:=h.at c;rw[m]at e;show∃v,(do loadVar t (<-asAddr (a.tmps.getD c undef)):Sem Value).run P w = .ok v w/\aL G s.ad w v x
  generalize a.tmps.getD c undef=V at e⊢;cases e with
  |@aA _ _ o D q=>
   obtain⟨p,X,elem,y,z,g,i,j,r,k⟩:=h.inv.box b _ l;rw[q]at g;obtain rfl:o=p:=by simpa using g
   obtain⟨v,n,u⟩:=Bz (P:=P) (ad:=s.ad) i j k d;exact⟨v,by simp[asAddr,n],u⟩
def Gl{fn:Func}{l:List AV}(h:mB P w0 aJ O G0 G s a w)(q:vu P s fn.results.toList=some l):
  ∃b:List Value,(results fn a.tmps).run P w = .ok (ur b) w/\lj G s.ad w b l:=by
 let f:ResultVar->Sem Value:=fun n=>match n with|.tmp t=>(pure (a.tmps.getD t undef):Sem Value)|.cell c t=>do loadVar t (<-asAddr (a.tmps.getD c undef))
 have key:∀(e:List ResultVar)(l:List AV),vu P s e=some l->∃b:List Value,(e.mapM f).run P w = .ok b w/\lj G s.ad w b l:=by
  intro e;induction e with
  |nil=>
   intro l d;simp only[vu,aw]at d;subst d;exact⟨[],by simp,rfl,fun i v a m=>by simp at m⟩
  |cons n e r=>
   intro l d;unfold vu at d;split at d<;>try(simp at d;done)
   rename_i x D z E;simp only[aw]at d;subst d;obtain⟨v,m,J⟩:=Jh h z;obtain⟨b,o,k⟩:=r D E;refine⟨v::b,?_,by simp[k.1],fun i u y g j=>?_⟩
   .have I:(f n).run P w = .ok v w:=m
    simp[List.mapM_cons,I,o]
   .cases i with
    |zero=>simp at g j;subst g;subst j;exact J
    |succ i=>simp at g j;exact k.2 i u y g j
 obtain⟨b,o,k⟩:=key _ _ q;refine⟨b,?_,k⟩;have p:(fn.results.mapM f).run P w = .ok b.toArray w:=by
  rw[<-Dd (xs:=fn.results)];rw[List.mapM_toArray];simp[o]
 have:results fn a.tmps=(do let b <-fn.results.mapM f;pure (if h:b.size=1 then b[0]else .tuple b)):=rfl
 rw[this];simp only[Sem.run_bind,p,Result.andThen_ok,Sem.run_pure];congr 1
 match b with
 |[]=>rfl
 |[v]=>rfl
 |v::K::b=>simp[ur]
def BO{f:Nat->Nat}{x:AV}(h:∀b∈x.nh,f b=b):x.ub f=x:=by
 cases x<;>simp[AV.nh,AV.ub]at h⊢ <;> exact h
def qN{α:Type}{f:α->α}:∀{l:List α},(∀x∈l,f x=x)->l.map f=l
 |[],_=>rfl
 |a::l,h=>by rw[bB,h a (aS ..),qN fun x b=>h x (aP _ b)]
def Gm{f:Nat->Nat}{x:AV}(e:x.simple=true)(h:∀b∈x.refs,f b=b):x.dq f=x:=by
 by_cases d:∃g l m,x = .fn g l m
 .obtain⟨g,first,cap,rfl⟩:=d
  have key:∀a∈first++cap,a.ub f=a:=fun a c=>BO fun b k=>h b (by simp only[AV.refs,fk];exact⟨a,c,k⟩)
  simp only[AV.dq];rw[qN fun a c=>key a (dL _ c),qN fun a c=>key a (eT _ c)]
 .have i:x.dq f=x.ub f:=by cases x<;>first|rfl|exact absurd ⟨_,_,_,rfl⟩ d|simp[AV.simple]at e
  have j:x.refs=x.nh:=by cases x<;>first|rfl|exact absurd ⟨_,_,_,rfl⟩ d|simp[AV.simple]at e
  rw[i];exact BO (j▸h)
def BP{f:Nat->Nat}{x:Bx}(e:x.simple=true)(h:∀b∈x.refs,f b=b):x.dq f=x:=by
 cases x with
 |cells cs=>
  simp only[Bx.dq];rw[qN fun a c=>Gm (bf.1 e a c) fun b d=>h b (by simp only[Bx.refs,fk];exact⟨a,c,d⟩)]
 |_=>rfl
def fY.bz{b:Nat}{x:Bx}(h:fY P G w b x)(c:x≠.free):G.bz b:=by
 cases x with
 |cells cs=>obtain⟨_,_,_,h,_⟩:=h;exact h
 |bc n al=>exact h.1
 |tZ n al=>exact h.1
 |map t d=>obtain⟨_,_,_,h,_⟩:=h;exact h
 |dead=>exact h
 |free=>exact absurd rfl c
def Inv.move{heap:List Bx}{ad:List (Option Nat)}(o:Inv P w0 aJ O G heap w){b:Nat}{x:Bx}(I:heap[b]?=some x)(J:x≠.free)(Y:x.simple=true)(K:∀c∈x.refs,c≠b/\c≠heap.length):
  ∃r,Inv P w0 aJ O r (heap.set b .dead++[x]) w/\cb G ad w r ad w/\r.bz heap.length/\r.val heap.length=G.val b:=by
 have Q:=(aE.1 I).1;let N:=heap.length
 have S:b≠N:=Nat.ne_of_lt Q;have W:¬G.bz N:=fun h=>Nat.lt_irrefl _ (o.nb _ h)
 let g:Nat->Option Nat:=fun i=>if i=b then none else if i=N then some b else some i
 have T:∀i j c,g i=some c->g j=some c->i=j:=by
  intro i j c f m;simp only[g]at f m;split at f<;>try(simp at f;done)
  split at m<;>try(simp at m;done)
  split at f<;>split at m<;>simp only[aw]at f m<;>omega
 let σ:Hd->Option Hd:=fun x=>match x with
  |.box i=>(g i).map .box
  |.cell i j=>(g i).map fun c=>.cell c j
  |.nO i k=>(g i).map fun c=>.nO c k
  |.tok t=>some (.tok t)
 have L:∀x y z,σ x=some z->σ y=some z->x=y:=by
  intro x y z f m;cases x<;>cases y<;>simp only[σ,aX]at f m
  .obtain⟨c,f,rfl⟩:=f;obtain⟨d,m,e⟩:=m;cases e;rw[T _ _ _ f m]
  .obtain⟨c,f,rfl⟩:=f;obtain⟨d,m,e⟩:=m;cases e
  .obtain⟨c,f,rfl⟩:=f;obtain⟨d,m,e⟩:=m;cases e
  .obtain⟨c,f,rfl⟩:=f;cases m
  .obtain⟨c,f,rfl⟩:=f;obtain⟨d,m,e⟩:=m;cases e
  .obtain⟨c,f,rfl⟩:=f;obtain⟨d,m,e⟩:=m;cases e;rw[T _ _ _ f m]
  .obtain⟨c,f,rfl⟩:=f;obtain⟨d,m,e⟩:=m;cases e
  .obtain⟨c,f,rfl⟩:=f;cases m
  .obtain⟨c,f,rfl⟩:=f;obtain⟨d,m,e⟩:=m;cases e
  .obtain⟨c,f,rfl⟩:=f;obtain⟨d,m,e⟩:=m;cases e
  .obtain⟨c,f,rfl⟩:=f;obtain⟨d,m,e⟩:=m;cases e;rw[T _ _ _ f m]
  .obtain⟨c,f,rfl⟩:=f;cases m
  .cases f;obtain⟨d,m,e⟩:=m;cases e
  .cases f;obtain⟨d,m,e⟩:=m;cases e
  .cases f;obtain⟨d,m,e⟩:=m;cases e
  .cases f;cases m;rfl
 let q:Nat->Value:=fun c=>if c=N then G.val b else G.val c
 let A:Nat->Prop:=fun c=>G.bz c\/c=N
 have F:∀c,G.bz c->q c=G.val c:=fun c l=>by
  have:c≠N:=fun e=>W (e▸l)
  simp[q,this]
 have B:∀c,c≠b->c≠N->∀x:Hd,x.on c->σ x=some x:=by
  intro c f m x M;have C:g c=some c:=by simp[g,f,m]
  cases x<;>simp only[Hd.on]at M<;>first|exact M.elim|(subst M;simp only[σ,C,cP])
 have V:g N=some b:=by simp[g,Ne.symm S]
 refine⟨⟨G.bQ,(G.dq σ).h,q,A⟩,o.ghost σ L (fun c l=>?_) (fun c y l=>?_) (fun c n l u=>?_),cb.ghost σ (fun _ h=>.inl h) F (ar _) fun t n h _=>⟨n,h,.inr ⟨rfl,rfl⟩⟩,.inr rfl,by simp[q,N]⟩
 .rcases l with l|rfl
  .have:=o.nb c l;simp;omega
  .simp[N]
 .rcases bR c N with p|p
  .rw[bX (by simpa using p)]at l
   by_cases v:c=b
   .subst v
    rw[bN Q]at l;obtain rfl:=au l;exact .inl ((o.box c x I).bz J)
   .rw[bM (Ne.symm v)]at l
    refine(o.box c y l).dq (fun _ h=>.inl h) F (fun e D=>?_) (B c v (Nat.ne_of_lt p))
    subst e;rcases D with D|D
    .exact o.box c _ l D
    .omega
  .rw[ei (by simpa using p)]at l
   have X:c-(heap.set b .dead).length=0:=by
    have:=(aE.1 l).1;simp at this⊢;omega
   have U:c=N:=by simp at X;omega
   rw[X]at l;simp at l;subst l U;have R:lh G ⟨G.bQ,(G.dq σ).h,q,A⟩ (fun c=>if c=b then N else c) (fun c=>c=b\/c∈x.refs):=by
    have other:∀c,c∈x.refs->c≠b/\g c=some c:=fun c l=>by
     obtain⟨f,m⟩:=K c l;exact⟨f,by simp[g,f,show c≠N from m]⟩
    have E:∀c,(c=b\/c∈x.refs)->g (if c=b then N else c)=some c:=by
     rintro c (rfl|l)
     .simp[V]
     .obtain⟨f,m⟩:=other c l;simp[f,m]
    refine⟨rfl,fun c l u=>?_,fun c l=>?_,fun c l=>?_,fun c j l=>?_,fun c k l=>?_⟩
    .rcases l with rfl|l
     .exact .inr (by simp)
     .exact .inl (by simpa[(other c l).1]using u)
    .rcases l with rfl|l
     .simp[q]
     .obtain⟨f,m⟩:=K c l;simp[q,f,show c≠N from m]
    .show(σ (.box _)).bind G.h=_
     simp only[σ,E c l,cP,fS]
    .show(σ (.cell _ j)).bind G.h=_
     simp only[σ,E c l,cP,fS]
    .show(σ (.nO _ k)).bind G.h=_
     simp only[σ,E c l,cP,fS]
   have:=(o.box b x I).Th Y (by cases x<;>simp[Bx.there]at J⊢) R (.inl rfl) fun c l=>.inr l
   rw[BP Y fun c l=>by simp[(K c l).1]]at this
   simpa using this
 .have Z:c<N:=by
   rcases bR c N with p|p
   .exact p
   .exfalso
    rw[ei (by simpa using p)]at l
    have:=aK l;simp at this;exact J this.symm
  rw[bX (by simpa using Z)]at l
  have v:c≠b:=by
   intro e;subst e;rw[bN Q]at l;simp at l
  rw[bM (Ne.symm v)]at l;have u:(σ (.box c)).bind G.h=some n:=u;rw[B c v (Nat.ne_of_lt Z) (.box c) rfl]at u;exact o.dead c n l u
def vD(base H b:Nat):Nat:=if b<base then b else base+(b-H)
structure qO (G Gf:Gh) (base H m:Nat) (da:List (Option Nat)):Prop where
 dq:lh G Gf (vD base H) (fun b=>b<base\/(H<=b/\b<H+m))
 tok:∀q t:Nat,da[q]?=some (some t)->Gf.h (.tok q)=G.h (.tok t)
structure sB (P:Program) (w0:World) (aJ:Nat->Nat) (O:Nat->Prop) (G:Gh) (w:World) (base H:Nat) (bO ad da:List (Option Nat)) (heap bx:List Bx):Prop where
 inv:Inv P w0 aJ O G (heap++bx) w
 len:heap.length=H
 M3:qB bO ad da
 ok:∀x∈bx,x.simple=true/\x.under base=true
def AV.mF{n:Nat}{x:AV}(h:x.under n=true){b:Nat}(c:b∈x.refs):b<n:=aN (bf.1 h b c)
def uA{base H:Nat}{x:AV}(d:x.simple=true)(h:x.under base=true):x.dq (vD base H)=x:=Gm d fun b c=>by simp[vD,AV.mF h c]
section
variable {base H:Nat} {bO ad da:List (Option Nat)} {heap bx:List Bx}
def sB.move(g:sB P w0 aJ O G w base H bO ad da heap bx){b:Nat}{x:Bx}(i:heap[b]?=some x)(p:x≠.free)(k:x.simple=true)(l:x.under base=true)(q:∀c∈x.refs,c≠b)(v:base<=H):
  ∃d,sB P w0 aJ O d w base H bO ad da (heap.set b .dead) (bx++[x])/\cb G bO w d bO w/\d.bz (H+bx.length)/\d.val (H+bx.length)=G.val b:=by
 have o:=(aE.1 i).1;have u:(heap++bx)[b]?=some x:=by rw[bX o];exact i
 have hlen:(heap++bx).length=H+bx.length:=by rw[de,g.len]
 obtain⟨d,m,t,f,n⟩:=g.inv.move (ad:=bO) u p k fun c j=>⟨q c j,by
  have:c<base:=aN (bf.1 l c j);rw[hlen];omega⟩
 rw[hlen]at f n;refine⟨d,⟨?_,by simpa using g.len,g.M3,fun y e=>?_⟩,t,f,n⟩
 .rw[List.set_append_left _ _ o,bn]at m
  exact m
 .rcases bC.1 e with e|e
  .exact g.ok y e
  .simp at e;subst e;exact⟨k,l⟩
def uB(g:sB P w0 aJ O G w base H bO ad da heap bx){b b':Nat}{k j:List Bx}(h:uf base b heap bx=some (b',k,j))(o:G.bz b)(y:base<=b)(n:base<=H):
  ∃d x,b'=base+bx.length/\j=bx++[x]/\sB P w0 aJ O d w base H bO ad da k j/\cb G bO w d bO w/\d.bz (H+bx.length)/\d.val (H+bx.length)=G.val b:=by
 unfold uf at h;split at h<;>try(simp at h;done)
 rename_i x i;split at h<;>try(simp at h;done)
 rename_i f;simp only[bU]at f;simp only[aw,ax]at h;obtain⟨rfl,rfl,rfl⟩:=h;have p:x≠.free:=by
  intro e;subst e;have u:=(aE.1 i).1;exact g.inv.box b .free (by rw[bX u];exact i) o
 obtain⟨d,m,q,l,t⟩:=g.move i p f.1 f.2 (fun c v=>by
  have:c<base:=aN (bf.1 f.2 c v);omega) n
 exact⟨d,x,rfl,rfl,m,q,l,t⟩
def Tr{c d e:Gh}{m j:Nat}{q T:List (Option Nat)}{off b:Nat}{v:Value}(o:aL G bO w v (.aA b off))(f:c.bz (H+j))(p:c.val (H+j)=G.val b)(k:cb c bO w d bO w)(x:j<m)(t:base<=H)(L:qO d e base H m q):
  aL e T w v (.aA (base+j) off):=by
 have n:vD base H (H+j)=base+j:=by simp[vD];omega
 have i:(H+j)<base\/(H<=H+j/\H+j<H+m):=.inr ⟨by omega,by omega⟩
 cases o with
 |@aA _ _ y u h=>
  have g:=L.dq.bz _ i (k.bz _ f);have l:=L.dq.val _ i;rw[n]at g l;exact .aA g (l.trans ((k.val _ f).trans (p.trans h)))
def uC(R:base<=H):∀(l:List AV)(heap bx:List Bx)(m:List AV)(t d:List Bx)(G:Gh)(I:List Value),kT base l heap bx=some (m,t,d)->sB P w0 aJ O G w base H bO ad da heap bx->(∀a∈l,a.simple=true)->(∀a∈l,∀g f c,a≠.fn g f c)->
  I.length=l.length->(∀(j:Nat)v a,I[j]?=some v->l[j]?=some a->aL G bO w v a)->
  ∃q,sB P w0 aJ O q w base H bO ad da t d/\cb G bO w q bO w/\(∃e,d=bx++e)/\m.length=l.length/\(∀a∈m,∀b∈a.nh,b<base+d.length)/\
   ∀(o p:Gh)(T y:List (Option Nat))(n:Nat),cb q bO w o bO w->d.length<=n->qO o p base H n y->∀(j:Nat)v b,I[j]?=some v->m[j]?=some b->aL p T w v b
 |[],heap,bx,m,t,d,G,I,h,g,_,_,Y,E=>by
  simp only[kT,aw,ax]at h;obtain⟨rfl,rfl,rfl⟩:=h;exact⟨G,g,cb.refl _ _ _,⟨[],by simp⟩,rfl,by simp,fun _ _ _ _ _ _ _ _ j v b _ i=>by simp at i⟩
 |a::l,heap,bx,m,t,d,G,[],h,g,N,C,Y,E=>by simp at Y
 |a::l,heap,bx,m,t,d,G,v::I,h,g,N,C,Y,E=>by
  have step:∀(c:AV)(Q D:List Bx)(k:List AV)(J:Gh),kT base l Q D=some (k,t,d)->sB P w0 aJ O J w base H bO ad da Q D->cb G bO w J bO w->(∃e,D=bx++e)->(∀b∈c.nh,b<base+D.length)->
    (∀(o p:Gh)(T y:List (Option Nat))(n:Nat),cb J bO w o bO w->D.length<=n->qO o p base H n y->aL p T w v c)->
    ∃q,sB P w0 aJ O q w base H bO ad da t d/\cb G bO w q bO w/\(∃e,d=bx++e)/\(c::k).length=(a::l).length/\(∀a∈c::k,∀b∈a.nh,b<base+d.length)/\
     ∀(o p:Gh)(T y:List (Option Nat))(n:Nat),cb q bO w o bO w->d.length<=n->qO o p base H n y->∀(j:Nat)u b,(v::I)[j]?=some u->(c::k)[j]?=some b->aL p T w u b:=by
   intro c Q D k J X gA F ⟨e,B⟩ hc hr;obtain⟨q,g2,W,⟨e',a0⟩,l2,b2,r2⟩:=uC R l Q D k t d J I X gA (fun a E=>N a (aP _ E)) (fun a E=>C a (aP _ E)) (by simpa using Y)
    fun j u a t h2=>(E (j+1) u a (by simpa using t) (by simpa using h2)).bA F
   have a4:D.length<=d.length:=by rw[a0];simp
   refine⟨q,g2,F.trans W,⟨e++e',by rw[a0,B];simp⟩,by simp[l2],fun x S b i=>?_,fun o p T y n M Z L j u b z i=>?_⟩
   .rcases aU.1 S with rfl|S
    .have:=hc b i;omega
    .exact b2 x S b i
   .cases j with
    |zero=>simp at z i;subst z;subst i;exact hr o p T y n (W.trans M) (by omega) L
    |succ j=>exact r2 o p T y n M Z L j u b (by simpa using z) (by simpa using i)
  have A:=E 0 v a rfl rfl;have U:=N a (aS ..);have a2:=C a (aS ..);have same:∀(x:AV),x=a->a.under base=true->∀k,kT base l heap bx=some (k,t,d)->m=a::k->∃q,sB P w0 aJ O q w base H bO ad da t d/\cb G bO w q bO w/\(∃e,d=bx++e)/\m.length=(a::l).length/\(∀a∈m,∀b∈a.nh,b<base+d.length)/\
     ∀(o p:Gh)(T y:List (Option Nat))(n:Nat),cb q bO w o bO w->d.length<=n->qO o p base H n y->∀(j:Nat)u b,(v::I)[j]?=some u->m[j]?=some b->aL p T w u b:=by
   intro x _ z k K hm;subst hm;have e2:a.refs=a.nh:=by cases a<;>first|rfl|exact absurd rfl (a2 _ _ _)|simp[AV.simple]at U
   refine step a heap bx k G K g (cb.refl _ _ _) ⟨[],by simp⟩ (fun b i=>by have:=AV.mF z (e2▸i);omega) fun o p T y n M Z L=>?_
   have:=(A.bA M).dq (br:=T) U L.dq fun b i=>.inl (AV.mF z i)
   rw[uA U z]at this;exact this
  by_cases V:∃b off,a = .aA b off
  .obtain⟨b,off,rfl⟩:=V
   simp only[kT]at h;split at h
   .rename_i i
    obtain⟨⟨k,r'⟩,K,e⟩:=aX.1 h;simp only[ax]at e;obtain⟨rfl,rfl⟩:=e;exact same _ rfl (by simp[AV.under,AV.refs,AV.nh,aN i]) k K rfl
   .rename_i i
    split at h<;>try(simp at h;done)
    rename_i b' Q D a3;obtain⟨⟨k,r'⟩,K,e⟩:=aX.1 h;simp only[ax]at e;obtain⟨rfl,rfl⟩:=e;have a1:G.bz b:=by cases A with|aA B _=>exact B
    obtain⟨J,x,rfl,rfl,g1,F,e1,v1⟩:=uB g a3 a1 (by simpa using bH i) R
    refine step _ Q _ k J K g1 F ⟨_,rfl⟩ (fun b i=>by simp[AV.nh]at i;subst i;simp) fun o p T y n M Z L=>?_
    exact Tr A e1 v1 M (by simp at Z;omega) R L
  .have X:(match a.under base with
    |true=>(kT base l heap bx).map fun(m,r)=>(a::m,r)
    |false=>none)=some (m,t,d):=by
    cases a<;>first|exact h|exact absurd ⟨_,_,rfl⟩ V
   split at X<;>try(simp at X;done)
   rename_i z;obtain⟨⟨k,r'⟩,K,e⟩:=aX.1 X;simp only[ax]at e;obtain⟨rfl,rfl⟩:=e;exact same _ rfl z k K rfl
end
end
section
variable {P:Program} {w0:World} {aJ:Nat->Nat} {O:Nat->Prop} {G0 G:Gh} {s:St} {a:Act} {w:World}
variable {base H:Nat} {bO ad da:List (Option Nat)} {heap bx:List Bx}
def Ji(P:Program)(w0:World)(aJ:Nat->Nat)(O:Nat->Prop)(G:Gh)(w:World)(base H:Nat)(bO da:List (Option Nat))(bx:List Bx)(k:List Value)(r:List AV)(m f:List Bx):Prop:=
 ∃d br c,sB P w0 aJ O d w base H bO br c m f/\cb G bO w d bO w/\(∃e,f=bx++e)/\(∃e,c=da++e)/\r.length=k.length/\cq r=List.replicate (c.length-da.length) (some 0)/\
  ∀(g i:Gh)(T l:List (Option Nat))(n:Nat),cb d bO w g bO w->f.length<=n->qO g i base H n l->(∀(q:Nat)x,c[q]?=some x->l[q]?=some x)->(∀q:Nat,q<c.length->T[q]?=some (some 0))->
   ∀(j:Nat)v b,k[j]?=some v->r[j]?=some b->aL i T w v b
def Ji.cons{o:Gh}{d m y t:List _}{K:List Value}{v:Value}{c:AV}{r:List AV}(h:Ji P w0 aJ O o w base H bO d m K r y t)(U:cb G bO w o bO w)(k:∃e,m=bx++e)(S:∃e,d=da++e)
  (R:cq [c]=List.replicate (d.length-da.length) (some 0))
  (N:∀(f i:Gh)(T l:List (Option Nat))(n:Nat),cb o bO w f bO w->m.length<=n->qO f i base H n l->(∀(q:Nat)x,d[q]?=some x->l[q]?=some x)->(∀q:Nat,q<d.length->T[q]?=some (some 0))->aL i T w v c):
  Ji P w0 aJ O G w base H bO da bx (v::K) (c::r) y t:=by
 obtain⟨Q,br,M,g,I,⟨X,f1⟩,⟨Y,f2⟩,B,A,V⟩:=h;obtain⟨Z,f3⟩:=k;obtain⟨F,f4⟩:=S;have W:d.length<=M.length:=by rw[f2];simp
 have l2:m.length<=t.length:=by rw[f1];simp
 have l3:da.length<=d.length:=by rw[f4];simp
 refine⟨Q,br,M,g,U.trans I,⟨Z++X,by rw[f1,f3];simp⟩,⟨F++Y,by rw[f2,f4];simp⟩,by simp[B],?_,fun f i T l n J C L D z j u b p k=>?_⟩
 .rw[uu,R,A,List.replicate_append_replicate]
  congr 1
  omega
 .cases j with
  |zero=>
   simp at p k;subst p;subst k;exact N f i T l n (I.trans J) (by omega) L (fun q x E=>D q x (by rw[f2,bX (aE.1 E).1];exact E)) fun q a0=>z q (by omega)
  |succ j=>exact V f i T l n J C L D z j u b (by simpa using p) (by simpa using k)
def rT{rf:Bool}(S:base<=H):∀(Y:List AV)(C:List TypeId)(ad da:List (Option Nat))(heap bx:List Bx)(r:List AV)(D J:List Bx)(G:Gh)(B:List Value),
  ko P rf base C Y ad heap bx da.length=some (r,D,J)->sB P w0 aJ O G w base H bO ad da heap bx->B.length=Y.length->(∀(j:Nat)v a,B[j]?=some v->Y[j]?=some a->aL G bO w v a)->
  Ji P w0 aJ O G w base H bO da bx B r D J
 |[],C,ad,da,heap,bx,r,D,J,G,B,h,g,N,X=>by
  simp only[ko,aw,ax]at h;obtain⟨rfl,rfl,rfl⟩:=h;exact⟨G,ad,da,g,cb.refl _ _ _,⟨[],by simp⟩,⟨[],by simp⟩,N.symm,by simp[cq],fun _ _ _ _ _ _ _ _ _ _ j v b _ p=>by simp at p⟩
 |a::Y,C,ad,da,heap,bx,r,D,J,G,[],h,g,N,X=>by simp at N
 |a::Y,C,ad,da,heap,bx,r,D,J,G,v::B,h,g,N,X=>by
  have F:=X 0 v a rfl rfl;have plain:∀(c:AV)(Q K:List Bx)(M:Gh),(ko P rf base C.tail Y ad Q K da.length).map (fun(l,h)=>(c::l,h))=some (r,D,J)->sB P w0 aJ O M w base H bO ad da Q K->cb G bO w M bO w->(∃e,K=bx++e)->c.qD=false ->
    (∀(d i:Gh)(T o:List (Option Nat))(n:Nat),cb M bO w d bO w->K.length<=n->qO d i base H n o->aL i T w v c)->Ji P w0 aJ O G w base H bO da bx (v::B) r D J:=by
   intro c Q K M I Z R p V hr;obtain⟨⟨l,hh⟩,I,e⟩:=aX.1 I;simp only[ax]at e;obtain⟨rfl,rfl⟩:=e;exact(rT S Y C.tail ad da Q K l D J M B I Z (by simpa using N) fun j u b z y=>(X (j+1) u b (by simpa using z) (by simpa using y)).bA R).cons R p ⟨[],by simp⟩ (by rw[qE V];simp) fun d i T o n k q L _ _=>hr d i T o n k q L
  have self:∀(c:AV),(ko P rf base C.tail Y ad heap bx da.length).map (fun(l,h)=>(c::l,h))=some (r,D,J)->c.qD=false->(∀(d i:Gh)(T o:List (Option Nat))(n:Nat),cb G bO w d bO w->bx.length<=n->qO d i base H n o->aL i T w v c)->Ji P w0 aJ O G w base H bO da bx (v::B) r D J:=
   fun c I V hr=>plain c heap bx G I g (cb.refl _ _ _) ⟨[],by simp⟩ V hr
  have b7:∀{b b':Nat}{Q K:List Bx}{u:AV}(_:u = .mp b),uf base b heap bx=some (b',Q,K)->¬b<base->aL G bO w v u->(ko P rf base C.tail Y ad Q K da.length).map (fun(l,h)=>(.mp b'::l,h))=some (r,D,J)->Ji P w0 aJ O G w base H bO da bx (v::B) r D J:=by
   intro b b' Q K u hu a2 p F I;subst hu;cases F with
   |mp he ho=>
    obtain⟨M,x,rfl,rfl,Z,R,z,v1⟩:=uB g a2 he (Nat.le_of_not_lt p) S;refine plain _ Q _ M I Z R ⟨_,rfl⟩ rfl fun d i T o n k q L=>?_
    have a3:vD base H (H+bx.length)=base+bx.length:=by simp[vD];omega
    have W:(H+bx.length)<base\/(H<=H+bx.length/\H+bx.length<H+n):=.inr ⟨by omega,by simp at q;omega⟩
    have y:=L.dq.bz _ W (k.bz _ z);have v2:=(L.dq.val _ W).trans ((k.val _ z).trans v1);rw[a3]at y v2;rw[<-v2]at ho⊢;exact .mp y ho
  unfold ko at h;simp only at h;split at h
  .have hv:v = .slice none 0 0:=by cases F with|v h=>cases h;rfl
   split at h
   .rename_i n q
    obtain⟨⟨l,hh⟩,I,e⟩:=aX.1 h;simp only[ax]at e;obtain⟨rfl,rfl⟩:=e;have Z:sB P w0 aJ O G w base H bO ad (da++[none]) heap bx:=⟨g.inv,g.len,g.M3.dw,g.ok⟩;refine(rT S Y C.tail _ _ heap bx l D J G B (by simpa using I) Z (by simpa using N) fun j u b z y=>X (j+1) u b (by simpa using z) (by simpa using y)).cons (cb.refl _ _ _) ⟨[],by simp⟩ ⟨_,rfl⟩ (by simp[cq]) fun d i T o n k q L I hT=>?_
    subst hv;exact .own (aE.1 (hT da.length (by simp))).1 (fun _ _=>dD _) (.mw _) fun _ c1=>by omega
   .have key:∀(d i:Gh)(T o:List (Option Nat))(n:Nat),cb G bO w d bO w->bx.length<=n->qO d i base H n o->aL i T w v (.v .nil):=by
     intro d i T o n k q L;have:=(F.bA k).dq (br:=T) rfl L.dq fun b p=>by simp[AV.refs,AV.nh]at p
     exact this
    split at h
    .exact self _ h (sU rfl) fun d i T o n k q L=>(key d i T o n k q L).norm
    .exact self _ h rfl key
  .rename_i t c2 n al
   split at h
   .rename_i hd
    have a8:=aN hd;obtain⟨⟨l,hh⟩,I,e⟩:=aX.1 h;simp only[ax]at e;obtain⟨rfl,rfl⟩:=e;have Z:sB P w0 aJ O G w base H bO (ad.set t none) (da++[some t]) heap bx:=⟨g.inv,g.len,g.M3.snoc a8,g.ok⟩;refine(rT S Y C.tail _ _ heap bx l D J G B (by simpa using I) Z (by simpa using N) fun j u b z y=>X (j+1) u b (by simpa using z) (by simpa using y)).cons (cb.refl _ _ _) ⟨[],by simp⟩ ⟨_,rfl⟩ (by simp[cq]) fun d i T o n k q L I hT=>?_
    have h2:=F.bA k;cases h2 with
    |@own _ _ _ _ A len cap ht b4 hp a6=>
     have b6:=hT da.length (by simp)
     refine .own (aE.1 b6).1 (fun _ _=>dD _) (hp.jA L.dq.bQ) fun _=>?_
     exact(a6 (g.M3.bl _ _ a8)).eq L.dq.bQ (L.tok _ _ (I _ _ (by simp)))
   .refine self _ h rfl fun d i T o n k q L=>?_
    cases F.bA k with
    |own ht b4 hp a6=>exact .v (hp.jA L.dq.bQ)
  .rename_i b
   have c0:v=G.val b/\G.bz b/\v.oneCell'=true:=by cases F with|bo he ho=>exact⟨rfl,he,ho⟩
   obtain⟨rfl,he,a7⟩:=c0;split at h<;>try(simp at h;done)
   .rename_i n al U
    have a0:=(aE.1 U).1;have a4:(heap++bx)[b]?=some (.bc n al):=by rw[bX a0];exact U
    split at h
    .obtain⟨M,i1,R,p1⟩:=g.inv.freeze (ad:=bO) (.inl a4)
     rw[List.set_append_left _ _ a0]at i1;refine plain _ _ bx M h ⟨i1,by simpa using g.len,g.M3,g.ok⟩ R ⟨[],by simp⟩ rfl fun d i T o n k q L=>?_
     exact .v ((p1.grow k.grow).jA L.dq.bQ)
    .obtain⟨M,Z,R,z,v1⟩:=g.move U (by simp) rfl rfl (fun c E=>by simp[Bx.refs]at E) S
     refine plain _ _ _ M h Z R ⟨_,rfl⟩ rfl fun d i T o n k q L=>?_
     have a3:vD base H (H+bx.length)=base+bx.length:=by simp[vD];omega
     have W:(H+bx.length)<base\/(H<=H+bx.length/\H+bx.length<H+n):=.inr ⟨by omega,by simp at q;omega⟩
     have y:=L.dq.bz _ W (k.bz _ z);have v2:=(L.dq.val _ W).trans ((k.val _ z).trans v1);rw[a3]at y v2;rw[<-v2]at a7⊢;exact .bo y a7
   .rename_i n al U
    have a0:=(aE.1 U).1;have a4:(heap++bx)[b]?=some (.tZ n al):=by rw[bX a0];exact U
    have b2:=g.inv.box b _ a4;refine self _ h rfl fun d i T o n k q L=>?_
    exact .v ((b2.2.grow k.grow).jA L.dq.bQ)
  .rename_i b
   split at h
   .rename_i p
    have p:=aN p;refine self _ h rfl fun d i T o n k q L=>?_
    have:=(F.bA k).dq (br:=T) (f:=vD base H) rfl L.dq fun c E=>by simp[AV.refs,AV.nh]at E;subst E;exact .inl p
    rw[uA rfl (by simp[AV.under,AV.refs,AV.nh,p])]at this
    exact this
   .rename_i p
    split at h<;>try(simp at h;done)
    rename_i b' Q K a2;exact b7 rfl a2 (by simpa using bH p) F h
  .rename_i gf first cap
   split at h<;>try(simp at h;done)
   rename_i b8 Q K E b5;simp only[bU]at E;obtain⟨b9,b3⟩:=E;have a1:∀a∈first++cap,a.simple=true/\∀g l m,a≠.fn g l m:=by
    intro a X;have:=bf.1 (by simpa[AV.simple]using b9) a X
    cases a<;>simp at this<;>exact⟨rfl,by simp⟩
   cases F with
   |@fn _ fi ca _ _ a9 a5 b0 b1=>
    obtain⟨M,Z,R,p,lm,bm,rm⟩:=uC S cap heap bx b8 Q K G ca.toList b5 g (fun a X=>(a1 a (eT _ X)).1) (fun a X=>(a1 a (eT _ X)).2) (by simpa using a5) fun j v a z y=>b1 j v a (by simpa using z) y
    refine plain _ Q K M h Z R p rfl fun d i T o n k q L=>?_
    refine .fn a9 (by rw[lm];exact a5) (fun j v a z y=>?_) fun j v a z y=>rm d i T o n k q L j v a (by simpa using z) y
    have hm:=aK y;have hu:a.under base=true:=bf.1 b3 a hm;have:=((b0 j v a z y).bA (R.trans k)).dq (br:=T) (a1 a (dL _ hm)).1 L.dq fun b p=>.inl (AV.mF hu p)
    rw[uA (a1 a (dL _ hm)).1 hu]at this;exact this
  .split at h<;>try(simp at h;done)
   rename_i E;simp only[bU]at E;have key:∀(d i:Gh)(T o:List (Option Nat))(n:Nat),cb G bO w d bO w->bx.length<=n->qO d i base H n o->aL i T w v a:=by
    intro d i T o n k q L;have:=(F.bA k).dq (br:=T) E.1 L.dq fun b p=>.inl (AV.mF E.2 p)
    rw[uA E.1 E.2]at this;exact this
   have V:a.qD=false:=by cases a<;>first|rfl|simp[AV.simple]at E
   split at h
   .exact self _ h (sU V) fun d i T o n k q L=>(key d i T o n k q L).norm
   .exact self _ h V key
def lh.congr{G d:Gh}{f g:Nat->Nat}{S e:Nat->Prop}(R:lh G d f S)(h:∀b,e b->S b/\f b=g b):lh G d g e where
 bQ:=R.bQ
 bz:=fun b c i=>(h b c).2▸R.bz b (h b c).1 i
 val:=fun b c=>(h b c).2▸R.val b (h b c).1
 box:=fun b c=>(h b c).2▸R.box b (h b c).1
 cell:=fun b j c=>(h b c).2▸R.cell b j (h b c).1
 nO:=fun b k c=>(h b c).2▸R.nO b k (h b c).1
def Ret(P:Program)(w0:World)(aJ:Nat->Nat)(O:Nat->Prop)(G0:Gh)(r:List AV)(e:List Bx)(v:Value)(w':World):Prop:=
 ∃c d,Inv P w0 aJ O c e w'/\lj c (cq r) w' d r/\v=ur d/\∀b,G0.bz b->c.bz b/\c.val b=G0.val b
def Ts{fn:Func}{rf:Bool}{base:Nat}{r:List AV}{Z:List Bx}(a2:∀b,G0.bz b->b<base)(h:gY P w0 aJ O G0 s a w)(o:fin P fn rf base s=some (r,Z)):
  ∃v,(results fn a.tmps).run P w = .ok v w/\Ret P w0 aJ O G0 r Z v w:=by
 obtain⟨G,h⟩:=h;unfold fin at o;split at o<;>try(simp at o;done)
 rename_i l hl;split at o<;>try(simp at o;done)
 rename_i T m f hg;split at o<;>try(simp at o;done)
 rename_i I;simp only[aw,ax]at o;obtain⟨rfl,rfl⟩:=o;simp only[bU,fm]at I;obtain⟨t,a5⟩:=I;obtain⟨A,a8,S⟩:=Gl h hl;refine⟨_,a8,?_⟩;have g0:sB P w0 aJ O G w base s.heap.length s.ad s.ad [] s.heap []:=⟨by simpa using h.inv,rfl,qB.refl _,by simp⟩
 obtain⟨Y,br,N,g,k,-,⟨e,he⟩,hlen,a0,a7⟩:=rT t l _ s.ad [] s.heap [] T m f G A hg g0 S.1 S.2;let H:=s.heap.length
 have D:m.length=H:=g.len;let u:=List.range base++(List.range f.length).map (H + ·)
 have J:u.Nodup:=by
  refine tQ.2 ⟨qn,?_,fun x Q y hy=>?_⟩
  .exact List.Pairwise.map (H + ·) (fun a b h e=>h (Nat.add_left_cancel e)) qn
  .have:=dG.1 Q
   obtain⟨z,-,rfl⟩:=bg.1 hy;show x≠H+z
   have:base<=H:=t;omega
 have E:∀i,i<base->u[i]?=some i:=fun i p=>by
  show(List.range base++_)[i]?=_
  rw[bX (by simpa using p),lR p]
 have L:∀j,j<f.length->u[base+j]?=some (H+j):=fun j n=>by
  show(List.range base++_)[base+j]?=_
  rw[ei (by simp),List.length_range,Dl,bp,lR n]
  rfl
 have B:∀i,i<base->(m++f).getD i .dead=m.getD i .dead:=fun i p=>by
  have:i<m.length:=by rw[D];have:base<=H:=t;omega
  rw[bS,bX this,<-bS]
 have C:∀j,(m++f).getD (H+j) .dead=f.getD j .dead:=fun j=>by
  rw[bS,ei (by rw[D];omega),D,Dl,<-bS]
 have ok:∀b∈u,((m++f).getD b .dead).simple=true/\((m++f).getD b .dead).under base=true:=by
  intro b d;rcases bC.1 d with d|d
  .have d:=dG.1 d
   have X:b<m.length:=by rw[D];have:base<=H:=t;omega
   have M:m.getD b .dead∈m.take base:=by
    rw[bS,bk X];exact List.mem_take_iff_getElem.2 ⟨b,by omega,rfl⟩
   have:=bf.1 a5 _ M;simp only[bU]at this;rw[B b d];exact this
  .obtain⟨j,n,rfl⟩:=bg.1 d
   have n:=dG.1 n;show((m++f).getD (H+j) .dead).simple=true/\_
   rw[C j];have M:f.getD j .dead∈f:=by
    rw[bS,bk n];exact gv n
   exact g.ok _ M
 obtain⟨K,R,a9,hinv,a3⟩:=g.inv.select J g.M3.inj (fun b d b' a1=>dL _ (dG.2 (aN (bf.1 (ok b d).2 b' a1)))) fun b d=>(ok b d).1
 have U:lh Y K (vD base H) (fun b=>b<base\/(H<=b/\b<H+f.length)):=R.congr fun b d=>by
  rcases d with d|⟨b1,b2⟩
  .exact⟨aK (E b d),(vw J (E b d)).trans (by simp[vD,d])⟩
  .have:=L (b-H) (by omega)
   rw[show H+(b-H)=b by omega]at this
   refine⟨aK this,(vw J this).trans ?_⟩;have:¬b<base:=by have:base<=H:=t;omega
   simp[vD,this]
 have b0:((u.map fun b=>(m++f).getD b .dead).map (Bx.dq fun b=>u.idxOf b))=m.take base++f:=by
  rw[qN fun x Q=>?_]
  .refine eR fun i=>?_
   rw[bp];have a4:(m.take base).length=base:=by rw[oe,D];have:base<=H:=t;omega
   rcases bR i base with p|p
   .rw[E i p,bX (by omega),eS,aF p,cP,B i p]
    have:i<m.length:=by rw[D];have:base<=H:=t;omega
    rw[bS,bk this];rfl
   .have hr:(m.take base++f)[i]?=f[i-base]?:=by rw[ei (by omega),a4]
    rw[hr];rcases bR (i-base) f.length with n|n
    .have:=L (i-base) n
     rw[show base+(i-base)=i by omega]at this
     rw[this,cP,C,bS,bk n];rfl
    .rw[ee n,ee (by simp[u];omega)]
     rfl
  .obtain⟨b,d,rfl⟩:=bg.1 Q
   refine BP (ok b d).1 fun c I=>?_
   have:c<base:=aN (bf.1 (ok b d).2 c I);exact vw J (E c this)
 rw[b0]at hinv;have a6:cq T=List.replicate N.length (some 0):=by simpa using a0
 refine⟨K,A,hinv,⟨hlen.symm,a7 Y K (cq T) N f.length (cb.refl _ _ _) (ar _) ⟨U,a9⟩ (fun _ _ h=>h) fun q hq=>by rw[a6];simp[hq]⟩,rfl,fun b d=>?_⟩
 have X:=a2 b d;obtain⟨F,o2⟩:=h.nf b d;obtain⟨V,W⟩:=a3 b b (E b X) (k.bz _ F);exact⟨V,W.trans ((k.val _ F).trans o2)⟩
def Ends(P:Program)(w0:World)(aJ:Nat->Nat)(O:Nat->Prop)(G0:Gh)(b:Frame)(cs:List Frame)(m:Machine)(r:List AV)(h:List Bx):Prop:=
 ∃v w' c,Ret P w0 aJ O G0 r h v w'/\Steps P m (lone c cs w')/\c.fn=b.fn/\c.leaving P w' (.returned v)
def Ends.of_steps{b:Frame}{cs:List Frame}{m c:Machine}{r:List AV}{h:List Bx}(j:Steps P m c)(k:Ends P w0 aJ O G0 b cs c r h):Ends P w0 aJ O G0 b cs m r h:=by
 obtain⟨v,w',d,e,f,g,i⟩:=k;exact⟨v,w',d,e,j.trans f,g,i⟩
structure ma (P:Program) (fn:Func) (M1:List Item) (s:St) (base:Nat) (r:List AV) (h:List Bx):Prop where
 F7:∀(w0:World)(aJ:Nat->Nat)(O:Nat->Prop)(G0:Gh)(b:Frame)(cs:List Frame)(a:Act)(w:World),(∀x,G0.bz x->x<base)->b.kind = .normal->P.funcs[b.fn]?=some fn->gY P w0 aJ O G0 s a w ->
  Ends P w0 aJ O G0 b cs (lone (b.at a M1) cs w) r h
structure ak (P:Program) (f:FuncId) (args:List AV) (heap:List Bx) (r:List AV) (h:List Bx):Prop where
 F7:yA P f args heap r h
def Gn{fn:Func}{k:Bool}{r:List AV}{e:List Bx}{b:Frame}{cs:List Frame}{m:Machine}{q:List Item}(l:∀b,G0.bz b->b<base)(i:b.kind = .normal)(g:P.funcs[b.fn]?=some fn)(h:gY P w0 aJ O G0 s a w)
  (c:match fin P fn k base s with|some (f,d)=>Fi r e f d|none=>False)(j:Steps P m (lone {b.at a q with mode:=.returning} cs w)):Ends P w0 aJ O G0 b cs m r e:=by
 split at c
 .rename_i f d n
  obtain⟨rfl,rfl⟩:=c;obtain⟨v,p,o⟩:=Ts l h n;obtain⟨G,h⟩:=h;exact⟨v,w,_,o,j,rfl,rfl,h.defers,i,fn,g,p⟩
 .exact c.elim
def wO{l:List (Tmp×Bool)}{x:Tmp}{b:Bool}(h:l.lookup x=some b):(x,b)∈l:=by
 induction l with
 |nil=>simp at h
 |cons y l f=>
  obtain⟨c,d⟩:=y;rw[List.lookup_cons]at h;split at h
  .rename_i e
   simp at h e;subst h;subst e;exact aS ..
  .exact aP _ (f h)
def yO(N:P.follows .mixedOrders=true){fn:Func}{A:sA}{K:Nat->Option Cut}{r:List AV}{h:List Bx}{b:Frame}{cs:List Frame}(m:∀b,G0.bz b->b<base)(D:b.kind = .normal)(v:P.funcs[b.fn]?=some fn):
  ∀(n:Nat)(i:List Item)(s:St)(j:List (Tmp×Bool))(a:Act)(w:World),wp P (ak P) (ma P) fn base A K r h n i s j->(∀x B,(x,B)∈j->s.tmps.getD x .none = .v (.bool B))->gY P w0 aJ O G0 s a w ->
   Ends P w0 aJ O G0 b cs (lone (b.at a i) cs w) r h:=by
 intro n;induction n with
 |zero=>intro i s j a w d;exact d.elim
 |succ n I=>
  intro i s j a w d u f;have g:∀{R:List Item}{a':Act}{w':World},wp P (ak P) (ma P) fn base A K r h n R s j->gY P w0 aJ O G0 s a' w'->Steps P (lone (b.at a i) cs w) (lone (b.at a' R) cs w')->Ends P w0 aJ O G0 b cs (lone (b.at a i) cs w) r h:=
   fun M Q T=>Ends.of_steps T (I _ _ _ _ _ M u Q)
  have head:∀(c:Code)(k:List Item),(match(mu c).bind K with
    |some L=>match L.app base s with
     |some J=>ma P fn (.code c :: .inLoop c::k) J base r h
     |none=>False
    |none=>wp P (ak P) (ma P) fn base A K r h n (.code c :: .inLoop c::k) s j)->Steps P (lone (b.at a i) cs w) (lone (b.at a (.code c :: .inLoop c::k)) cs w)->Ends P w0 aJ O G0 b cs (lone (b.at a i) cs w) r h:=by
   intro c k q Z;split at q
   .split at q
    .rename_i J Y
     exact Ends.of_steps Z (q.F7 w0 aJ O G0 b cs a w m D v (KL m f Y))
    .exact q.elim
   .exact g q f Z
  unfold wp at d;cases i with
  |nil=>exact Gn m D v f d (.one step_end)
  |cons U k=>
   cases U with
   |code c=>
    cases c with
    |skip=>exact g d f (.one step_skip)
    |label l=>exact g d f (.one step_label)
    |seq x y=>exact g d f (.one step_seq)
    |block id c=>exact g d f (.one step_block)
    |ret=>exact Gn m D v f d (.one step_ret)
    |exit id=>
     simp only at d;split at d
     .rename_i k' V
      exact g d f (.one (step_exit V))
     .exact d.elim
    |loop c=>exact head c k d (.one step_loop)
    |cond x y z=>
     cases x with
     |tmp t=>
      have val:∀B,s.tmps.getD t .none = .v (.bool B)->a.eval (.tmp t)=.bool B:=by
       intro B p;obtain⟨G,h⟩:=f;have:=h.ev (.tmp t);simp only[ff,p]at this;exact this.np
      simp only at d;split at d
      .rename_i X
       exact g d f (.one (by simpa using step_cond (val _ (u _ _ (wO X)))))
      .rename_i X
       exact g d f (.one (by simpa using step_cond (val _ (u _ _ (wO X)))))
      .split at d
       .rename_i B p
        have F:∀x C,(x,C)∈(t,B)::j->s.tmps.getD x .none = .v (.bool C):=fun x C E=>(aU.1 E).elim (fun e=>by cases e;exact p) (u x C)
        cases B with
        |true=>exact Ends.of_steps (.one (by simpa using step_cond (val _ p))) (I _ _ _ _ _ d F f)
        |false=>exact Ends.of_steps (.one (by simpa using step_cond (val _ p))) (I _ _ _ _ _ d F f)
       .exact d.elim
     |_=>exact d.elim
    |region id ops draw=>
     simp only at d;split at d
     .split at d
      .rename_i J Y
       exact d.F7 w0 aJ O G0 b cs a w m D v (KL m f Y)
      .exact d.elim
     obtain⟨e,a',w',⟨rfl,J,M,Q,T⟩,a1⟩:=yM (rid:=id) (fun _ _ _ _ _ h=>h.F7) N f d b k cs
     refine Ends.of_steps a1 (I _ _ _ _ _ M (fun x B E=>?_) T)
     unfold N9 at E;obtain⟨W,a0⟩:=dZ.1 E;exact Q x B (fun o S=>by simpa using bf.1 a0 o S) (u x B W)
    |_=>exact d.elim
   |inBlock id=>exact g d f (.one step_inBlock)
   |inLoop c=>exact head c k d (.one step_inLoop)
   |_=>exact d.elim
def OG{fn:Func}{args:List AV}{f:List Bx}{ow:Array Value}(g:Inv P w G0.bQ O G0 f w)(e:lj G0 (cq args) w ow.toList args):
  gY P w G0.bQ O G0 (DB fn args f) {tmps:=ow++Array.replicate (fn.ntmps-ow.size) undef,defers:=[]} w:=by
 have i:ow.size=args.length:=by simpa using e.1
 refine⟨G0,g,by simp[DB,i],fun t v x d c=>?_,rfl,fun b h=>⟨h,rfl⟩⟩
 have c:(args++List.replicate (fn.ntmps-args.length) .none)[t]?=some x:=c;rcases bR t args.length with h|h
 .rw[bX h]at c
  have d:(ow++Array.replicate (fn.ntmps-ow.size) undef)[t]?=some v:=d;rw[Array.getElem?_append_left (by omega)]at d
  exact e.2 t v x (by simpa using d) c
 .rw[ei h,Dm]at c
  split at c<;>try(simp at c;done)
  obtain rfl:=au c;exact .none _
def ma.of_wp(e:P.follows .mixedOrders=true){fn:Func}{A:sA}{g:Nat->Option Cut}{b:List Item}{s:St}{base:Nat}{r:List AV}{h:List Bx}{n:Nat}(H:wp P (ak P) (ma P) fn base A g r h n b s []):ma P fn b s base r h:=.mk fun _ _ _ _ _ _ a w i d c f=>yO e i d c n b s [] a w H (by simp) f
def ma.Ws(c:P.follows .mixedOrders=true){fn:Func}{A:sA}{m:Nat->Option Cut}{d:List Item}{s:St}{base:Nat}{r:List AV}{h:List Bx}{n:Nat}(H:wpJ P (ak P) (ma P) fn base A m r h n d s):ma P fn d s base r h:=by
 constructor
 intro w0 aJ O G0 b cs a w o j i k;unfold wpJ at H;split at H
 .obtain⟨e,a',w',⟨rfl,l,f,-,g⟩,p⟩:=yM (fun _ _ _ _ _ h=>h.F7) c k H b _ cs
  exact Ends.of_steps p (yO c o j i n _ l [] a' w' f (by simp) g)
 .exact H.elim
def ak.of_wp(p:P.follows .mixedOrders=true){f:FuncId}{fn:Func}(e:P.funcs[f]?=some fn)(d:ud P f=true){A:sA}{y:Nat->Option Cut}{args:List AV}{heap:List Bx}{r:List AV}{h:List Bx}{n:Nat}
  (H:wp P (ak P) (ma P) fn heap.length A y r h n [.code (fn.body.getD .skip)] (DB fn args heap) []):ak P f args heap r h:=by
 constructor
 intro w G0 O c i t;unfold ud at d;rw[e]at d;simp only[bU,lT]at d;obtain⟨⟨b,g⟩,D⟩:=d;have q:¬fn.name = "runtime.NumGoroutine" := by simpa using D
 have z:(callFunc f c.toArray).run P w = .ok (.enter f c.toArray) w:=by
  simp[callFunc,e,q,g]
 refine .FX z fun cs=>?_
 let b':Frame:={(default:Frame)with fn:=f,kind:=.normal}
 rw[g]at H;obtain⟨v,w',j,k,l,m,o⟩:=yO (b:=b') (cs:=cs) p (fun x u=>i.nb x u) rfl e n _ _ [] _ w H (by simp) (OG i (ow:=c.toArray) (by simpa using t))
 refine⟨.returned v,w',j,⟨v,rfl,k⟩,?_,m,o⟩;have E:Frame.enter P f c.toArray .normal=b'.at {tmps:=c.toArray++Array.replicate (fn.ntmps-c.toArray.size) undef,defers:=[]} [.code b]:=by
  simp[Frame.enter,Frame.at,e,g,b']
 rw[E];exact l
def ak.soft{f:FuncId}{args:List AV}{heap:List Bx}{r:List AV}{h:List Bx}(H:ak P f args heap r h)(u:r.all (fun a=>a.simple||a.qD)=true):ak P f args heap (r.map AV.soft) h:=by
 constructor
 intro w G0 O z t j;refine(H.F7 w G0 O z t j).mono fun v w'⟨l,y,m,⟨n,o⟩,p,q⟩=>⟨l,y,m,⟨by simpa using n,fun i v a x g=>?_⟩,p,q⟩
 rw[bp]at g;obtain⟨b,k,rfl⟩:=aX.1 g;have d:=o i v b x k;have:=bf.1 u b (aK k);by_cases c:b.simple=true
 .have e:b.soft=b:=by cases b<;>first|rfl|simp[AV.simple]at c
  rw[e];exact d.bare c
 .have D:b.qD=true:=by simpa[c]using this
  cases b<;>simp[AV.qD]at D
  cases d with
  |own E I h j=>exact .v h
def ak.vp{f:FuncId}{args:List AV}{heap:List Bx}{r:List AV}{h:List Bx}(H:ak P f args heap r h)(b:List (Nat×Nat)):ak P f args heap r (ky b 0 h):=
 ⟨fun w G0 O k g i=>(H.F7 w G0 O k g i).mono fun _ _⟨c,j,d,e⟩=>⟨c,j,d.vp b,e⟩⟩
def ma.vp{fn:Func}{d:List Item}{s:St}{base:Nat}{r:List AV}{h:List Bx}(H:ma P fn d s base r h)(c:List (Nat×Nat)):ma P fn d s base r (ky c 0 h):=
 ⟨fun w0 aJ O G0 b cs a w j k l m=>by
  obtain⟨v,w',f,⟨e,o,g,i⟩,n⟩:=H.F7 w0 aJ O G0 b cs a w j k l m;exact⟨v,w',f,⟨e,o,g.vp c,i⟩,n⟩⟩
end
section
open Go.RowKit
def ox(W:World)(b:Nat):Nat:=
 match W.heap[b]? with
 |some (.cells c _ _)=>c.size
 |_=>0
def mb{W:World}{a:Addr}{v:Value}(h:W.cell? a=some v):a.off<ox W a.block/\a.spot=none:=by
 unfold World.cell? at h;unfold ox;split at h
 .rename_i c t e b
  rw[b];split at h
  .simp at h
  .rename_i d
   exact⟨(gK.1 h).1,by simpa using d⟩
 .simp at h
def Wt(W:World):Gh:=⟨ox W,fun _=>none,fun _=>undef,fun _=>False⟩
section
variable {P:Program}
def M4(W:World)(c:Laid (ox W) W):Inv P W (ox W) (fun _=>False) (Wt W) [] W:=
 ⟨my.refl _ _ _ (fun b a=>by simp[ox,rN a]) c,fun b h=>h.elim,fun b bx h=>by simp at h,fun x y n h=>by simp[Wt]at h,fun x n h=>by simp[Wt]at h,fun b n h=>by simp at h⟩
def M5{f:FuncId}(c:ud P f=true){args:List AV}(j:cq args=[])(h:ak P f args [] [.v (.bool true)] []){W:World}(o:Laid (ox W) W){ow:Array Value}
  (q:lj (Wt W) [] W ow.toList args):Calls P f ow W fun e w'=>e = .returned (.bool true)/\Below W.heap.size W w':=by
 have d:=h.F7 W (Wt W) (fun _=>False) ow.toList (M4 W o) (by rw[j];exact q)
 unfold ud at c;split at c<;>try(simp at c;done)
 rename_i fn m;simp only[bU,lT]at c;obtain⟨⟨b,x⟩,z⟩:=c;have p:¬fn.name = "runtime.NumGoroutine" := by simpa using z
 have y:(callFunc f ow.toList.toArray).run P W = .ok (.enter f ow) W:=by
  simp[callFunc,m,p,x]
 unfold dj at d;rw[y]at d;refine Calls.mono d fun e w'⟨v,l,r,w,a,⟨g,i⟩,t,_⟩=>?_
 subst l t;match w,g with
 |[u],_=>
  have s:=(i 0 u _ rfl rfl).np;subst s;exact⟨rfl,a.frame.os,a.frame.tape,a.frame.output,a.frame.size,fun k n=>(a.frame.DC k n id).1⟩
end
end
def p7(P:Program)(t:TypeId){H:Type}(d:DataW H):Prop:=∀n∈d.weights P t,n<=reachBytes
def BQ{P:Program}{e:TypeId}{H:Type}{l:List (DataW H)}(h:∀n∈DataW.weightsAll P e l,n<=reachBytes):∀d∈l,p7 P e d:=by
 induction l with
 |nil=>intro d b;simp at b
 |cons a l g=>
  intro d b n c;unfold DataW.weightsAll at h;rcases aU.1 b with rfl|b
  .exact h n (dL _ c)
  .exact g (fun m f=>h m (eT _ f)) d b n c
def mG{P:Program}{H:Type}:∀{e:List TypeId}{l:List (DataW H)},(∀n∈DataW.weightsEach P e l,n<=reachBytes)->∀(i:Nat)t d,e[i]?=some t->l[i]?=some d->p7 P t d
 |[],l,h,i,t,d,b,c=>by simp at b
 |t::e,[],h,i,u,d,b,c=>by simp at c
 |t::e,a::l,h,i,u,d,b,c=>by
  unfold DataW.weightsEach at h;cases i with
  |zero=>
   simp at b c;subst b;subst c;exact fun n f=>h n (dL _ f)
  |succ i=>
   simp at b c;exact mG (fun n f=>h n (eT _ f)) i u d b c
def bD(P:Program)(W:World)(fuel:Nat)(t:TypeId)(Q:List PV->Prop):Prop:=
 ∀(H:Type)(enc:TypeId×Value->H)(held:Bool)(cs:List Value)(x:DataW H×List MemPlace),
  DataW.trod enc P W 0 (fun _=>true) held fuel t cs=some x->p7 P t x.1->∃p,Q p/\lW (ox W) W cs.toArray p
section
variable {P:Program} {W:World} {fuel:Nat} {t:TypeId}
def dO{c:Nat->Nat}{v:Value}{p:PV}(h:bW c W v p):lW c W [v].toArray [p]:=
 ⟨rfl,fun i u q a b=>by
  cases i with
  |zero=>simp at a b;subst a;subst b;exact h
  |succ i=>simp at a⟩
def bD.mono{Q a:List PV->Prop}(h:bD P W fuel t Q)(k:∀p,Q p->a p):bD P W fuel t a:=fun H enc held cs x c b=>
 let ⟨p,hp,hr⟩:=h H enc held cs x c b
 ⟨p,k p hp,hr⟩
def bD.int{k:IntKind}(b:P.underlying t=some (.int k)):bD P W fuel t fun p=>∃n,bh k n/\p=[.int k n]:=by
 intro H enc held cs x c d;obtain⟨n,rfl,-,a⟩:=DataW.trod_int b c;simp only[Lit.wf,bU,fm]at a;exact⟨_,⟨n,a,rfl⟩,dO (.int k n)⟩
def bD.string(a:P.underlying t=some .string):bD P W fuel t fun p=>∃s:List UInt8,p=[.str s]:=by
 intro H enc held cs x b c;obtain⟨s,rfl,-,_⟩:=DataW.trod_string a b;exact⟨_,⟨_,rfl⟩,dO (.str s)⟩
def OH{a:Addr}{n:Nat}(h:a.spot=none):a.add n=⟨a.block,a.off+n,none⟩:=by
 unfold Addr.add;split
 .rename_i b
  subst b;cases a;simp_all
 .rfl
def vE{w:World}{a:Addr}{n:Nat}{cs:List Value}(h:w.cells? 0 a n=some cs):cs.length=n/\∀j,j<n->w.cell? (a.add j)=cs[j]?:=by
 unfold World.cells? at h;rw[aF (dD _)]at h;refine⟨by simpa using mapM_some_length h,fun j b=>mapM_some_get h j j (by simp[b])⟩
def bD.slice{e:TypeId}{Q:List PV->Prop}{n:Nat}(Z:P.underlying t=some (.slice e))(w:P.cellsOf e=n)(X:0<n)(d:∀m,m<fuel->bD P W m e Q)(Y:∀p,Q p->p.length=n):
  bD P W fuel t fun p=>∃al:List (List PV),p=[.sl n al]/\(∀r∈al,Q r)/\al.length<2^63/\al.length*P.bytesOf e<=reachBytes:=by
 intro H enc held cs x N z;rcases DataW.trod_slice Z N with⟨rfl,-⟩|⟨a,len,cap,elems,rest,m,hm,rfl,a8,-,A,a1,a2,R,b1,-⟩
 .exact⟨_,⟨[],rfl,by simp,by decide,by simp⟩,dO (.mw n)⟩
 .rw[w]at R
  have F:∀n∈((elems.map (·.1)).length+(rest.map (·.1)).length)*P.bytesOf e::(DataW.weightsAll P e (elems.map (·.1))++DataW.weightsAll P e (rest.map (·.1))),n<=reachBytes:=by
   rw[a8]at z;unfold p7 DataW.weights at z;rw[Z]at z;simpa using z
  have a5:∀y∈elems,p7 P e y.1:=fun y O=>BQ (fun n w=>F n (aP _ (dL _ w))) y.1 (bg.2 ⟨y,O,rfl⟩)
  have a7:len*P.bytesOf e<=reachBytes:=by
   have k:=F _ (aS ..);simp only[ao,a2]at k;exact dF (dt _ (Nat.le_add_right ..)) k
  have each:∀i,i<len->∃r,Q r/\∃cs,W.cells? 0 (a.add (i*n)) n=some cs/\lW (ox W) W cs.toArray r:=by
   intro i c;have k:=R i c;rw[bk (by omega)]at k
   obtain⟨cs,u,a6⟩:=cI.1 k;obtain⟨r,o,D⟩:=d m (by omega) H enc held cs _ a6 (a5 _ (gv _))
   exact⟨r,o,cs,u,D⟩
  have hlen:len<2^63:=by
   have:cap<=2^63-1:=a1;omega
  rcases C0 len with S|a9
  .subst S
   have D:bW (ox W) W (.slice (some a) 0 cap) (.sl n []):=by
    by_cases K:a.spot=none
    .obtain⟨b,off,b2⟩:=a
     simp only at K;subst K;exact .sl b off 0 cap n [] (fun _ _=>undef) rfl A (by simp) (fun i j p d=>by simp[jI]at d) fun i j p d=>by simp[jI]at d
    .by_cases a0:cap=0
     .subst a0;exact .Is a n
     .exfalso
      obtain⟨r1,U⟩:=b1 rfl;have k:=U 0 (by omega)
      rw[bk (by omega),w]at k
      obtain⟨cs,u,-⟩:=cI.1 k;obtain⟨B,G⟩:=vE u;have q:=G 0 X;rw[bk (by omega)]at q
      simp only[hE,Nat.zero_mul]at q;have s:=(mb q).2;exact K (by simpa[Addr.add]using s)
   exact⟨_,⟨[],rfl,by simp,by decide,by simp⟩,dO D⟩
  .have E:a.spot=none:=by
    obtain⟨r,o,cs,u,D⟩:=each 0 a9;obtain⟨k,q⟩:=vE u;have:=q 0 X;rw[bk (by omega)]at this
    simp only[Nat.zero_mul]at this;have s:=(mb this).2;simpa[Addr.add]using s
   let f:Nat->List PV:=fun i=>if h:i<len then(each i h).choose else[]
   have T:∀i(h:i<len),f i=(each i h).choose:=fun i h=>by simp[f,h]
   let g:Nat->List Value:=fun i=>if h:i<len then(each i h).choose_spec.2.choose else[]
   have C:∀i(h:i<len),g i=(each i h).choose_spec.2.choose:=fun i h=>by simp[g,h]
   have row:∀i,i<len->((List.range len).map f)[i]?=some (f i):=fun i c=>by simp[c]
   have M:∀i,i<len->Q (f i):=fun i c=>by rw[T i c];exact(each i c).choose_spec.1
   have b0:∀i,i<len->W.cells? 0 (a.add (i*n)) n=some (g i)/\lW (ox W) W (g i).toArray (f i):=fun i c=>by
    rw[T i c,C i c];exact(each i c).choose_spec.2.choose_spec
   have V:∀i j p,jI ((List.range len).map f) i j=some p->i<len/\(f i)[j]?=some p:=by
    intro i j p d;unfold jI at d;obtain⟨r,o,v⟩:=cI.1 d;have c:i<len:=by have:=(aE.1 o).1;simpa using this
    rw[row i c]at o;obtain rfl:=au o;exact⟨c,v⟩
   have cellAt:∀i j p,jI ((List.range len).map f) i j=some p->W.cell? ⟨a.block,a.off+i*n+j,none⟩=some ((g i).getD j undef)/\bW (ox W) W ((g i).getD j undef) p:=by
    intro i j p d;obtain⟨c,v⟩:=V i j p d;obtain⟨k,q,s⟩:=b0 i c;obtain⟨B,G⟩:=vE k;have a4:j<n:=by rw[<-Y _ (M i c)];exact(aE.1 v).1
    have I:=G j a4;have J:=bk (l:=g i) (i:=j) (by omega)
    rw[OH E,OH (by rfl)]at I
    rw[J]at I;have a3:(g i).getD j undef=(g i)[j]'(by omega):=by rw[bS,J];rfl
    rw[a3];exact⟨I,s j _ p (by rw[tW];exact J) v⟩
   refine⟨_,⟨(List.range len).map f,rfl,fun r o=>?_,by rw[ao,List.length_range];exact⟨hlen,a7⟩⟩,dO ?_⟩
   .obtain⟨i,c,rfl⟩:=bg.1 o
    exact M i (dG.1 c)
   .have L:a=⟨a.block,a.off,none⟩:=by
     obtain⟨b,off,sp⟩:=a;have E:sp=none:=E;rw[E]
    rw[L];refine .sl a.block a.off len cap n _ (fun i j=>(g i).getD j undef) (by simp) A (fun r o=>?_) (fun i j p d=>?_) fun i j p d=>(cellAt i j p d).2
    .obtain⟨i,c,rfl⟩:=bg.1 o
     exact Y _ (M i (dG.1 c))
    .have:=(cellAt i j p d).1
     exact⟨this,(mb this).1⟩
def vF:List (List PV->Prop)->List PV->Prop
 |[],p=>p=[]
 |Q::Qs,p=>∃a b,p=a++b/\Q a/\vF Qs b
def Gp{e:Nat->Nat}{X Y:List Value}{p q:List PV}(h:lW e W X.toArray p)(k:lW e W Y.toArray q):lW e W (X++Y).toArray (p++q):=by
 obtain⟨c,g⟩:=h;obtain⟨f,j⟩:=k;simp only[rJ]at c f;refine⟨by simp[c,f],fun i v x a b=>?_⟩
 simp only[tW]at a;rcases bR i X.length with d|d
 .rw[bX d]at a
  rw[bX (by omega)]at b
  exact g i v x (by simpa using a) b
 .rw[ei d]at a
  rw[ei (by omega),<-c]at b
  exact j _ v x (by simpa using a) b
def s4{cs:List Value}:∀(l:List (Nat×Nat×(List PV->Prop)))(off:Nat),(∀(i o n:Nat)(Q:List PV->Prop),l[i]?=some (o,n,Q)->∃p,Q p/\lW (ox W) W ((cs.drop o).take n).toArray p)->
  (∀(i o n:Nat)(Q:List PV->Prop),l[i]?=some (o,n,Q)->o=off+((l.take i).map (·.2.1)).sum)->∃p,vF (l.map (·.2.2)) p/\lW (ox W) W ((cs.drop off).take ((l.map (·.2.1)).sum)).toArray p
 |[],off,_,_=>⟨[],rfl,by simp,by simp⟩
 |(o,n,Q)::l,off,h,e=>by
  obtain⟨p,f,j⟩:=h 0 o n Q rfl;have d:=e 0 o n Q rfl;simp at d;subst d;obtain⟨q,g,k⟩:=s4 l (o+n) (fun i o' c a b=>h (i+1) o' c a (by simpa using b)) (fun i o' c a b=>by
   have:=e (i+1) o' c a (by simpa using b)
   simp only[xy,bB,eF]at this;omega)
  refine⟨p++q,⟨p,q,rfl,f,g⟩,?_⟩;have:=Gp j k;simp only[bB,eF];rw[List.take_add,fj];exact this
def bD.struct{a:Array Field}{Qs:List (List PV->Prop)}(u:P.underlying t=some (.struct a))(l:Qs.length=a.size)(z:∀m,m<fuel->∀(i:Nat)f Q,a[i]?=some f->Qs[i]?=some Q->bD P W m f.type Q)
  (y:∀(i:Nat)f,a[i]?=some f->f.offset=((a.toList.take i).map fun f=>P.cellsOf f.type).sum)(r:(a.toList.map fun f=>P.cellsOf f.type).sum=P.cellsOf t):bD P W fuel t (vF Qs):=by
 intro H enc held cs x E c;obtain⟨xs,m,X,J,G,K,M⟩:=DataW.trod_struct u E;have D:∀n∈DataW.weightsEach P (a.toList.map (·.type)) (xs.map (·.1)),n<=reachBytes:=by
  rw[J]at c;unfold p7 DataW.weights at c;rw[u]at c;exact c
 have v:∀(i o n:Nat)(Q:List PV->Prop),((a.toList.zip Qs).map fun(f,Q)=>(f.offset,P.cellsOf f.type,Q))[i]?=some (o,n,Q)->∃f,a[i]?=some f/\Qs[i]?=some Q/\o=f.offset/\n=P.cellsOf f.type:=by
  intro i o n Q h;rw[bp]at h;obtain⟨⟨f,T⟩,d,j⟩:=aX.1 h;simp only[ax]at j;obtain⟨rfl,rfl,rfl⟩:=j;rw[List.getElem?_zip_eq_some]at d;exact⟨f,by simpa using d.1,d.2,rfl,rfl⟩
 have w:(((a.toList.zip Qs).map fun(f,Q)=>((f.offset,P.cellsOf f.type,Q):Nat×Nat×(List PV->Prop))).map (·.2.1))=a.toList.map fun f=>P.cellsOf f.type:=by
  rw[dE];have:(fun x:Nat×Nat×(List PV->Prop)=>x.2.1)∘(fun x:Field×(List PV->Prop)=>(x.1.offset,P.cellsOf x.1.type,x.2))=(fun f:Field=>P.cellsOf f.type)∘Prod.fst:=rfl
  show List.map ((fun x:Nat×Nat×(List PV->Prop)=>x.2.1)∘(fun x:Field×(List PV->Prop)=>(x.1.offset,P.cellsOf x.1.type,x.2))) _=_
  rw[this,<-dE,List.map_fst_zip (by simp[l])]
 have I:(((a.toList.zip Qs).map fun(f,Q)=>((f.offset,P.cellsOf f.type,Q):Nat×Nat×(List PV->Prop))).map (·.2.2))=Qs:=by
  rw[dE];show List.map Prod.snd _=_
  rw[List.map_snd_zip (by simp[l])]
 obtain⟨p,q,s⟩:=s4 (W:=W) (cs:=cs) ((a.toList.zip Qs).map fun(f,Q)=>(f.offset,P.cellsOf f.type,Q)) 0 (fun i o n Q h=>by
  obtain⟨f,b,g,rfl,rfl⟩:=v i o n Q h;have e:=M i f b;have k:i<xs.length:=by rw[K];exact(gK.1 b).1
  rw[bk k]at e;exact z m (by omega) i f Q b g H enc held _ _ e (mG D i f.type _ (by simp[b]) (by rw[bp,bk k];rfl))) (fun i o n Q h=>by
  obtain⟨f,b,g,rfl,rfl⟩:=v i o n Q h;rw[cr,iQ,w,<-iQ];exact y i f b)
 rw[I]at q;refine⟨p,q,?_⟩;rw[w,r,gq,<-G,List.take_length]at s;exact s
def OI(P:Program)(t:TypeId)(a:Array Field):Bool:=
 (List.range a.size).all (fun i=>match a[i]? with|some f=>f.offset==((a.toList.take i).map fun f=>P.cellsOf f.type).sum|none=>true)&&(a.toList.map fun f=>P.cellsOf f.type).sum==P.cellsOf t
def bD.nx{a:Array Field}{Qs:List (List PV->Prop)}(k:P.underlying t=some (.struct a))(e:Qs.length=a.size)(c:OI P t a=true)
  (j:∀m,m<fuel->∀(i:Nat)f Q,a.toList[i]?=some f->Qs[i]?=some Q->bD P W m f.type Q):bD P W fuel t (vF Qs):=by
 simp only[OI,bU,bf,dG,beq_iff_eq]at c;refine bD.struct k e (fun m g i f Q b d=>j m g i f Q (by simpa using b) d) (fun i f b=>?_) c.2
 have:=c.1 i (gK.1 b).1;rw[b]at this;simpa using this
def trod_array{H:Type}{enc:TypeId×Value->H}{spare:Nat->Bool}{held:Bool}{cs:List Value}{x:DataW H×List MemPlace}{n:Nat}{e:TypeId}(d:P.underlying t=some (.array n e))(h:DataW.trod enc P W 0 spare held fuel t cs=some x):
  ∃(xs:List (DataW H×List MemPlace))(m:Nat),fuel=m+1/\x.1 = .agg (xs.map (·.1))/\cs.length=P.cellsOf t/\∀(i:Nat),i<n->∃y∈xs,DataW.trod enc P W 0 spare held m e ((cs.drop (i*P.cellsOf e)).take (P.cellsOf e))=some y:=by
 cases fuel with
 |zero=>simp[DataW.trod]at h
 |succ m=>
  unfold DataW.trod at h;rw[d]at h;split at h<;>simp_all
  obtain⟨f,xs,a,b⟩:=h;refine⟨xs,by rw[<-b],fun i c=>?_⟩
  have:=mapM_some_get a i i (by simp[c])
  have hlen:=mapM_some_length a;rw[List.length_range]at hlen;rw[bk (by omega)]at this
  exact⟨_,_,gv _,this⟩
def bD.array{n:Nat}{e:TypeId}{Q:List PV->Prop}(q:P.underlying t=some (.array n e))(v:∀m,m<fuel->bD P W m e Q)(w:n*P.cellsOf e=P.cellsOf t):bD P W fuel t (vF (List.replicate n Q)):=by
 intro H enc held cs x r c;obtain⟨xs,m,M,I,E,K⟩:=trod_array q r;have z:∀n∈DataW.weightsAll P e (xs.map (·.1)),n<=reachBytes:=by
  unfold p7 at c;rw[I]at c;unfold DataW.weights at c;rw[q]at c;exact c
 have s:∀(i o k:Nat)(a:List PV->Prop),((List.range n).map fun i=>(i*P.cellsOf e,P.cellsOf e,Q))[i]?=some (o,k,a)->i<n/\o=i*P.cellsOf e/\k=P.cellsOf e/\a=Q:=by
  intro i o k a h;rw[bp]at h;obtain⟨j,f,d⟩:=aX.1 h;simp only[ax]at d;have b:i<n:=by have:=(aE.1 f).1;simpa using this
  rw[lR b]at f;obtain rfl:=au f;exact⟨b,d.1.symm,d.2.1.symm,d.2.2.symm⟩
 have u:(((List.range n).map fun i=>((i*P.cellsOf e,P.cellsOf e,Q):Nat×Nat×(List PV->Prop))).map (·.2.1))=List.replicate n (P.cellsOf e):=by
  rw[dE];apply List.ext_getElem<;>simp
 have G:(((List.range n).map fun i=>((i*P.cellsOf e,P.cellsOf e,Q):Nat×Nat×(List PV->Prop))).map (·.2.2))=List.replicate n Q:=by
  rw[dE];apply List.ext_getElem<;>simp
 obtain⟨p,g,l⟩:=s4 (W:=W) (cs:=cs) ((List.range n).map fun i=>(i*P.cellsOf e,P.cellsOf e,Q)) 0 (fun i o k a h=>by
  obtain⟨b,rfl,rfl,rfl⟩:=s i o k a h;obtain⟨y,J,D⟩:=K i b;exact v m (by omega) H enc held _ _ D (BQ z y.1 (bg.2 ⟨y,J,rfl⟩))) (fun i o k a h=>by
  obtain⟨b,rfl,rfl,rfl⟩:=s i o k a h;rw[cr,iQ,u,List.take_replicate,Nat.min_eq_left (by omega),List.sum_replicate_nat])
 rw[G]at g;refine⟨p,g,?_⟩;rw[u,List.sum_replicate_nat,w,gq,<-E,List.take_length]at l;exact l
def Tt{H:Type}{enc:TypeId×Value->H}{held:Bool}{v:Value}{d:DataW H}{ps:List MemPlace}{Q:List PV->Prop}(h:DataW.Trod enc P W 0 (fun _=>true) held t v d ps)(i:p7 P t d)(f:∀m,bD P W m t Q)(g:v.cells = #[v])(c:∀p,Q p->∃x,p=[x]):
  ∃x,Q [x]/\aL (Wt W) [] W v (.v x):=by
 obtain⟨m,e⟩:=h;obtain⟨p,a,b⟩:=f m H enc held _ _ e i;obtain⟨x,rfl⟩:=c p a;rw[Dd,g]at b;exact⟨x,a,.v (b.2 0 v x rfl rfl)⟩
def KM{H:Type}{enc:TypeId×Value->H}{held:Bool}{X:Array Value}{d:DataW H}{ps:List MemPlace}{Q:List PV->Prop}(h:DataW.Trod enc P W 0 (fun _=>true) held t (.agg X) d ps)(f:p7 P t d)(e:∀m,bD P W m t Q):
  ∃p,Q p/\aL (Wt W) [] W (.agg X) (.agg p):=by
 obtain⟨m,b⟩:=h;obtain⟨p,c,a⟩:=e m H enc held _ _ b f;rw[Dd]at a;exact⟨p,c,.agg a.1 a.2⟩
def okWide_struct{r:Reach}{base:Nat}{v:Value}{a:Array Field}(c:P.underlying t=some (.struct a))(h:Value.okWide P W r base t v):∃X,v = .agg X:=by
 unfold Value.okWide at h;rw[c]at h;obtain⟨X,b,_⟩:=h;exact⟨X,b⟩
def okWide_int{r:Reach}{base:Nat}{v:Value}{k:IntKind}(a:P.underlying t=some (.int k))(h:Value.okWide P W r base t v):v.cells = #[v]:=by
 cases v with
 |agg cs=>exact absurd h (by simp[Value.okWide,Cell.okWide,Cell.ok,a])
 |_=>rfl
def M6{G:Gh}{ad:List (Option Nat)}:lj G ad W [] []:=⟨rfl,fun i v a h=>by simp at h⟩
def s6{G:Gh}{ad:List (Option Nat)}{v:Value}{a:AV}{e:List Value}{l:List AV}(h:aL G ad W v a)(k:lj G ad W e l):lj G ad W (v::e) (a::l):=
 ⟨by simp[k.1],fun i u b d c=>by
  cases i with
  |zero=>simp at d c;subst d;subst c;exact h
  |succ i=>simp at d c;exact k.2 i u b d c⟩
end
end Go.Ac
end
section
namespace Go.Ac.S4
open Go Go.Proofs Go.Proofs.Tryz Go.Ac
set_option maxRecDepth 100000
abbrev By:=List UInt8
abbrev Rw:=List (List PV)
abbrev Cx:=Option (Nat×Nat)
abbrev B(b:Bool):PV:=.bool b
abbrev N(n:Int):PV:=.int .i64 n
abbrev U(n:Int):PV:=.int .u64 n
abbrev W(n:Int):PV:=.int .u32 n
abbrev Y(n:Int):PV:=.int .u8 n
abbrev S(s:By):PV:=.str s
abbrev C(o:Cx):PV:=.ng .f64 o
abbrev L(n:Nat)(r:Rw):PV:=.sl n r
abbrev vB(b:Bool):AV:=.v (.bool b)
abbrev vN(n:Int):AV:=.v (.int .i64 n)
abbrev vU(n:Int):AV:=.v (.int .u64 n)
abbrev vW(n:Int):AV:=.v (.int .u32 n)
abbrev vY(n:Int):AV:=.v (.int .u8 n)
abbrev vS(s:By):AV:=.v (.str s)
abbrev vC(o:Cx):AV:=.v (.ng .f64 o)
abbrev vL(n:Nat)(r:Rw):AV:=.v (.sl n r)
abbrev O(n:Nat)(r:Rw):AV:=.jH n r
def cF(op:BinOp)(k:IntKind)(x y:Int):Int:=(FC op k x y).getD 0
structure bq where
 an:List (Nat×Nat×An):=[]
 mod:List (Nat×Nat×List (Nat×List Nat)):=[]
 cut:List (Nat×Cut):=[]
 rf:Bool:=false
 join:List (Nat×Cut):=[]
def OJ{α:Type}(d:α):List (Nat×Nat×α)->Nat->Nat->α
 |[],_,_=>d
 |(a,b,x)::l,i,j=>match a==i&&b==j with
  |true=>x
  |false=>OJ d l i j
def bq.Wu(A:bq):sA:={an:=OJ {} A.an,mod:=OJ [] A.mod,rf:=A.rf,join:=fun n=>A.join.lookup n}
def bq.Ww(A:bq)(n:Nat):Option Cut:=A.cut.lookup n
abbrev ak:=Go.Ac.ak Tryz.prog
abbrev ma:=Go.Ac.ma Tryz.prog
def mixed:Tryz.prog.follows .mixedOrders=true:=by kernel_rfl
def fuel:Nat:=100000
def wpF(n:Nat)(g:Func)(args:List AV)(heap:List Bx)(A:bq)(r:List AV)(h:List Bx):Prop:=
 ay (g.body.isSome && !(g.name == "runtime.NumGoroutine")) (wp Tryz.prog ak ma g heap.length A.Wu A.Ww r h n [.code (g.body.getD .skip)] (DB g args heap) []) False
def wpK(n:Nat)(g:Func)(a:List Item)(s:St)(base:Nat)(A:bq)(r:List AV)(h:List Bx):Prop:=wp Tryz.prog ak ma g base A.Wu A.Ww r h n a s []
def wpG(n:Nat)(g:Func)(a:List Item)(s:St)(base:Nat)(A:bq)(r:List AV)(h:List Bx):Prop:=wpJ Tryz.prog ak ma g base A.Wu A.Ww r h n a s
def Tu{b:Bool}{x:Prop}(h:ay b x False):b=true/\x:=by
 cases b
 .exact h.elim
 .exact⟨rfl,h⟩
def ak.xl{n:Nat}{f:FuncId}{g:Func}{args:List AV}{heap:List Bx}{r:List AV}{a:List Bx}(b:Tryz.prog.funcs[f]?=some g)(A:bq)(H:wpF n g args heap A r a):ak f args heap r a:=by
 obtain⟨c,d⟩:=Tu H;exact Go.Ac.ak.of_wp mixed b (by unfold ud;rw[b];exact c) d
def ma.xl{n:Nat}{g:Func}{b:List Item}{s:St}{base:Nat}{r:List AV}{a:List Bx}(A:bq)(H:wpK n g b s base A r a):ma g b s base r a:=Go.Ac.ma.of_wp mixed H
def xm.xl{n:Nat}{g:Func}{b:List Item}{s:St}{base:Nat}{r:List AV}{a:List Bx}(A:bq)(H:wpG n g b s base A r a):ma g b s base r a:=Go.Ac.ma.Ws mixed H
def ak.of{f:FuncId}{g:Func}{args:List AV}{heap:List Bx}{r:List AV}{a:List Bx}(b:Tryz.prog.funcs[f]?=some g)(A:bq){Q:Prop}(H:Q)(h:wpF fuel g args heap A r a=Q:=by kernel_rfl):ak f args heap r a:=ak.xl b A (Eq.mpr h H)
def ma.of{g:Func}{b:List Item}{s:St}{base:Nat}{r:List AV}{a:List Bx}(A:bq){Q:Prop}(H:Q)(h:wpK fuel g b s base A r a=Q:=by kernel_rfl):ma g b s base r a:=ma.xl A (Eq.mpr h H)
def xm.of{g:Func}{b:List Item}{s:St}{base:Nat}{r:List AV}{a:List Bx}(A:bq){Q:Prop}(H:Q)(h:wpG fuel g b s base A r a=Q:=by kernel_rfl):ma g b s base r a:=xm.xl A (Eq.mpr h H)
def ae{b:Bool}{x y:Prop}(a:b=true->x)(c:b=false->y):ay b x y:=by cases b;exact c rfl;exact a rfl
def bF{b:Bool}{x y:Prop}(h:b=true)(a:x):ay b x y:=by subst h;exact a
def aW{b:Bool}{x y:Prop}(h:b=false)(a:y):ay b x y:=by subst h;exact a
abbrev Lp(g:Func)(i:Nat):=ma g (Wk g i)
abbrev Rp(g:Func)(i:Nat):=ma g (YE g i)
def aa:An:={spec:=true}
def ah:An:={fz:=true}
def aQ:An:={vec:=true}
def fy:An:={fb:=some [0]}
def fg:An:={fb:=some [1]}
def iG:An:={fb:=some [2]}
def iH:An:={take:=true,fb:=some [0]}
abbrev K1(a b c d e f g i j:Int):Bx:=.cells [vW a,vW b,vU c,vU d,vU e,vU f,vU g,vU i,vU j]
abbrev K4(a b c d e f g i:Int)(j:Rw):Bx:=.cells [vW a,vN b,vN c,vN d,vN e,vN f,vU g,vU i,O 6 j]
abbrev K5(a b c d e f g i j k l m n o p q s t u v w x y z h r D E:Int):Bx:=.cells [vW a,vW b,vW c,vW d,vW e,vW f,vW g,vW i,vW j,vW k,vW l,vW m,vW n,vW o,vW p,vW q,vW s,vW t,vN u,vW v,vW w,vU x,vU y,vU z,vU h,vU r,vU D,vU E]
abbrev K6(a b c d e:Int)(f:Rw):Bx:=.cells [vN a,vN b,vN c,vU d,vU e,O 6 f]
abbrev K7(a:Rw)(b c:Int)(d:Cx)(e f g:Rw)(i j k l:Int)(m:Cx):Bx:=.cells [vL 4 a,vN b,vN c,vC d,O 6 e,O 2 f,vL 1 g,vN i,vN j,vN k,vN l,vC m]
abbrev K8(a:Rw)(b c:Int)(d:Cx)(e f g:Rw)(i j k l:Int)(m:Cx):Bx:=.cells [vL 4 a,vN b,vN c,vC d,vL 6 e,O 2 f,vL 1 g,vN i,vN j,vN k,vN l,vC m]
abbrev K9(a b c d e f g i:Int)(j:Rw):Bx:=.cells [vW a,vN b,vN c,vN d,vN e,vN f,vU g,vU i,vL 6 j]
abbrev K10(a b c d e:Int)(f:Rw):Bx:=.cells [vN a,vN b,vN c,vU d,vU e,vL 6 f]
abbrev s7(l:Rw)(i:Int)(k:By->Int->Rw->Prop):Prop:=∃a b c,0<=i/\l[i.toNat]?=some [S a,W b,L 1 c]/\k a b c
abbrev DW(l:Rw)(i:Int)(k:Int->Int->Int->Int->Int->Int->Int->Int->Rw->Prop):Prop:=∃a b c d e f g j m,0<=i/\l[i.toNat]?=some [W a,N b,N c,N d,N e,N f,U g,U j,L 6 m]/\k a b c d e f g j m
abbrev Rdw(l:Rw)(i:Int)(k:Int->Prop):Prop:=∃a,0<=i/\l[i.toNat]?=some [W a]/\k a
abbrev qP(l:Rw)(i:Int)(k:By->Rw->Int->Int->Int->Prop):Prop:=∃a b c d e,0<=i/\l[i.toNat]?=some [S a,L 1 b,N c,N d,N e]/\k a b c d e
abbrev jV(l:Rw)(i:Int)(k:By->Int->Int->Rw->Prop):Prop:=∃a b c d,0<=i/\l[i.toNat]?=some [S a,N b,N c,L 3 d]/\k a b c d
abbrev rU(l:Rw)(i:Int)(k:By->Rw->Rw->Prop):Prop:=∃a b c,0<=i/\l[i.toNat]?=some [S a,L 1 b,L 5 c]/\k a b c
abbrev Yp(l:Rw)(i:Int)(k:Int->Prop):Prop:=∃a,0<=i/\l[i.toNat]?=some [Y a]/\k a
abbrev DX(l:Rw)(i:Int)(k:Int->Int->Int->Int->Prop):Prop:=∃a b c d,0<=i/\l[i.toNat]?=some [N a,N b,N c,W d]/\k a b c d
abbrev gI(l:Rw)(i:Int)(k:By->Int->By->By->Int->Rw->Prop):Prop:=∃a b c d e f,0<=i/\l[i.toNat]?=some [S a,N b,S c,S d,U e,L 5 f]/\k a b c d e f
abbrev p8(l:Rw)(i:Int)(k:By->Rw->Prop):Prop:=∃a b,0<=i/\l[i.toNat]?=some [S a,L 4 b]/\k a b
abbrev M7(l:Rw)(i:Int)(k:By->Prop):Prop:=∃a,0<=i/\l[i.toNat]?=some [S a]/\k a
abbrev bu(l:Rw)(i:Int)(k:Int->By->By->Int->Rw->Prop):Prop:=∃a b c d e,0<=i/\l[i.toNat]?=some [N a,S b,S c,U d,L 5 e]/\k a b c d e
abbrev OK(l:Rw)(i:Int)(k:By->By->Prop):Prop:=∃a b,0<=i/\l[i.toNat]?=some [S a,S b]/\k a b
abbrev Rdn(l:Rw)(i:Int)(k:Int->Prop):Prop:=∃a,0<=i/\l[i.toNat]?=some [N a]/\k a
abbrev YJ(l:Rw)(i:Int)(k:Int->Rw->Prop):Prop:=∃a b,0<=i/\l[i.toNat]?=some [W a,L 3 b]/\k a b
abbrev cS(l:Rw)(i:Int)(k:Int->By->Int->Cx->Prop):Prop:=∃a b c d,0<=i/\l[i.toNat]?=some [N a,S b,N c,C d]/\k a b c d
abbrev OL(l:Rw)(i:Int)(k:Rw->Prop):Prop:=∃a,0<=i/\l[i.toNat]?=some [L 4 a]/\k a
abbrev qQ(l:Rw)(i:Int)(k:Rw->Int->Int->Prop):Prop:=∃a b c,0<=i/\l[i.toNat]?=some [L 1 a,N b,N c]/\k a b c
abbrev yP(l:Rw)(i:Int)(k:Int->Int->Rw->Int->Int->Prop):Prop:=∃a b c d e,0<=i/\l[i.toNat]?=some [W a,W b,L 3 c,N d,N e]/\k a b c d e
abbrev pa(l:Rw)(i:Int)(k:Int->Int->Int->Int->Int->Prop):Prop:=∃a b c d e,0<=i/\l[i.toNat]?=some [N a,N b,N c,N d,W e]/\k a b c d e
abbrev YK(l:Rw)(i:Int)(k:Int->By->Prop):Prop:=∃a b,0<=i/\l[i.toNat]?=some [N a,S b]/\k a b
abbrev Wx(l:Rw)(i:Int)(k:Int->Int->Int->Int->Prop):Prop:=∃a b c d,0<=i/\l[i.toNat]?=some [N a,N b,U c,U d]/\k a b c d
abbrev vG(l:Rw)(i:Int)(k:Rw->Prop):Prop:=∃a,0<=i/\l[i.toNat]?=some [L 5 a]/\k a
abbrev Tv(l:Rw)(i:Int)(k:By->By->Int->Int->Int->Prop):Prop:=∃a b c d e,0<=i/\l[i.toNat]?=some [S a,S b,N c,N d,N e]/\k a b c d e
abbrev rV(l:Rw)(i:Int)(k:Int->Int->Int->Int->Int->Rw->Prop):Prop:=∃a b c d e f,0<=i/\l[i.toNat]?=some [N a,N b,N c,U d,U e,L 6 f]/\k a b c d e f
abbrev ny(l:Rw)(i:Int)(k:Int->Int->Bool->Int->Int->Prop):Prop:=∃a b c d e,0<=i/\l[i.toNat]?=some [N a,N b,B c,W d,W e]/\k a b c d e
abbrev abH(l:Rw)(i:Int)(k:Bool->Bool->Prop):Prop:=∃a b,l[i.toNat]?=some [B a,B b]/\k a b
abbrev OM(l:Rw)(i:Int)(k:Int->Int->Rw->Int->Int->Prop):Prop:=∃a b c d e,l[i.toNat]?=some [W a,W b,L 3 c,N d,N e]/\k a b c d e
def fi{r:List AV}{h:List Bx}:Fi r h r h:=⟨rfl,rfl⟩
def ai{r b:List AV}{h a:List Bx}(c:b=r)(d:a=h):Fi r h b a:=⟨c,d⟩
def aB{n:Int}(a : -9223372036854775808<=n:=by omega)(b:n<=9223372036854775807:=by omega):bh .i64 n:=⟨a,b⟩
@[simp] theorem toNat_cast(n:Nat):Int.toNat (n:Int)=n:=rfl
def drop_cons{α:Type}{l:List α}{i:Nat}{x:α}{t:List α}(h:l.drop i=x::t):l[i]?=some x/\l.drop (i+1)=t/\i<l.length:=by
 have a:l[i]?=some x:=by rw[<-List.head?_drop,h];rfl
 refine⟨a,?_,(aE.1 a).1⟩;rw[<-fj,h];rfl
def drop_nil{α:Type}{l:List α}{i:Nat}(h:l.drop i=[]):l.length<=i:=List.drop_eq_nil_iff.1 h
def eA{α:Type}{l:List α}{i:Nat}{n:Int}{x y:Prop}(b:n=l.length)(c:∀a,l[i]?=some a->x)(d:l[i]?=none->y):ay (decide ((i:Int)<n)) x y:=by
 subst b;rcases bR i l.length with h|h
 .exact bF (bI (by omega)) (c _ (bk h))
 .exact aW (cf (by omega)) (d (ee h))
def aO{α:Type}{l:List α}{i:Nat}{n:Int}{x y:Prop}{a:α}{t:List α}(c:n=l.length)(h:l.drop i=a::t)(b:x):ay (decide ((i:Int)<n)) x y:=
 bF (bI (by have:=(drop_cons h).2.2;omega)) b
def aT{α:Type}{l:List α}{i:Nat}{n:Int}{x y:Prop}(b:n=l.length)(h:l.drop i=[])(a:y):ay (decide ((i:Int)<n)) x y:=
 aW (cf (by have:=drop_nil h;omega)) a
def idx{α:Type}(p:α->Bool):List α->Int
 |[]=> -1
 |x::l=>bif p x then 0 else bif decide (idx p l<0)then -1 else idx p l+1
def yQ{α:Type}(p:α->Bool):∀l,-1<=idx p l
 |[]=>by simp[idx]
 |x::l=>by
  have:=yQ p l;unfold idx;cases p x<;>simp only[aj,af]<;>try omega
  cases h:decide (idx p l<0)<;>simp only[aj,af]<;>omega
def nz{α:Type}(p:α->Bool):∀l,decide (idx p l>=0)=l.any p
 |[]=>rfl
 |x::l=>by
  have a:=nz p l;have:=yQ p l;unfold idx;rw[iP,<-a];cases p x<;>simp only[aj,af,Bool.true_or,mj]
  .cases h:decide (idx p l<0)<;>simp only[aj,af]
   .have:=bH h
    rw[bI (by omega),bI (by omega)]
   .have:=aN h
    rw[cf (by omega),cf (by omega)]
  .rfl
def uD{α:Type}{p:α->Bool}:∀{l:List α},0<=idx p l->∃x,l[(idx p l).toNat]?=some x/\p x=true/\l.find? p=some x
 |[],h=>by simp[idx]at h
 |x::l,h=>by
  unfold idx at h⊢;cases hp:p x<;>simp only[hp,aj,af]at h⊢
  .cases h2:decide (idx p l<0)<;>simp only[h2,aj,af]at h⊢
   .have d:=bH h2
    obtain⟨y,a,b,c⟩:=uD (p:=p) (l:=l) (by omega)
    refine⟨y,?_,b,by rw[cx,hp];exact c⟩
    have:(idx p l+1).toNat=(idx p l).toNat+1:=by omega
    rw[this];simpa using a
   .omega
  .exact⟨x,by simp,hp,by rw[cx,hp]⟩
def yR{α:Type}{p:α->Bool}:∀{l:List α},idx p l<0->l.find? p=none
 |[],h=>rfl
 |x::l,h=>by
  unfold idx at h;cases hp:p x<;>simp only[hp,aj,af]at h
  .cases h2:decide (idx p l<0)<;>simp only[h2,aj,af]at h
   .have:=bH h2;omega
   .rw[cx,hp];exact yR (aN h2)
  .omega
def ew{fn:Func}{d:List Item}{base:Nat}{Hd:Int->St}{a:List Bx}{α:Type}{p:α->Bool}{l:List α}(o:l.length<=2^40)
  (step:∀(i:Nat)(r:List AV)(h:List Bx),(∀x,l[i]?=some x->ay (p x) (Fi r h [vN i] a) (bh .i64 ((i:Int)+1)/\ma fn d (Hd ((i:Int)+1)) base r h))->(l[i]?=none->Fi r h [vN (-1)] a)->ma fn d (Hd i) base r h):
  ma fn d (Hd 0) base [vN (idx p l)] a:=by
 have key:∀(t:List α)(i:Nat),l.drop i=t->ma fn d (Hd i) base [vN (bif decide (idx p t<0)then -1 else i+idx p t)] a:=by
  intro t;induction t with
  |nil=>
   intro i f;have:=drop_nil f;exact step i _ _ (fun x c=>by rw[ee this]at c;simp at c) fun _=>fi
  |cons y t n=>
   intro i f;obtain⟨j,b,m⟩:=drop_cons f;have lb:=yQ p t;refine step i _ _ (fun x c=>?_) fun k=>by rw[j]at k;simp at k
   rw[j]at c;obtain rfl:=au c;unfold idx;refine ae (fun a=>?_) fun a=>⟨aB,?_⟩
   .rw[a]
    exact ai (by simp) rfl
   .rw[a]
    have:=n (i+1) b;have e:(bif decide (idx p t<0)then(-1:Int)else((i+1:Nat):Int)+idx p t)=bif decide ((bif false then(0:Int)else bif decide (idx p t<0)then -1 else idx p t+1)<0)then -1 else(i:Int)+(bif false then(0:Int)else bif decide (idx p t<0)then -1 else idx p t+1):=by
     cases b:decide (idx p t<0)with
     |true=>simp
     |false=>
      have m:=bH b;simp only[af];rw[show decide (idx p t+1<0)=false from cf (by omega)]
      simp only[af];omega
    rw[e]at this;exact this
 have g:=key l 0 rfl;have lb:=yQ p l;have e:(bif decide (idx p l<0)then(-1:Int)else((0:Nat):Int)+idx p l)=idx p l:=by
  cases b:decide (idx p l<0)with
  |true=>have:=aN b;simp;omega
  |false=>simp
 rw[e]at g;exact g
def aY{α:Type}{f:α->List PV}{l:List α}{i:Nat}{x:α}(h:l[i]?=some x):(l.map f)[Int.toNat (i:Int)]?=some (f x):=by simp[h]
structure Tok where
 kind:Int
 text:By
 file:Int
 spot:Cx
def Tok.row(t:Tok):List PV:=[N t.kind,S t.text,N t.file,C t.spot]
structure Act where
 kind:Int
 data:Int
 deriving DecidableEq,Inhabited
inductive Ex where
 |mk (kind:Int) (op name:By) (num:Int) (kids:List Ex)
mutual
def Ex.row:Ex->List PV
 |.mk k o m n l=>[N k,S o,S m,U n,L 5 (bw l)]
def bw:List Ex->Rw
 |[]=>[]
 |e::l=>e.row::bw l
end
def db:∀(l:List Ex),bw l=l.map Ex.row
 |[]=>rfl
 |e::l=>by rw[bw,db l];rfl
def Ex.kind:Ex->Int|.mk k _ _ _ _=>k
def Ex.op:Ex->By|.mk _ o _ _ _=>o
def Ex.name:Ex->By|.mk _ _ m _ _=>m
def Ex.num:Ex->Int|.mk _ _ _ n _=>n
def Ex.kids:Ex->List Ex|.mk _ _ _ _ l=>l
def Ex.cD(e:Ex):e.row=[N e.kind,S e.op,S e.name,U e.num,L 5 (bw e.kids)]:=by cases e;rfl
def Gq(s:By):List PV:=[S s]
def aR(l:List By):Rw:=l.map Gq
structure gC where
 call:By
 params:List By
 cond:List Ex
def gC.row(r:gC):List PV:=[S r.call,L 1 (aR r.params),L 5 (r.cond.map Ex.row)]
structure dr where
 use:By
 act:Act
 bj:List gC
def dr.row(p:dr):List PV:=[S p.use,N p.act.kind,N p.act.data,L 3 (p.bj.map gC.row)]
structure dP where
 name:By
 aV:List dr
def dP.row(p:dP):List PV:=[S p.name,L 4 (p.aV.map dr.row)]
structure dT where
 name:By
 ex:Ex
def dT.row(d:dT):List PV:=S d.name::d.ex.row
structure eW where
 aG:List dT
 aD:List dP
 main:List By
 bZ:Act
def oy(G:Gh)(w:World)(g m:Nat)(own:Bool):Gh:=⟨fun b=>if b<w.heap.size then G.bQ b else if b=g then m else 0,
 fun x=>match x with|.tok 0=>bif own then some g else none|.tok _=>none|x=>G.h x,G.val,G.bz⟩
def yS{P:Program}{e:Nat->Nat}{O:Nat->Prop}{G:Gh}{heap:List Bx}{d w w':World}(a:Inv P d e O G heap w)(c:RowKit.Below w.heap.size w w')(g m:Nat)(own:Bool):Grow G.bQ w (oy G w g m own).bQ w':=by
 refine⟨fun b=>?_,fun b o h=>?_⟩
 .rcases bR b w.heap.size with h|h
  .simp[oy,h]
  .rw[a.frame.wI b h];exact dD _
 .exact World.cell?_of_block (w:=w) (c.block b (a.IM h))
def pd{P:Program}{v:Nat->Nat}{O:Nat->Prop}{G:Gh}{heap:List Bx}{s w w':World}(a:Inv P s v O G heap w)(c:RowKit.Below w.heap.size w w'){g m:Nat}{own:Bool}(q:w.heap.size<=g/\(g<w'.heap.size\/(m=0/\own=false))):
  Inv P s v O (oy G w g m own) heap w':=by
 have p:=yS a c g m own;have k:cb G [] w (oy G w g m own) [] w':=⟨p,fun _ h=>h,fun _ _=>rfl,ar _,fun t n h _=>by simp at h⟩
 have E:∀x n b,Hd.on b x->G.h x=some n->(oy G w g m own).h x=some n/\(oy G w g m own).bQ n=G.bQ n/\w'.heap[n]?=w.heap[n]?:=fun x n b d l=>by
  have u:=(a.nf x n l).1;refine⟨?_,by simp[oy,u],c.block n u⟩
  cases x with
  |tok t=>simp[Hd.on]at d
  |_=>exact l
 refine⟨⟨?_,c.os.trans a.frame.os,c.tape.trans a.frame.tape,c.output.trans a.frame.output,fun b i f=>?_,a.frame.grow.trans p,fun b h=>?_,a.frame.laid⟩,a.nb,fun b bx h=>?_,fun x y n i f=>?_,fun x n h=>?_,fun b n i f=>?_⟩
 .have:=a.frame.size;have:=c.size;omega
 .have:=a.frame.size
  obtain⟨o,j⟩:=a.frame.DC b i f;exact⟨(c.block b (by omega)).trans o,by rw[<-j];simp[oy,show b<w.heap.size by omega]⟩
 .have:=c.size
  show(if b<w.heap.size then G.bQ b else if b=g then m else 0)=0
  rw[aI (by omega)]
  split
  .rcases q.2 with e|e
   .omega
   .exact e.1
  .rfl
 .exact(a.box b bx h).bA k (fun D=>by subst D;exact a.box b _ h) fun x n d l=>E x n b d l
 .have key:∀x,(oy G w g m own).h x=some n->(x = .tok 0/\n=g)\/(G.h x=some n/\n<w.heap.size):=fun x d=>by
   cases x with
   |tok t=>
    cases t with
    |zero=>cases own<;>simp[oy]at d;exact .inl ⟨rfl,d.symm⟩
    |succ t=>simp[oy]at d
   |_=>exact .inr ⟨d,(a.nf _ _ d).1⟩
  rcases key x i with⟨rfl,o⟩|⟨z,I⟩<;>rcases key y f with⟨rfl,j⟩|⟨r,J⟩
  .rfl
  .omega
  .omega
  .exact a.inj _ _ _ z r
 .have H:=c.size
  have:=a.frame.size;cases x with
  |tok t=>
   cases t with
   |zero=>
    cases ho:own<;>simp[oy,ho]at h
    subst h;rcases q.2 with e|e
    .exact⟨e,fun f=>by omega⟩
    .rw[ho]at e;simp at e
   |succ t=>simp[oy]at h
  |_=>obtain⟨o,j⟩:=a.nf _ _ h;exact⟨by omega,j⟩
 .exact a.dead b n i f
def xQ{P:Program}{E:Nat->Nat}{O:Nat->Prop}{G:Gh}{heap:List Bx}{x w w':World}(f:Inv P x E O G heap w)(d:RowKit.Below w.heap.size w w'){e:TypeId}{n len:Nat}{v:Value}{xs:List Value}(K:w'.ownsRow w.heap.size e n v len xs)
  {al:List (List PV)}(s:al.length=len)(J:∀r∈al,r.length=n)(t:∀i j p,jI al i j=some p->∃u,xs[i*n+j]?=some u/\bW G.bQ w u p):
  ∃a,Inv P x E O a heap w'/\Grow G.bQ w a.bQ w'/\aL a [some 0] w' v (.own 0 0 n al)/\∀b,G.bz b->a.bz b/\a.val b=G.val b:=by
 obtain⟨z,⟨rfl,rfl⟩|⟨g,cap,y,rfl,I,l,Q,Z,T,X⟩⟩:=K
 .obtain rfl:al=[]:=gS.1 s
  exact⟨oy G w w'.heap.size 0 false,pd f d ⟨d.size,.inr ⟨rfl,rfl⟩⟩,yS f d _ _ _,.own (by simp) (fun m _=>dD m) (.mw n) (fun _ h=>absurd h (Nat.lt_irrefl 0)),fun b h=>⟨h,rfl⟩⟩
 .have M:g<w'.heap.size:=by
   rcases bR g w'.heap.size with h|h
   .exact h
   .rw[rN h]at l;simp at l
  have o:=yS f d g (len*n) true;have D:(oy G w g (len*n) true).bQ g=len*n:=by
   show(if g<w.heap.size then G.bQ g else if g=g then len*n else 0)=len*n
   rw[aI (by omega),aF rfl]
  have Y:∀k u,xs[k]?=some u->w'.cell? ⟨g,0+k,none⟩=some u:=fun k u h=>by
   have q:k<len*n:=by rw[<-z];exact(aE.1 h).1
   have:y[k]?=some u:=by
    rw[<-X,eS]at h;rw[aF q]at h;rw[<-gR];exact h
   rw[cr];simp only[World.cell?,l];simpa using this
  refine⟨oy G w g (len*n) true,pd f d ⟨I,.inl M⟩,o,?_,fun b h=>⟨h,rfl⟩⟩
  refine .own (by simp) (fun m _=>dD m) ?_ fun _ _=>⟨g,0,y,e,rfl,rfl,by rw[D];omega,l,by rw[T];omega⟩
  refine .sl g 0 len cap n al (fun i j=>(xs[i*n+j]?).getD undef) s Q J (fun i j p h=>?_) fun i j p h=>?_
  .obtain⟨u,c,-⟩:=t i j p h
   have q:i*n+j<len*n:=by rw[<-z];exact(aE.1 c).1
   refine⟨?_,by rw[D];omega⟩
   have:=Y _ u c;rw[c];simp only[mq];rw[gp];exact this
  .obtain⟨u,c,H⟩:=t i j p h
   simp only[c,mq];exact H.grow o
def KN{G:Gh}{ad:List (Option Nat)}{w:World}{b:List Value}{a:AV}(h:lj G ad w b [a]):∃v,b=[v]/\aL G ad w v a:=by
 obtain⟨c,d⟩:=h;match b,c with
 |[v],_=>exact⟨v,rfl,d 0 v a rfl rfl⟩
def KO{G:Gh}{ad:List (Option Nat)}{w:World}{c:List Value}{a b:AV}(h:lj G ad w c [a,b]):∃v u,c=[v,u]/\aL G ad w v a/\aL G ad w u b:=by
 obtain⟨e,d⟩:=h;match c,e with
 |[v,u],_=>exact⟨v,u,rfl,d 0 v a rfl rfl,d 1 u b rfl rfl⟩
def YL{G:Gh}{ad:List (Option Nat)}{w:World}{e:List Value}{a b c:AV}(h:lj G ad w e [a,b,c]):∃v u x,e=[v,u,x]/\aL G ad w v a/\aL G ad w u b/\aL G ad w x c:=by
 obtain⟨f,d⟩:=h;match e,f with
 |[v,u,x],_=>exact⟨v,u,x,rfl,d 0 v a rfl rfl,d 1 u b rfl rfl,d 2 x c rfl rfl⟩
def KP{G:Gh}{ad:List (Option Nat)}{w:World}{v:Value}{s:By}(h:aL G ad w v (vS s)):v = .string ⟨s.toArray⟩:=by
 cases h with
 |v h=>
  generalize a:S s=p at h;cases h with
  |str b=>simp only[S,PV.str.injEq]at a;subst a;simp
  |_=>simp[S]at a
def KQ{G:Gh}{ad:List (Option Nat)}{w:World}{v:Value}{k:IntKind}{n:Int}(h:aL G ad w v (.v (.int k n))):v = .int k n:=by
 cases h with
 |v h=>cases h;rfl
def dO{G:Gh}{w:World}{ad:List (Option Nat)}{v:Value}{a:AV}(h:aL G ad w v a):lj G ad w [v] [a]:=⟨rfl,fun i d a' b c=>by
 match i with
 |0=>simp at b c;subst b;subst c;exact h
 |i+1=>simp at b⟩
def ON{G:Gh}{w:World}{ad:List (Option Nat)}{v u:Value}{a b:AV}(h:aL G ad w v a)(e:aL G ad w u b):lj G ad w [v,u] [a,b]:=⟨rfl,fun i f a' c d=>by
 match i with
 |0=>simp at c d;subst c;subst d;exact h
 |1=>simp at c d;subst c;subst d;exact e
 |i+2=>simp at c⟩
abbrev Yq(k:FuncId):Prop:=∀a w,(callFunc k a).run Tryz.prog w = .ok (.enter k a) w
def ek{k:FuncId}(b:Yq k){a:Array Value}{w:World}{Q:Ending->World->Prop}{K:Value->World->Prop}(h:Calls Tryz.prog k a w Q)(c:∀e w',Q e w'->∃v,e = .returned v/\K v w'):dj Tryz.prog (callFunc k a) w K:=
 .FX (b a w) (h.mono c)
def ev1{k:FuncId}(s:Yq k){a:PV}{r:List PV}(H:∀v w(g:Nat->Nat),Laid g w->bW g w v a->∃d:List Value,d.length=r.length/\(∀(i:Nat)u p,d[i]?=some u->r[i]?=some p->bW g w u p)/\Calls Tryz.prog k #[v] w fun e w'=>e = .returned (ur d)/\w'=w):
  ak k [.v a] [] (r.map .v) []:=⟨fun w j O z l x=>by
 obtain⟨v,rfl,f⟩:=KN x;cases f with
 |v f=>
  obtain⟨d,m,n,o⟩:=H v w j.bQ l.frame.Bq f;refine ek s o ?_;rintro e w' ⟨rfl,rfl⟩;exact⟨_,rfl,j,d,l,⟨by simp[m],fun i u a y c=>by
   obtain⟨p,t,rfl⟩:∃p,r[i]?=some p/\a = .v p:=by
    rw[bp]at c;cases hq:r[i]? with
    |none=>rw[hq]at c;simp at c
    |some p=>rw[hq]at c;exact⟨p,rfl,by simpa using c.symm⟩
   exact .v (n i u p y t)⟩,rfl,fun b q=>⟨q,rfl⟩⟩⟩
def Wy{k:FuncId}(t:Yq k){a b:PV}{r:List PV}(H:∀v u w(g:Nat->Nat),Laid g w->bW g w v a->bW g w u b->∃f:List Value,f.length=r.length/\(∀(i:Nat)u p,f[i]?=some u->r[i]?=some p->bW g w u p)/\Calls Tryz.prog k #[v,u] w fun e w'=>e = .returned (ur f)/\w'=w):
  ak k [.v a,.v b] [] (r.map .v) []:=⟨fun w l O z m y=>by
 obtain⟨v,u,rfl,j,d⟩:=KO y;cases j with
 |v j=>
 cases d with
 |v d=>
  obtain⟨f,n,o,q⟩:=H v u w l.bQ m.frame.Bq j d;refine ek t q ?_;rintro e w' ⟨rfl,rfl⟩;exact⟨_,rfl,l,f,m,⟨by simp[n],fun i u a d c=>by
   obtain⟨p,x,rfl⟩:∃p,r[i]?=some p/\a = .v p:=by
    rw[bp]at c;cases hq:r[i]? with
    |none=>rw[hq]at c;simp at c
    |some p=>rw[hq]at c;exact⟨p,rfl,by simpa using c.symm⟩
   exact .v (o i u p d x)⟩,rfl,fun b s=>⟨s,rfl⟩⟩⟩
def lG{c:Nat->Nat}{w:World}{v:Value}{s:By}(h:bW c w v (S s)):v = .string ⟨s.toArray⟩:=by
 generalize a:S s=p at h;cases h with
 |str b=>simp only[S,PV.str.injEq]at a;subst a;simp
 |_=>simp[S]at a
def vH{a:Nat->Nat}{w:World}{v:Value}{k:IntKind}{n:Int}(h:bW a w v (.int k n)):v = .int k n:=by cases h;rfl
def Jj{a:Nat->Nat}{w:World}(s:By):bW a w (.string ⟨s.toArray⟩) (S s):=.str ⟨s.toArray⟩
def rW{c:Nat->Nat}{w:World}{v:Value}{p:PV}(h:bW c w v p):∀(i:Nat)u q,[v][i]?=some u->[p][i]?=some q->bW c w u q:=fun i u q a b=>by
 match i with
 |0=>simp at a b;subst a;subst b;exact h
 |i+1=>simp at a
def KR{c:Nat->Nat}{w:World}{v e:Value}{p d:PV}(h:bW c w v p)(f:bW c w e d):∀(i:Nat)u q,[v,e][i]?=some u->[p,d][i]?=some q->bW c w u q:=fun i u q a b=>by
 match i with
 |0=>simp at a b;subst a;subst b;exact h
 |1=>simp at a b;subst a;subst b;exact f
 |i+2=>simp at a
section
open Go.RowKit Go.Maps
abbrev jW:Int->Value:=Value.int .u32
abbrev FW:Fence:=Fence.wide
def u29:Tryz.prog.underlying 29=some (.int .u32):=Tryz.underlying29
def KS{key:Value}{kl:Lit}(h:keyOf Tryz.prog 29 key=some kl):∃x:Int,key=jW x/\kl = .int .u32 x:=by
 cases key<;>simp[keyOf,u29,mapKey]at h
 rename_i q a;obtain⟨⟨rfl,_⟩,rfl⟩:=h;exact⟨a,rfl,rfl⟩
def DY(ks:List Int)(left:Lit->Bool)(ss:List Int):Prop:=ss.Nodup/\∀x,x∈ss<->(x∈ks/\left (.int .u32 x)=false)
structure rZ (D0:DataW Unit) (ks:List Int):Prop where
 has:∀x,Maps.has D0 (.int .u32 x)=true<->x∈ks
 nd:ks.Nodup
 sz:Maps.size D0=ks.length
def DY.start{D0:DataW Unit}{ks:List Int}(h:rZ D0 ks):DY ks (Maps.has D0) []:=
 ⟨List.nodup_nil,fun x=>⟨fun hx=>by simp at hx,fun⟨h1,h2⟩=>by rw[(h.has x).2 h1]at h2;simp at h2⟩⟩
def DY.step{D0:DataW Unit}{ks:List Int}(hk:rZ D0 ks){left:Lit->Bool}{ss:List Int}(h:DY ks left ss){x:Int}{y:DataW Unit}(hlk:left (.int .u32 x)=true)(hat:∀zd,D0.atKey (.int .u32 x) zd=y):
  DY ks (fun z=>left z && !z.sameKey (.int .u32 x)) (ss++[x]):=by
 have abK:x∈ks:=(hk.has x).1 (has_true_of_atKey hat);have abM:x∉ss:=fun hx=>by have:=((h.2 x).1 hx).2;rw[hlk]at this;cases this
 refine⟨tQ.2 ⟨h.1,by simp,fun a ha b hb=>by simp at hb;subst hb;exact fun e=>abM (e▸ha)⟩,fun y=>?_⟩
 by_cases hy:y=x
 .subst hy;simp[abK,Lit.sameKey]
 .simp[h.2 y,hy,Lit.sameKey]
def DY.perm{D0:DataW Unit}{ks:List Int}(hk:rZ D0 ks){left:Lit->Bool}{ss:List Int}(h:DY ks left ss)(hl:∀kl,left kl=false):ss.Perm ks:=
 (List.perm_ext_iff_of_nodup h.1 hk.nd).2 fun x=>by rw[h.2 x,hl];simp
set_option maxHeartbeats 1000000 in
theorem Tw(n:Nat)(hn:1<=n)(l Bm b nn:Nat)(D0:DataW Unit){ks:List Int}(Yr:rZ D0 ks){R:Value->Option (DataW Unit×List MemPlace)}(J:List Int->World->Prop)
  (hY:∀pre x W,J pre W->pre.length<ks.length->YieldAt FW (n-1) Tryz.prog l #[jW x] W fun e W'=>e = .returned (.bool true)/\J (pre++[x]) W'/\KeepsWalks W W')
  (W:World)(hJ:AbidesFrom W.heap.size J)(hm:W.cell? ⟨Bm,0,none⟩=some (.map (some b)))(Tx:W.ownsMap Tryz.prog 29 R b nn D0)(h0:J [] W):
  CallsIn FW n Tryz.prog 165 #[.func (.yield l) #[] #[],.pointer (some ⟨Bm,0,none⟩)] W fun e W'=>(∃v,e = .returned v)/\∃ss:List Int,ss.Perm ks/\J ss W':=by
 have mixed:=mixed;have t0:=Tryz.underlying0;have a0:=Tryz.isAgg0;have z0:=Tryz.sizeOf0;have v0:=Tryz.zeroValue0;have t4:=Tryz.underlying4;have a4:=Tryz.isAgg4;have z4:=Tryz.sizeOf4;have v4:=Tryz.zeroValue4;have t23:=Tryz.underlying209;have a23:=Tryz.isAgg209;have z23:=Tryz.sizeOf209;have v23:=Tryz.zeroValue209;have t26:=Tryz.underlying29;have a26:=Tryz.isAgg29;have z26:=Tryz.sizeOf29;have v26:=Tryz.zeroValue29;have t33:=Tryz.underlying297;have a33:=Tryz.isAgg297;have z33:=Tryz.sizeOf297;have v33:=Tryz.zeroValue297;have u0:=run_underlying t0;have u4:=run_underlying t4;have u23:=run_underlying t23;have u26:=run_underlying t26;have u33:=run_underlying t33;refine callsIn_of_wp func165 rfl trivial ?_ rfl;simp only[show f165.ntmps=14 from rfl,rJ,aC,cO,Nat.reduceAdd,Nat.reduceSub,xD,xC,tP,xx,ea,di]
 gi_wp2_with (first
  |(gi_at_range;refine wpListIn_range_own _ rfl _ 209 rfl 29 213 (int_keyed u29) t23 _ b nn _ rfl Tx ?_;intro w0 abO hg0 hs0)
  |gi_in)
 go_frame
 gi_loopw [3] (fun _ wr=>∃(left:Lit->Bool)(cnt:Nat)(ss:List Int),wr.ranges Tryz.prog 29 R b W.heap.size nn D0 left cnt/\ss.length+cnt<=Maps.size D0/\DY ks left ss/\J ss wr)
  (fun _ wr=>wr.rangeLeft b W.heap.size)
 case atStart=>
  exact⟨_,_,[],abO,by simp,DY.start Yr,hJ [] W w0 none h0 hg0 (fun r e=>by cases e)⟩
 case round=>
  obtain⟨left,cnt,ss,hrg,hcs,hC,hJs⟩:=hrel;gi_wp2_with (first
   |(gi_at_next;refine wpListIn_next_ranges _ rfl _ rfl 29 (int_keyed u29) R jW id (fun key kl hk=>by obtain⟨x,hx,_⟩:=KS hk;exact⟨x,hx⟩) (fun v _ _=>⟨v,rfl⟩) b W.heap.size nn _ _ _ rfl hrg ?_ ?_)
   |gi_in)
  .intro hc0 hl0
   gi_wp2
   go_end0
   exact⟨⟨_,rfl⟩,ss,hC.perm Yr hl0,hJs⟩
  .intro x c kl yd yp w2 abT abU hlk hv hat abV hlt hg2 hs2 hen
   obtain⟨x',ex,rfl⟩:=KS abU;obtain rfl:x=x':=by simpa[jW]using ex
   have hJ2:J ss w2:=hJ ss wr w2 (some W.heap.size) hJs hg2 (fun r e=>by cases e;exact⟨ar _,hrg.iter_walk⟩)
   obtain⟨fn,tmps,assign,body,hy,hR⟩:=hY ss x w2 hJ2 (by have:=Yr.sz;omega)
   clear hs2;gi_wp2
   refine hR.mono ?_;rintro e W3 ⟨rfl,hJ3,hk3⟩;gi_wp2
   have YM:=abV.of_walks hk3;go_roundw
   case rel=>exact⟨_,abT,ss++[x],YM,by simp;omega,hC.step Yr hlk hat,hJ3⟩
   case measure=>rw[YM.left_eq,hrg.left_eq];exact hlt
def Ba(n:Nat)(hn:1<=n)(Bm b nn:Nat)(D0:DataW Unit){ks:List Int}(Yr:rZ D0 ks){R:Value->Option (DataW Unit×List MemPlace)}(w:World)(hBm:Bm<w.heap.size)
  (hm:w.cell? ⟨Bm,0,none⟩=some (.map (some b)))(Tx:w.ownsMap Tryz.prog 29 R b nn D0):
  SeqGives FW n Tryz.prog 165 #[.pointer (some ⟨Bm,0,none⟩)] jW (fun ss=>ss.Perm ks) ks.length w:=fun l J W hW hJ hY h0=>by
 have Gr:W.ownsMap Tryz.prog 29 R b nn D0:=by
  have YN:=Tx.lt;obtain⟨es,clock,hb,Ft,hs,hD⟩:=Tx;exact⟨es,clock,(hW.block b YN).trans hb,Ft,hs,hD⟩
 exact Tw n hn l Bm b nn D0 Yr J hY W hJ ((hW.cell (p:=⟨Bm,0,none⟩) hBm).trans hm) Gr h0
end
section
open Go.RowKit Go.Maps
def apAssign:Code:=(Code.region 2 #[{dst:=some 5,op:=Op.assign (Operand.tmp 7),type:=29,pos := "iter.go:51",after := #[],guard:=none}] false)
def apBody:Code:=(Code.block 1 (Code.region 3 #[{dst:=some 8,op:=Op.load 60 (Operand.tmp 2),type:=60,pos := "iter.go:52",after := #[],guard:=none},{dst:=some 9,op:=Op.move (Operand.tmp 5),type:=29,pos := "iter.go:52",after := #[],guard:=none},{dst:=some 10,op:=Op.buildSlice 60 1 #[(0,Operand.tmp 9)],type:=60,pos := "iter.go:52",after := #[{on:=1,ground:=Ground.data}],guard:=none},{dst:=some 11,op:=Op.call {callee:=Callee.builtin Builtin.append,args := #[Operand.tmp 8,Operand.tmp 10],argTypes := #[60,60]},type:=60,pos := "iter.go:52",after := #[{on:=0,ground:=Ground.data},{on:=2,ground:=Ground.data}],guard:=none},{dst:=none,op:=Op.store 60 (Operand.tmp 2) (Operand.tmp 11),type:=0,pos := "iter.go:52",after := #[{on:=3,ground:=Ground.data},{on:=3,ground:=Ground.chain},{on:=0,ground:=Ground.phase},{on:=1,ground:=Ground.phase},{on:=2,ground:=Ground.phase},{on:=3,ground:=Ground.phase}],guard:=none}] false))
def apRec(fn:FuncId)(sv:Value)(Bs D:Nat)(st:LoopState)(vI:Option Code):Loop:=
 {state:=st,pending:=vI,fn,tmps := #[.slice none 0 0,sv,.pointer (some ⟨Bs,0,none⟩),undef,.slice none 0 0,undef,sv,undef,undef,undef,undef,undef,undef],params := #[7],assign:=apAssign,body:=apBody,defers:=D}
structure ApAt (w0:World) (fn:FuncId) (sv:Value) (Bs l D:Nat) (ss:List Int) (W:World):Prop where
 box:∃v,W.heap[Bs]?=some (.cells #[v] 60 (0,0))/\W.ownsRow w0.heap.size 29 1 v ss.length (ss.map jW)/\(v = .slice none 0 0<->ss=[])
 L:W.heap[l]?=some (.loop (apRec fn sv Bs D .ready none))
 K:W.heap[D]?=some (.deferred (some []))
 below:Below w0.heap.size w0 W
def ap_abides(w0:World)(fn:FuncId)(sv:Value)(Bs l D B:Nat)(hB:w0.heap.size<=B):AbidesFrom B (ApAt w0 fn sv Bs l D):=fun s W W' row h hg xn=>by
 have KU:∀r,row=some r->∃o:Obj,W.heap[r]?=some o/\o.isWalk=true:=fun r e=>(xn r e).2
 obtain⟨v,hv,hr,hn⟩:=h.box;exact⟨⟨v,(grownBy_keeps hg KU hv rfl).trans hv,ownsRow_abides_a hr hg KU,hn⟩,(grownBy_keeps hg KU h.L rfl).trans h.L,(grownBy_keeps hg KU h.K rfl).trans h.K,
  h.below.grown hg h.below.size (fun k e=>dF hB (xn k e).1)⟩
def i29:(Tryz.prog.info? 29).map (fun i=>(i.zero,i.size,i.bytes))=some (some (.int .u32 0),1,4):=by kernel_rfl
set_option maxHeartbeats 2000000 in
theorem apYield(m:Nat)(w0:World)(fn:FuncId)(sv:Value)(Bs l D:Nat)(hBl:Bs≠l)(hDl:D≠l)(hDB:D≠Bs)(h0B:w0.heap.size<=Bs)(h0l:w0.heap.size<=l)
  (N:Nat)(hN:N<=maxLen)(hNb:N*4<=140737488355328)(ss:List Int)(x:Int)(W:World)(h:ApAt w0 fn sv Bs l D ss W)(hlen:ss.length<N):
  YieldAt FW m Tryz.prog l #[jW x] W fun e W'=>e = .returned (.bool true)/\ApAt w0 fn sv Bs l D (ss++[x]) W'/\KeepsWalks W W':=by
 have mixed:=mixed;have t0:=Tryz.underlying0;have a0:=Tryz.isAgg0;have z0:=Tryz.sizeOf0;have v0:=Tryz.zeroValue0;have t24:=Tryz.underlying60;have a24:=Tryz.isAgg60;have z24:=Tryz.sizeOf60;have v24:=Tryz.zeroValue60;have t26:=Tryz.underlying29;have a26:=Tryz.isAgg29;have z26:=Tryz.sizeOf29;have v26:=Tryz.zeroValue29;have t28:=Tryz.underlying219;have a28:=Tryz.isAgg219;have z28:=Tryz.sizeOf219;have v28:=Tryz.zeroValue219;have Ty:(60:TypeId)≠29:=by decide
 have u0:=run_underlying t0;have u24:=run_underlying t24;have u26:=run_underlying t26;have u28:=run_underlying t28;obtain⟨i0,hi,hz0,hz1,hz2⟩:=info_parts i29;obtain⟨v,hv,xn,_⟩:=h.box;refine⟨fn, #[.slice none 0 0,sv,.pointer (some ⟨Bs,0,none⟩),undef,.slice none 0 0,undef,sv,jW x,undef,undef,undef,undef,undef],apAssign,apBody,by simpa[apRec]using run_yield (P:=Tryz.prog) (args := #[jW x]) h.L rfl,roundIn_of_wpIn trivial ?_⟩
 have hl:l<W.heap.size:=(gK.1 h.L).1;have hbr:=run_beginRound (P:=Tryz.prog) h.L rfl;obtain⟨W2,Wz⟩:∃W2,W.putObj l (.loop {apRec fn sv Bs D .ready none with state:=.busy})=W2:=⟨_,rfl⟩;rw[Wz]at hbr;have hg2:W.grownBy W2 (some l):=by rw[<-Wz];exact grownBy_putObj_a _ _ _
 have hk2:KeepsWalks W W2:=by rw[<-Wz];exact KeepsWalks.putObj _ h.L rfl
 have hv2:W2.heap[Bs]?=some (.cells #[v] 60 (0,0)):=by rw[<-Wz];exact(World.putObj_heap_other hBl).trans hv
 have hK2:W2.heap[D]?=some (.deferred (some [])):=by rw[<-Wz];exact(World.putObj_heap_other hDl).trans h.K
 have hL2:W2.heap[l]?=some (.loop {apRec fn sv Bs D .ready none with state:=.busy}):=by rw[<-Wz];exact World.putObj_heap_same hl
 have KV:W2.ownsRow w0.heap.size 29 1 v ss.length (ss.map jW):=xn.kept hg2 (ownsRow_ne_a xn h.L (fun cur e=>by first|cases e|exact Ty (Obj.cells.inj e).2.1))
 have Ys:Below w0.heap.size w0 W2:=h.below.grown hg2 h.below.size (fun k e=>by cases e;exact h0l)
 obtain⟨hc2,hf2⟩:=cell_of_box_a hv2;have abZ:Bs<W2.heap.size:=(gK.1 hv2).1;have hl2:l<W2.heap.size:=(gK.1 hL2).1;have ab0:D<W2.heap.size:=(gK.1 hK2).1;have ne_of:∀{j:Nat}{o:Obj},W2.heap[j]?=some o->(∀cur,o≠.cells cur 29 (0,0))->some j≠v.ownBlock:=fun hj hno=>by
  rcases ownsRow_ne_a KV hj hno with e|e
  .rw[e];simp
  .exact fun e'=>e e'.symm
 clear Wz;unfold apAssign;gi_wp2_with gi_round_op_a
 unfold apBody;gi_wp2_with (first
  |(gi_at_builtin;refine wpListIn_append_own _ rfl _ _ 60 rfl w0.heap.size 29 i0 (.int .u32 0) 1 4 t24 hi hz0 hz1 hz2 rfl (by decide) _ _ _ rfl (KV.alloc _) ⟨W2.heap.size,0,none⟩ 1 1 [jW x] rfl rfl (cell_one_new _ _ _) (by simp[Value.oneCell',jW]) (by omega) (by omega) (by have:=Ys.size;simp;omega) ?_;intro v' w3 Gr YO ajJ
    have YP:w3.heap[Bs]?=some (.cells #[v] 60 (0,0)):=(YO.block Bs (by simp;omega) (ne_of hv2 (fun cur e=>by first|cases e|exact Ty (Obj.cells.inj e).2.1))).trans ((Below.heap_alloc _ _ Bs abZ).trans hv2)
    obtain⟨hc3,hf3⟩:=cell_of_box_a YP;obtain⟨g',Jk,Tz,rfl,ab1,alf,hr1,hr2,hr3,hr4⟩:∃g' Jk Tz,v' = .slice (some ⟨g',0,none⟩) (ss.length+1) Jk/\w0.heap.size<=g'/\w3.heap[g']?=some (.cells Tz 29 (0,0))/\ss.length+1<=Jk/\Jk<=maxLen/\Tz.size=Jk*1/\Tz.toList.take ((ss.length+1)*1)=ss.map jW++[jW x]:=by
     rcases Gr.2 with⟨_,h0⟩|h'
     .exact absurd h0 (by omega)
     .exact h'
    go_frame)
  |gi_round_op_a)
 have TA:(W2.alloc (.cells #[jW x] 29)).grownBy w3 v.ownBlock:=YO;have hL3:w3.heap[l]?=some (.loop {apRec fn sv Bs D .ready none with state:=.busy}):=(TA.block l (by simp;omega) (ne_of hL2 (fun cur e=>by first|cases e|exact Ty (Obj.cells.inj e).2.1))).trans ((Below.heap_alloc _ _ l hl2).trans hL2)
 have YQ:w3.heap[D]?=some (.deferred (some [])):=(TA.block D (by simp;omega) (ne_of hK2 (fun cur e=>by first|cases e|exact Ty (Obj.cells.inj e).2.1))).trans ((Below.heap_alloc _ _ D ab0).trans hK2)
 obtain⟨w4,YR⟩:∃w4,w3.setCell ⟨Bs,0,none⟩ (.slice (some ⟨g',0,none⟩) (ss.length+1) Jk)=w4:=⟨_,rfl⟩;rw[YR];have hg4:w3.grownBy w4 (some Bs):=by rw[<-YR];exact grownBy_setCell0_a _ _ _
 have hv4:w4.heap[Bs]?=some (.cells #[.slice (some ⟨g',0,none⟩) (ss.length+1) Jk] 60 (0,0)):=by rw[<-YR];exact heap_setCell_box_a _ YP
 have hL4:w4.heap[l]?=some (.loop {apRec fn sv Bs D .ready none with state:=.busy}):=(hg4.block l (gK.1 hL3).1 (fun e=>hBl (by cases e;rfl))).trans hL3
 have hK4:w4.heap[D]?=some (.deferred (some [])):=(hg4.block D (gK.1 YQ).1 (fun e=>hDB (by cases e;rfl))).trans YQ
 have U8:=Gr.kept hg4 (ownsRow_ne_a Gr YP (fun cur e=>by first|cases e|exact Ty (Obj.cells.inj e).2.1))
 have hl4:l<w4.heap.size:=(gK.1 hL4).1;have YS:Below w0.heap.size w0 w3:=(Ys.alloc Ys.size _).grown TA (by have:=Ys.size;simp;omega) (fun k e=>(KV.lt k e).1)
 have hb4:Below w0.heap.size w0 w4:=YS.grown hg4 YS.size (fun k e=>by cases e;exact h0B)
 have hk4:KeepsWalks W w4:=((hk2.trans (KeepsWalks.alloc _ _)).trans (KeepsWalks.of_grownBy TA (ownsRow_not_walk_a (KV.alloc _)))).trans (by rw[<-YR];exact KeepsWalks.setCell _ _ _)
 clear YR;refine⟨_,_,run_endRound none hL4,rfl,⟨⟨_,(World.putObj_heap_other hBl).trans hv4,?_,by simp⟩,World.putObj_heap_same hl4,(World.putObj_heap_other hDl).trans hK4,hb4.grown (grownBy_putObj_a _ _ _) hb4.size (fun k e=>by cases e;exact h0l)⟩,hk4.trans (KeepsWalks.putObj _ hL4 rfl)⟩
 have:=U8.kept (grownBy_putObj_a w4 l (.loop {{apRec fn sv Bs D .ready none with state:=.busy}with state:=if(none:Option Code).isNone then .ready else .done,pending:=none})) (ownsRow_ne_a U8 hL4 (fun cur e=>by first|cases e|exact Ty (Obj.cells.inj e).2.1))
 simpa using this
set_option maxHeartbeats 2000000 in
theorem DZ(n:Nat)(hn:2<=n)(g:Nat)(lb:Array Value)(eg:∀args w,(callFunc g args).run Tryz.prog w = .ok (.enter g args) w)
  (S:List Int->Prop)(N:Nat)(hN:N<=maxLen)(hNb:N*4<=140737488355328)(w:World)(WA:SeqGives FW (n-1) Tryz.prog g lb jW S N w):
  CallsIn FW n Tryz.prog 231 #[.slice none 0 0,.func (.func g) #[] lb] w fun e w'=>∃(v:Value)(ss:List Int),e = .returned v/\S ss/\w'.ownsRow w.heap.size 29 1 v ss.length (ss.map jW)/\(v = .slice none 0 0<->ss=[])/\Below w.heap.size w w':=by
 have h1:1<=n:=by omega
 have mixed:=mixed;have t0:=Tryz.underlying0;have a0:=Tryz.isAgg0;have z0:=Tryz.sizeOf0;have v0:=Tryz.zeroValue0;have t24:=Tryz.underlying60;have a24:=Tryz.isAgg60;have z24:=Tryz.sizeOf60;have v24:=Tryz.zeroValue60;have t26:=Tryz.underlying29;have a26:=Tryz.isAgg29;have z26:=Tryz.sizeOf29;have v26:=Tryz.zeroValue29;have t28:=Tryz.underlying219;have a28:=Tryz.isAgg219;have z28:=Tryz.sizeOf219;have v28:=Tryz.zeroValue219;have Ty:(60:TypeId)≠29:=by decide
 have u0:=run_underlying t0;have u24:=run_underlying t24;have u26:=run_underlying t26;have u28:=run_underlying t28;refine callsIn_of_wp_marks func231 rfl trivial ?_ rfl;simp only[show f231.ntmps=13 from rfl,rJ,aC,cO,Nat.reduceAdd,Nat.reduceSub,xD,xC,tP,xx,ea,di]
 gi_wp2
 refine wpIn_rangeFunc ?_;intro fn hfn;rw[show FW.round=none from rfl]
 obtain⟨W0,hW0⟩:∃W0,w.alloc (.cells #[.slice none 0 0] 60)=W0:=⟨_,rfl⟩;have hs0:W0.heap.size=w.heap.size+1:=by rw[<-hW0];simp
 have hv0:W0.heap[w.heap.size]?=some (.cells #[.slice none 0 0] 60 (0,0)):=by rw[<-hW0];exact World.alloc_heap_new w _
 have hb0:Below w.heap.size w W0:=by rw[<-hW0];exact(Below.refl _ w).alloc (ar _) _
 rw[hW0];obtain⟨W1,Yt⟩:∃W1,(W0.alloc (.deferred (some []))).alloc (.loop (apRec fn (.func (.func g) #[] lb) w.heap.size W0.heap.size .ready none))=W1:=⟨_,rfl⟩;have hold:∀k,k<W0.heap.size->W1.heap[k]?=W0.heap[k]?:=fun k hk=>by
  rw[<-Yt];exact(Below.heap_alloc _ _ k (by simp;omega)).trans (Below.heap_alloc _ _ k hk)
 have hb1:Below w.heap.size w W1:=by rw[<-Yt];exact(hb0.alloc hb0.size _).alloc (by have:=hb0.size;simp;omega) _
 have hs1:W1.heap.size=W0.heap.size+2:=by rw[<-Yt];simp
 have hM:ApAt w fn (.func (.func g) #[] lb) w.heap.size (W0.heap.size+1) W0.heap.size [] W1:=
  ⟨⟨_,(hold w.heap.size (by omega)).trans hv0,⟨rfl,.inl ⟨rfl,rfl⟩⟩,by simp⟩,
   by rw[<-Yt];have:=World.alloc_heap_new (W0.alloc (.deferred (some []))) (.loop (apRec fn (.func (.func g) #[] lb) w.heap.size W0.heap.size .ready none));rwa [World.size_alloc]at this,
   by rw[<-Yt];exact(Below.heap_alloc _ _ _ (by simp)).trans (World.alloc_heap_new W0 _),hb1⟩
 refine⟨W0.heap.size+1,[{target:=.collected W0.heap.size,args := #[]}],W1,{target:=.fn (.func g) lb,args := #[.func (.yield (W0.heap.size+1)) #[] #[]]},W1,g,
  #[.func (.yield (W0.heap.size+1)) #[] #[]]++lb,W1,?_,?_,?_,?_,fun _=>h1,?_⟩
 .rw[<-Yt];exact run_enterLoop_outer _ _ _ _ _
 .simp[resolve,go_sem]
 .intro f' hf';trivial
 .simp[invoke,go_sem,eg]
 .refine(WA (W0.heap.size+1) (ApAt w fn (.func (.func g) #[] lb) w.heap.size (W0.heap.size+1) W0.heap.size) W1 hb1 (ap_abides _ _ _ _ _ _ _ hb1.size)
   (fun pre x W hJ hl=>apYield (n-1-1) w fn _ w.heap.size (W0.heap.size+1) W0.heap.size (by omega) (by omega) (by omega) (ar _) (by omega) N hN hNb pre x W hJ hl) hM).mono ?_
  rintro e W2 ⟨⟨v0,rfl⟩,ss,hS,h2⟩;obtain⟨v,hv,xn,WC⟩:=h2.box;have YT:=run_endLoop (P:=Tryz.prog) h2.L (by simp[apRec])
  obtain⟨W3,YU⟩:∃W3,W2.putObj (W0.heap.size+1) (.loop {apRec fn (.func (.func g) #[] lb) w.heap.size W0.heap.size .ready none with state:=.exhausted})=W3:=⟨_,rfl⟩;rw[YU]at YT;have YO:W2.grownBy W3 (some (W0.heap.size+1)):=by rw[<-YU];exact grownBy_putObj_a _ _ _
  have YP:W3.heap[w.heap.size]?=some (.cells #[v] 60 (0,0)):=by rw[<-YU];exact(World.putObj_heap_other (by omega)).trans hv
  have YQ:W3.heap[W0.heap.size]?=some (.deferred (some [])):=by rw[<-YU];exact(World.putObj_heap_other (by omega)).trans h2.K
  have U9:=xn.kept YO (ownsRow_ne_a xn h2.L (fun cur e=>by first|cases e|exact Ty (Obj.cells.inj e).2.1))
  have YS:Below w.heap.size w W3:=h2.below.grown YO h2.below.size (fun k e=>by cases e;omega)
  obtain⟨hc3,hf3⟩:=cell_of_box_a YP;clear YU;refine⟨none,W3,YT,?_⟩;gi_wp2
  rw[<-hs0];refine⟨by simp,.inl ⟨_,_,rfl,run_takeDeferred YQ,?_⟩⟩
  exact⟨_,results_tmp rfl _ _ _,v,ss,rfl,hS,U9.kept (grownBy_putObj_a _ _ _) (ownsRow_ne_a U9 YQ (fun cur e=>by first|cases e|exact Ty (Obj.cells.inj e).2.1)),WC,YS.grown (grownBy_putObj_a _ _ _) YS.size (fun k e=>by cases e;omega)⟩
set_option maxHeartbeats 1000000 in
theorem Jl(n:Nat)(hn:3<=n)(g:Nat)(lb:Array Value)(eg:∀args w,(callFunc g args).run Tryz.prog w = .ok (.enter g args) w)
  (S:List Int->Prop)(N:Nat)(hN:N<=maxLen)(hNb:N*4<=140737488355328)(w:World)(WA:SeqGives FW (n-1-1) Tryz.prog g lb jW S N w):
  CallsIn FW n Tryz.prog 163 #[.func (.func g) #[] lb] w fun e w'=>∃(v:Value)(ss:List Int),e = .returned v/\S ss/\w'.ownsRow w.heap.size 29 1 v ss.length (ss.map jW)/\(v = .slice none 0 0<->ss=[])/\Below w.heap.size w w':=by
 have h1:1<=n:=by omega
 have e11:∀args w,(callFunc 231 args).run Tryz.prog w = .ok (.enter 231 args) w:=enters_of func231 rfl rfl;have mixed:=mixed;have t0:=Tryz.underlying0;have a0:=Tryz.isAgg0;have z0:=Tryz.sizeOf0;have v0:=Tryz.zeroValue0;have t24:=Tryz.underlying60;have a24:=Tryz.isAgg60;have z24:=Tryz.sizeOf60;have v24:=Tryz.zeroValue60;have t26:=Tryz.underlying29;have a26:=Tryz.isAgg29;have z26:=Tryz.sizeOf29;have v26:=Tryz.zeroValue29;have t28:=Tryz.underlying219;have a28:=Tryz.isAgg219;have z28:=Tryz.sizeOf219;have v28:=Tryz.zeroValue219;have u0:=run_underlying t0;have u24:=run_underlying t24;have u26:=run_underlying t26;have u28:=run_underlying t28;refine callsIn_of_wp func163 rfl trivial ?_ rfl;simp only[show f163.ntmps=5 from rfl,rJ,aC,cO,Nat.reduceAdd,Nat.reduceSub,xD,xC,tP,xx,ea,di]
 gi_wp2
 refine⟨trivial,(DZ (n-1) (by omega) g lb eg S N hN hNb _ WA).mono ?_⟩
 rintro e w' ⟨v,ss,rfl,hS,xn,WC,hb⟩;gi_wp2
 go_ret
 exact⟨v,ss,rfl,hS,xn,WC,hb⟩
end
def iI(a:By):By->Int
 |[]=>bif a.isEmpty then 0 else -1
 |c::t=>bif a.isPrefixOf (c::t)then 0 else(let i:=iI a t;bif decide (i<0)then -1 else i+1)
def indexB(c:Int):By->Int
 |[]=> -1
 |d::t=>bif(d.toNat:Int)==c then 0 else(let i:=indexB c t;bif decide (i<0)then -1 else i+1)
def countB(c:UInt8)(s:By):Nat:=(s.filter (· == c)).length
def jB(c:UInt8):By->Int
 |[]=> -1
 |d::t=>let i:=jB c t;bif decide (i>=0)then i+1 else bif d==c then 0 else -1
def splitB(c:UInt8):By->List By
 |[]=>[[]]
 |d::t=>bif d==c then[]::splitB c t else match splitB c t with
  |x::l=>(d::x)::l
  |[]=>[[d]]
def ll(c:UInt8):List By->By
 |[]=>[]
 |[x]=>x
 |x::l=>x++c::ll c l
def gM(l:List By):Nat:=(l.map (·.length)).sum
def je(s:By):List By:=(splitB 32 s).filter (· != [])
def ni(n:Int):List Int->List Int
 |[]=>[n]
 |m::l=>bif decide (n<=m)then n::m::l else m::ni n l
def gD:List Int->List Int
 |[]=>[]
 |n::l=>ni n (gD l)
end Go.Ac.S4
end
section
namespace Go.Proofs
def Tryz.TB:Go.Shelf.Ren:=⟨fun|99=>243|206=>312|n=>n,fun|9=>9|4=>4|3=>3|n=>n,fun|n=>n⟩
def Tryz.l99:Go.Proofs.Lays.n99 Tryz.prog Tryz.TB:={
 mixed:=by kernel_rfl
 f99:=Tryz.func243.trans (congrArg some (by kernel_rfl))
 f206:=Tryz.func312.trans (congrArg some (by kernel_rfl))
 t3:=Tryz.underlying3
 a3:=Tryz.isAgg3
 z3:=Tryz.sizeOf3
 v3:=Tryz.zeroValue3
 t4:=Tryz.underlying4
 a4:=Tryz.isAgg4
 z4:=Tryz.sizeOf4
 v4:=Tryz.zeroValue4
 t9:=Tryz.underlying9
 a9:=Tryz.isAgg9
 z9:=Tryz.sizeOf9
 v9:=Tryz.zeroValue9}
def Tryz.OO:Go.Shelf.Ren:=⟨fun|103=>313|210=>351|206=>312|n=>n,fun|9=>9|4=>4|24=>193|3=>3|n=>n,fun|n=>n⟩
def Tryz.ab4:Go.Proofs.Lays.n103 Tryz.prog Tryz.OO:={
 mixed:=by kernel_rfl
 f103:=Tryz.func313.trans (congrArg some (by kernel_rfl))
 f206:=Tryz.func312.trans (congrArg some (by kernel_rfl))
 f210:=Tryz.func351.trans (congrArg some (by kernel_rfl))
 t3:=Tryz.underlying3
 a3:=Tryz.isAgg3
 z3:=Tryz.sizeOf3
 v3:=Tryz.zeroValue3
 t4:=Tryz.underlying4
 a4:=Tryz.isAgg4
 z4:=Tryz.sizeOf4
 v4:=Tryz.zeroValue4
 t9:=Tryz.underlying9
 a9:=Tryz.isAgg9
 z9:=Tryz.sizeOf9
 v9:=Tryz.zeroValue9
 t24:=Tryz.underlying193
 a24:=Tryz.isAgg193
 z24:=Tryz.sizeOf193
 v24:=Tryz.zeroValue193}
def Tryz.OP:Go.Shelf.Ren:=⟨fun|137=>318|217=>324|266=>354|n=>n,fun|9=>9|5=>5|3=>3|n=>n,fun|n=>n⟩
def Tryz.ab5:Go.Proofs.Lays.n137 Tryz.prog Tryz.OP:={
 mixed:=by kernel_rfl
 f137:=Tryz.func318.trans (congrArg some (by kernel_rfl))
 f217:=Tryz.func324.trans (congrArg some (by kernel_rfl))
 f266:=Tryz.func354.trans (congrArg some (by kernel_rfl))
 t3:=Tryz.underlying3
 a3:=Tryz.isAgg3
 z3:=Tryz.sizeOf3
 v3:=Tryz.zeroValue3
 t5:=Tryz.underlying5
 a5:=Tryz.isAgg5
 z5:=Tryz.sizeOf5
 v5:=Tryz.zeroValue5
 t9:=Tryz.underlying9
 a9:=Tryz.isAgg9
 z9:=Tryz.sizeOf9
 v9:=Tryz.zeroValue9}
def Tryz.OQ:Go.Shelf.Ren:=⟨fun|138=>140|195=>195|218=>196|143=>197|219=>264|217=>324|225=>325|224=>326|267=>327|266=>354|314=>355|n=>n,fun|9=>9|3=>3|4=>4|5=>5|0=>0|46=>61|146=>375|51=>29|n=>n,fun|1=>0|n=>n⟩
def Tryz.ab6:Go.Proofs.Lays.n138 Tryz.prog Tryz.OQ:={
 mixed:=by kernel_rfl
 f138:=Tryz.func140.trans (congrArg some (by kernel_rfl))
 f143:=Tryz.func197.trans (congrArg some (by kernel_rfl))
 f195:=Tryz.func195.trans (congrArg some (by kernel_rfl))
 f217:=Tryz.func324.trans (congrArg some (by kernel_rfl))
 f218:=Tryz.func196.trans (congrArg some (by kernel_rfl))
 f219:=Tryz.func264.trans (congrArg some (by kernel_rfl))
 f224:=Tryz.func326.trans (congrArg some (by kernel_rfl))
 f225:=Tryz.func325.trans (congrArg some (by kernel_rfl))
 f266:=Tryz.func354.trans (congrArg some (by kernel_rfl))
 f267:=Tryz.func327.trans (congrArg some (by kernel_rfl))
 f314:=Tryz.func355.trans (congrArg some (by kernel_rfl))
 t0:=Tryz.underlying0
 a0:=Tryz.isAgg0
 z0:=Tryz.sizeOf0
 v0:=Tryz.zeroValue0
 t3:=Tryz.underlying3
 a3:=Tryz.isAgg3
 z3:=Tryz.sizeOf3
 v3:=Tryz.zeroValue3
 t4:=Tryz.underlying4
 a4:=Tryz.isAgg4
 z4:=Tryz.sizeOf4
 v4:=Tryz.zeroValue4
 t5:=Tryz.underlying5
 a5:=Tryz.isAgg5
 z5:=Tryz.sizeOf5
 v5:=Tryz.zeroValue5
 t9:=Tryz.underlying9
 a9:=Tryz.isAgg9
 z9:=Tryz.sizeOf9
 v9:=Tryz.zeroValue9
 t46:=Tryz.underlying61
 a46:=Tryz.isAgg61
 z46:=Tryz.sizeOf61
 v46:=Tryz.zeroValue61
 t51:=Tryz.underlying29
 a51:=Tryz.isAgg29
 z51:=Tryz.sizeOf29
 v51:=Tryz.zeroValue29
 t146:=Tryz.underlying375
 a146:=Tryz.isAgg375
 z146:=Tryz.sizeOf375
 v146:=Tryz.zeroValue375
 g1:=by kernel_rfl}
def Tryz.OR:Go.Shelf.Ren:=⟨fun|148=>141|222=>198|223=>199|269=>265|n=>n,fun|9=>9|3=>3|4=>4|5=>5|146=>375|51=>29|46=>61|n=>n,fun|n=>n⟩
def Tryz.ab7:Go.Proofs.Lays.n148 Tryz.prog Tryz.OR:={
 mixed:=by kernel_rfl
 f148:=Tryz.func141.trans (congrArg some (by kernel_rfl))
 f222:=Tryz.func198.trans (congrArg some (by kernel_rfl))
 f223:=Tryz.func199.trans (congrArg some (by kernel_rfl))
 f269:=Tryz.func265.trans (congrArg some (by kernel_rfl))
 t3:=Tryz.underlying3
 a3:=Tryz.isAgg3
 z3:=Tryz.sizeOf3
 v3:=Tryz.zeroValue3
 t4:=Tryz.underlying4
 a4:=Tryz.isAgg4
 z4:=Tryz.sizeOf4
 v4:=Tryz.zeroValue4
 t5:=Tryz.underlying5
 a5:=Tryz.isAgg5
 z5:=Tryz.sizeOf5
 v5:=Tryz.zeroValue5
 t9:=Tryz.underlying9
 a9:=Tryz.isAgg9
 z9:=Tryz.sizeOf9
 v9:=Tryz.zeroValue9
 t46:=Tryz.underlying61
 a46:=Tryz.isAgg61
 z46:=Tryz.sizeOf61
 v46:=Tryz.zeroValue61
 t51:=Tryz.underlying29
 a51:=Tryz.isAgg29
 z51:=Tryz.sizeOf29
 v51:=Tryz.zeroValue29
 t146:=Tryz.underlying375
 a146:=Tryz.isAgg375
 z146:=Tryz.sizeOf375
 v146:=Tryz.zeroValue375}
def Tryz.OS:Go.Shelf.Ren:=⟨fun|143=>197|219=>264|217=>324|225=>325|224=>326|267=>327|266=>354|314=>355|n=>n,fun|9=>9|3=>3|4=>4|5=>5|46=>61|146=>375|51=>29|n=>n,fun|1=>0|n=>n⟩
def Tryz.ab8:Go.Proofs.Lays.n143 Tryz.prog Tryz.OS:={
 mixed:=by kernel_rfl
 f143:=Tryz.func197.trans (congrArg some (by kernel_rfl))
 f217:=Tryz.func324.trans (congrArg some (by kernel_rfl))
 f219:=Tryz.func264.trans (congrArg some (by kernel_rfl))
 f224:=Tryz.func326.trans (congrArg some (by kernel_rfl))
 f225:=Tryz.func325.trans (congrArg some (by kernel_rfl))
 f266:=Tryz.func354.trans (congrArg some (by kernel_rfl))
 f267:=Tryz.func327.trans (congrArg some (by kernel_rfl))
 f314:=Tryz.func355.trans (congrArg some (by kernel_rfl))
 t3:=Tryz.underlying3
 a3:=Tryz.isAgg3
 z3:=Tryz.sizeOf3
 v3:=Tryz.zeroValue3
 t4:=Tryz.underlying4
 a4:=Tryz.isAgg4
 z4:=Tryz.sizeOf4
 v4:=Tryz.zeroValue4
 t5:=Tryz.underlying5
 a5:=Tryz.isAgg5
 z5:=Tryz.sizeOf5
 v5:=Tryz.zeroValue5
 t9:=Tryz.underlying9
 a9:=Tryz.isAgg9
 z9:=Tryz.sizeOf9
 v9:=Tryz.zeroValue9
 t46:=Tryz.underlying61
 a46:=Tryz.isAgg61
 z46:=Tryz.sizeOf61
 v46:=Tryz.zeroValue61
 t51:=Tryz.underlying29
 a51:=Tryz.isAgg29
 z51:=Tryz.sizeOf29
 v51:=Tryz.zeroValue29
 t146:=Tryz.underlying375
 a146:=Tryz.isAgg375
 z146:=Tryz.sizeOf375
 v146:=Tryz.zeroValue375
 g1:=by kernel_rfl}
def Tryz.OT:Go.Shelf.Ren:=⟨fun|264=>315|n=>n,fun|53=>30|46=>61|n=>n,fun|n=>n⟩
def Tryz.ab9:Go.Proofs.Lays.n264 Tryz.prog Tryz.OT:={
 mixed:=by kernel_rfl
 f264:=Tryz.func315.trans (congrArg some (by kernel_rfl))
 t46:=Tryz.underlying61
 a46:=Tryz.isAgg61
 z46:=Tryz.sizeOf61
 v46:=Tryz.zeroValue61
 t53:=Tryz.underlying30
 a53:=Tryz.isAgg30
 z53:=Tryz.sizeOf30
 v53:=Tryz.zeroValue30}
def Tryz.OU:Go.Shelf.Ren:=⟨fun|25=>316|n=>n,fun|22=>30|n=>n,fun|n=>n⟩
def Tryz.aca:Go.Proofs.Lays7.n25 Tryz.prog Tryz.OU:={
 mixed:=by kernel_rfl
 f25:=Tryz.func316.trans (congrArg some (by kernel_rfl))
 t22:=Tryz.underlying30
 a22:=Tryz.isAgg30
 z22:=Tryz.sizeOf30
 v22:=Tryz.zeroValue30
 i22:=by kernel_rfl}
end Go.Proofs
namespace Go.Ac.S4
open Go Go.Proofs Go.Proofs.Tryz Go.Ac
set_option maxRecDepth 100000
def WD(s p:By):ak 243 [vS s,vS p] [] [vB (p.isPrefixOf s)] []:=by
 refine Wy (r:=[B (p.isPrefixOf s)]) (enters_of func243 rfl rfl) fun v u w d c a b=>?_
 rw[lG a,lG b];exact⟨[.bool (p.isPrefixOf s)],rfl,rW (.bool _),Any.strings_HasPrefix Tryz.l99 ⟨s.toArray⟩ ⟨p.toArray⟩ w⟩
def acb(s p:By):ak 313 [vS s,vS p] [] [vS (bif p.isPrefixOf s then s.drop p.length else s),vB (p.isPrefixOf s)] []:=by
 refine Wy (r:=[S (bif p.isPrefixOf s then s.drop p.length else s),B (p.isPrefixOf s)]) (enters_of func313 rfl rfl) fun v u w f d a b=>?_
 rw[lG a,lG b];have e:Lib.trimPrefix s p=bif p.isPrefixOf s then s.drop p.length else s:=by
  unfold Lib.trimPrefix Lib.hasPrefix;cases p.isPrefixOf s<;>rfl
 have c:=Any.strings_CutPrefix Tryz.ab4 ⟨s.toArray⟩ ⟨p.toArray⟩ w;simp only[e]at c;exact⟨[.string ⟨(bif p.isPrefixOf s then s.drop p.length else s).toArray⟩,.bool (p.isPrefixOf s)],rfl,KR (Jj _) (.bool _),c⟩
def yT(c:UInt8):∀s:By,indexB c.toNat s=Lib.indexByte s c
 |[]=>rfl
 |d::t=>by
  have a:=yT c t;have b:=Lib.indexByte_ge t c;unfold indexB Lib.indexByte;rw[a];cases h:d==c
  .have:((d.toNat:Int)==c.toNat)=false:=by
    rw[fo]at h⊢;intro e;exact h (UInt8.toNat_inj.1 (by omega))
   rw[this];cases h2:Lib.indexByte t c == -1
   .rw[fo]at h2
    simp[show¬Lib.indexByte t c<0 by omega]
   .have:=eq_of_beq h2
    simp[this]
  .have:=eq_of_beq h
   subst this;simp
def acd(s:By)(c:UInt8)(e:s.length<=2^40):ak 318 [vS s,vY c.toNat] [] [vN (indexB c.toNat s)] []:=by
 refine Wy (r:=[N (indexB c.toNat s)]) (enters_of func318 rfl rfl) fun v u w f d a b=>?_
 rw[lG a,vH b];have k:=Any.strings_IndexByte Tryz.ab5 ⟨s.toArray⟩ c.toNat w;rw[show(Int.toNat (c.toNat:Int)).toUInt8=c by simp]at k
 refine⟨[.int .i64 (indexB c.toNat s)],rfl,rW (.int _ _),?_⟩;rw[yT];exact k
def ace(s:By)(c:UInt8)(f:s.length<=2^40):ak 140 [vS s,vS [c]] [] [vN (countB c s)] []:=by
 refine Wy (r:=[N (countB c s)]) (enters_of func140 rfl rfl) fun v u w g d a b=>?_
 rw[lG a,lG b];refine⟨[.int .i64 (countB c s)],rfl,rW (.int _ _),?_⟩;have e:countB c s=Lib.countByte s c:=by unfold countB Lib.countByte;rw[List.count,List.countP_eq_length_filter]
 rw[e];exact Any.strings_Count_one Tryz.ab6 ⟨s.toArray⟩ c w
def M8(c:UInt8)(s:By):jB c s=Lib.lastIndexByte ⟨s.toArray⟩ c.toNat:=by
 have ge:∀s:By,-1<=jB c s:=by
  intro s;induction s with
  |nil=>exact dY _
  |cons d t a=>
   unfold jB;simp only;cases hd:decide (jB c t>=0)
   .cases d==c<;>simp
   .simp;omega
 have snoc:∀(s:By)(d:UInt8),jB c (s++[d])=bif d==c then(s.length:Int)else jB c s:=by
  intro s d;induction s with
  |nil=>cases hd:d==c<;>simp[jB,hd]
  |cons x t a=>
   have:=ge t;rw[di];unfold jB;rw[a];cases hd:d==c
   .rfl
   .simp
 have key:∀k,k<=s.length->jB c (s.take k)=Lib.lastIdx ⟨s.toArray⟩ c.toNat k:=by
  intro k;induction k with
  |zero=>intro _;rfl
  |succ k a=>
   intro g;have a:=a (by omega)
   have f:s.take (k+1)=s.take k++[s[k]'(by omega)]:=by rw[List.take_succ_eq_append_getElem]
   rw[f,snoc,a];rw[show Lib.lastIdx ⟨s.toArray⟩ c.toNat (k+1)=if(((⟨s.toArray⟩:ByteArray).data[k]!).toNat:Int)=c.toNat then(k:Int)else Lib.lastIdx ⟨s.toArray⟩ c.toNat k from rfl]
   have:(⟨s.toArray⟩:ByteArray).data[k]! = s[k]'(by omega):=by simp[show k<s.length by omega]
   rw[this];have b:(s.take k).length=k:=by simp;omega
   rw[b];cases hd:s[k]'(by omega)==c
   .rw[fo]at hd
    rw[aI (fun e=>hd (UInt8.toNat_inj.1 (by omega)))]
    rfl
   .rw[eq_of_beq hd,aF rfl];rfl
 have:=key s.length (ar _);rw[List.take_length]at this;exact this
def YV(s:By)(c:UInt8)(e:s.length<=2^40):ak 141 [vS s,vS [c]] [] [vN (jB c s)] []:=by
 refine Wy (r:=[N (jB c s)]) (enters_of func141 rfl rfl) fun v u w f d a b=>?_
 rw[lG a,lG b];refine⟨[.int .i64 (jB c s)],rfl,rW (.int _ _),?_⟩;rw[M8];exact Any.strings_LastIndex_one Tryz.ab7 ⟨s.toArray⟩ ⟨#[c]⟩ rfl (by show s.toArray.size<_;simp;omega) w
def yU(p:By)(a:p≠[]):∀s:By,iI p s=Lib.index s p
 |[]=>by
  unfold iI Lib.index;cases p with
  |nil=>exact(a rfl).elim
  |cons x t=>rfl
 |d::t=>by
  have b:=yU p a t;have c:=Lib.index_ge t p;unfold iI Lib.index;rw[b];cases h:p.isPrefixOf (d::t)
  .cases h2:Lib.index t p == -1
   .rw[fo]at h2
    simp[show¬Lib.index t p<0 by omega]
   .have:=eq_of_beq h2
    simp[this]
  .rfl
def acf(s p:By)(g:s.length<=2^31)(a:2<=p.length/\p.length<=8):ak 197 [vS s,vS p] [] [vN (iI p s)] []:=by
 refine Wy (r:=[N (iI p s)]) (enters_of func197 rfl rfl) fun v u w i d b c=>?_
 rw[lG b,lG c];obtain⟨m,f,-⟩:=d.num;refine⟨[.int .i64 (iI p s)],rfl,rW (.int _ _),?_⟩;rw[yU p (by intro e;rw[e]at a;simp at a)]
 exact Any.strings_Index Tryz.ab8 ⟨s.toArray⟩ ⟨p.toArray⟩ m w (by show s.toArray.size<_;simp;omega) f
def acg(x y:Int)(g:0<=x/\x<18446744073709551616)(i:0<=y/\y<18446744073709551616):ak 315 [vU x,vU y] [] [vU (x*y/18446744073709551616),vU (x*y%18446744073709551616)] []:=by
 refine Wy (r:=[U (x*y/18446744073709551616),U (x*y%18446744073709551616)]) (enters_of func315 rfl rfl) fun v u w l j c d=>?_
 rw[vH c,vH d];obtain⟨a,rfl⟩:=iq g.1;obtain⟨b,rfl⟩:=iq i.1;have k:=Any.bits_Mul64 Tryz.ab9 a b (by omega) (by omega) w
 generalize c:a*b/18446744073709551616=q at k;generalize d:a*b%18446744073709551616=r at k;refine⟨[.int .u64 (q:Int),.int .u64 (r:Int)],rfl,?_,k⟩;rw[<-c,<-d];have e:((a*b/18446744073709551616:Nat):Int)=(a:Int)*b/18446744073709551616:=by simp
 have f:((a*b%18446744073709551616:Nat):Int)=(a:Int)*b%18446744073709551616:=by simp
 rw[e,f];exact KR (.int _ _) (.int _ _)
def ach(x y:Int)(o:0<=x/\x<18446744073709551616)(p:0<=y/\y<18446744073709551616):ak 316 [vU x,vU y,vU 0] [] [vU ((x+y)%18446744073709551616),vU ((x+y)/18446744073709551616)] []:=by
 constructor
 intro w f O s n d;obtain⟨v,u,z,rfl,g,i,j⟩:=YL d;rw[KQ g,KQ i,KQ j];obtain⟨a,rfl⟩:=iq o.1;obtain⟨b,rfl⟩:=iq p.1;have k:∀c:Nat,c<=1->(callFunc 316 #[.int .u64 (a:Int),.int .u64 (b:Int),.int .u64 (c:Int)]).run Tryz.prog w = .ok (.value (.tuple #[.int .u64 (((a+b+c)%18446744073709551616:Nat):Int),.int .u64 (((a+b+c)/18446744073709551616:Nat):Int)])) w:=fun c m=>Any7.bits_Add64 Tryz.aca a b c m w
 obtain⟨q,e⟩:∃q,((a:Int)+b)%18446744073709551616=q:=⟨_,rfl⟩;obtain⟨r,d⟩:∃r,((a:Int)+b)/18446744073709551616=r:=⟨_,rfl⟩;have k:=k 0 (dD 1);rw[show(((a+b+0)%18446744073709551616:Nat):Int)=q by rw[<-e];simp,show(((a+b+0)/18446744073709551616:Nat):Int)=r by rw[<-d];simp]at k
 rw[e,d];rw[show((0:Nat):Int)=0 from rfl]at k
 unfold dj;rw[k];exact⟨f,[.int .u64 q,.int .u64 r],n,ON (.v (.int _ _)) (.v (.int _ _)),rfl,fun b l=>⟨l,rfl⟩⟩
end Go.Ac.S4
end
section
namespace Go.Proofs
def Tryz.OV:Go.Shelf.Ren:=⟨fun|146=>131|221=>183|268=>256|138=>140|143=>197|195=>195|197=>319|218=>196|219=>264|260=>352|217=>324|225=>325|224=>326|267=>327|266=>354|314=>355|n=>n,fun|9=>9|31=>24|3=>3|4=>4|0=>0|105=>426|21=>21|5=>5|46=>61|119=>433|139=>464|138=>463|146=>375|51=>29|n=>n,fun|1=>0|3=>3|4=>4|n=>n⟩
def Tryz.aci:Go.Proofs.Lays.n146 Tryz.prog Tryz.OV:={
 mixed:=by kernel_rfl
 f138:=Tryz.func140.trans (congrArg some (by kernel_rfl))
 f143:=Tryz.func197.trans (congrArg some (by kernel_rfl))
 f146:=Tryz.func131.trans (congrArg some (by kernel_rfl))
 f195:=Tryz.func195.trans (congrArg some (by kernel_rfl))
 f197:=Tryz.func319.trans (congrArg some (by kernel_rfl))
 f217:=Tryz.func324.trans (congrArg some (by kernel_rfl))
 f218:=Tryz.func196.trans (congrArg some (by kernel_rfl))
 f219:=Tryz.func264.trans (congrArg some (by kernel_rfl))
 f221:=Tryz.func183.trans (congrArg some (by kernel_rfl))
 f224:=Tryz.func326.trans (congrArg some (by kernel_rfl))
 f225:=Tryz.func325.trans (congrArg some (by kernel_rfl))
 f260:=Tryz.func352.trans (congrArg some (by kernel_rfl))
 f266:=Tryz.func354.trans (congrArg some (by kernel_rfl))
 f267:=Tryz.func327.trans (congrArg some (by kernel_rfl))
 f268:=Tryz.func256.trans (congrArg some (by kernel_rfl))
 f314:=Tryz.func355.trans (congrArg some (by kernel_rfl))
 t0:=Tryz.underlying0
 a0:=Tryz.isAgg0
 z0:=Tryz.sizeOf0
 v0:=Tryz.zeroValue0
 t3:=Tryz.underlying3
 a3:=Tryz.isAgg3
 z3:=Tryz.sizeOf3
 v3:=Tryz.zeroValue3
 t4:=Tryz.underlying4
 a4:=Tryz.isAgg4
 z4:=Tryz.sizeOf4
 v4:=Tryz.zeroValue4
 t5:=Tryz.underlying5
 a5:=Tryz.isAgg5
 z5:=Tryz.sizeOf5
 v5:=Tryz.zeroValue5
 t9:=Tryz.underlying9
 a9:=Tryz.isAgg9
 z9:=Tryz.sizeOf9
 v9:=Tryz.zeroValue9
 t21:=Tryz.underlying21
 a21:=Tryz.isAgg21
 z21:=Tryz.sizeOf21
 v21:=Tryz.zeroValue21
 t31:=Tryz.underlying24
 a31:=Tryz.isAgg24
 z31:=Tryz.sizeOf24
 v31:=Tryz.zeroValue24
 t46:=Tryz.underlying61
 a46:=Tryz.isAgg61
 z46:=Tryz.sizeOf61
 v46:=Tryz.zeroValue61
 t51:=Tryz.underlying29
 a51:=Tryz.isAgg29
 z51:=Tryz.sizeOf29
 v51:=Tryz.zeroValue29
 t105:=Tryz.underlying426
 a105:=Tryz.isAgg426
 z105:=Tryz.sizeOf426
 v105:=Tryz.zeroValue426
 t119:=Tryz.underlying433
 a119:=Tryz.isAgg433
 z119:=Tryz.sizeOf433
 t138:=Tryz.underlying463
 a138:=Tryz.isAgg463
 z138:=Tryz.sizeOf463
 v138:=Tryz.zeroValue463
 t139:=Tryz.underlying464
 a139:=Tryz.isAgg464
 z139:=Tryz.sizeOf464
 v139:=Tryz.zeroValue464
 t146:=Tryz.underlying375
 a146:=Tryz.isAgg375
 z146:=Tryz.sizeOf375
 v146:=Tryz.zeroValue375
 g1:=by kernel_rfl
 g3:=by kernel_rfl
 g4:=by kernel_rfl}
def Tryz.OW:Go.Shelf.Ren:=⟨fun|157=>279|229=>332|199=>333|261=>357|311=>362|312=>363|n=>n,fun|9=>9|31=>24|3=>3|5=>5|4=>4|119=>433|0=>0|40=>435|152=>452|21=>21|154=>454|51=>29|141=>456|196=>468|193=>465|198=>471|49=>469|194=>466|201=>474|226=>477|46=>61|227=>478|n=>n,fun|0=>1|6=>2|n=>n⟩
def Tryz.acj:Go.Proofs.Lays.n157 Tryz.prog Tryz.OW:={
 mixed:=by kernel_rfl
 f157:=Tryz.func279.trans (congrArg some (by kernel_rfl))
 f199:=Tryz.func333.trans (congrArg some (by kernel_rfl))
 f229:=Tryz.func332.trans (congrArg some (by kernel_rfl))
 f261:=Tryz.func357.trans (congrArg some (by kernel_rfl))
 f311:=Tryz.func362.trans (congrArg some (by kernel_rfl))
 f312:=Tryz.func363.trans (congrArg some (by kernel_rfl))
 t0:=Tryz.underlying0
 a0:=Tryz.isAgg0
 z0:=Tryz.sizeOf0
 v0:=Tryz.zeroValue0
 t3:=Tryz.underlying3
 a3:=Tryz.isAgg3
 z3:=Tryz.sizeOf3
 v3:=Tryz.zeroValue3
 t4:=Tryz.underlying4
 a4:=Tryz.isAgg4
 z4:=Tryz.sizeOf4
 v4:=Tryz.zeroValue4
 t5:=Tryz.underlying5
 a5:=Tryz.isAgg5
 z5:=Tryz.sizeOf5
 v5:=Tryz.zeroValue5
 t9:=Tryz.underlying9
 a9:=Tryz.isAgg9
 z9:=Tryz.sizeOf9
 v9:=Tryz.zeroValue9
 t21:=Tryz.underlying21
 a21:=Tryz.isAgg21
 z21:=Tryz.sizeOf21
 v21:=Tryz.zeroValue21
 t31:=Tryz.underlying24
 a31:=Tryz.isAgg24
 z31:=Tryz.sizeOf24
 v31:=Tryz.zeroValue24
 t40:=Tryz.underlying435
 a40:=Tryz.isAgg435
 z40:=Tryz.sizeOf435
 v40:=Tryz.zeroValue435
 t46:=Tryz.underlying61
 a46:=Tryz.isAgg61
 z46:=Tryz.sizeOf61
 v46:=Tryz.zeroValue61
 t49:=Tryz.underlying469
 a49:=Tryz.isAgg469
 z49:=Tryz.sizeOf469
 v49:=Tryz.zeroValue469
 t51:=Tryz.underlying29
 a51:=Tryz.isAgg29
 z51:=Tryz.sizeOf29
 v51:=Tryz.zeroValue29
 t119:=Tryz.underlying433
 a119:=Tryz.isAgg433
 z119:=Tryz.sizeOf433
 t141:=Tryz.underlying456
 a141:=Tryz.isAgg456
 z141:=Tryz.sizeOf456
 v141:=Tryz.zeroValue456
 t152:=Tryz.underlying452
 a152:=Tryz.isAgg452
 z152:=Tryz.sizeOf452
 v152:=Tryz.zeroValue452
 t154:=Tryz.underlying454
 a154:=Tryz.isAgg454
 z154:=Tryz.sizeOf454
 v154:=Tryz.zeroValue454
 t193:=Tryz.underlying465
 a193:=Tryz.isAgg465
 z193:=Tryz.sizeOf465
 v193:=Tryz.zeroValue465
 t194:=Tryz.underlying466
 a194:=Tryz.isAgg466
 z194:=Tryz.sizeOf466
 v194:=Tryz.zeroValue466
 t196:=Tryz.underlying468
 a196:=Tryz.isAgg468
 z196:=Tryz.sizeOf468
 v196:=Tryz.zeroValue468
 t198:=Tryz.underlying471
 a198:=Tryz.isAgg471
 z198:=Tryz.sizeOf471
 v198:=Tryz.zeroValue471
 t201:=Tryz.underlying474
 a201:=Tryz.isAgg474
 z201:=Tryz.sizeOf474
 v201:=Tryz.zeroValue474
 t226:=Tryz.underlying477
 a226:=Tryz.isAgg477
 z226:=Tryz.sizeOf477
 v226:=Tryz.zeroValue477
 t227:=Tryz.underlying478
 a227:=Tryz.isAgg478
 z227:=Tryz.sizeOf478
 v227:=Tryz.zeroValue478
 g0:=by kernel_rfl
 g6:=by kernel_rfl}
def Tryz.Gs:Go.Shelf.Ren:=⟨fun|156=>132|165=>184|166=>185|169=>186|240=>257|241=>258|276=>320|277=>321|n=>n,fun|31=>24|9=>9|3=>3|4=>4|0=>0|20=>20|72=>320|76=>323|70=>318|37=>42|75=>322|127=>373|164=>428|5=>5|80=>252|n=>n,fun|n=>n⟩
def Tryz.YW:Go.Proofs.Lays.n156 Tryz.prog Tryz.Gs:={
 mixed:=by kernel_rfl
 f156:=Tryz.func132.trans (congrArg some (by kernel_rfl))
 f165:=Tryz.func184.trans (congrArg some (by kernel_rfl))
 f166:=Tryz.func185.trans (congrArg some (by kernel_rfl))
 f169:=Tryz.func186.trans (congrArg some (by kernel_rfl))
 f240:=Tryz.func257.trans (congrArg some (by kernel_rfl))
 f241:=Tryz.func258.trans (congrArg some (by kernel_rfl))
 f276:=Tryz.func320.trans (congrArg some (by kernel_rfl))
 f277:=Tryz.func321.trans (congrArg some (by kernel_rfl))
 t0:=Tryz.underlying0
 a0:=Tryz.isAgg0
 z0:=Tryz.sizeOf0
 v0:=Tryz.zeroValue0
 t3:=Tryz.underlying3
 a3:=Tryz.isAgg3
 z3:=Tryz.sizeOf3
 v3:=Tryz.zeroValue3
 t4:=Tryz.underlying4
 a4:=Tryz.isAgg4
 z4:=Tryz.sizeOf4
 v4:=Tryz.zeroValue4
 t9:=Tryz.underlying9
 a9:=Tryz.isAgg9
 z9:=Tryz.sizeOf9
 v9:=Tryz.zeroValue9
 t20:=Tryz.underlying20
 a20:=Tryz.isAgg20
 z20:=Tryz.sizeOf20
 v20:=Tryz.zeroValue20
 t31:=Tryz.underlying24
 a31:=Tryz.isAgg24
 z31:=Tryz.sizeOf24
 v31:=Tryz.zeroValue24
 t37:=Tryz.underlying42
 a37:=Tryz.isAgg42
 z37:=Tryz.sizeOf42
 v37:=Tryz.zeroValue42
 t70:=Tryz.underlying318
 a70:=Tryz.isAgg318
 z70:=Tryz.sizeOf318
 v70:=Tryz.zeroValue318
 t72:=Tryz.underlying320
 a72:=Tryz.isAgg320
 z72:=Tryz.sizeOf320
 v72:=Tryz.zeroValue320
 t75:=Tryz.underlying322
 a75:=Tryz.isAgg322
 z75:=Tryz.sizeOf322
 v75:=Tryz.zeroValue322
 t76:=Tryz.underlying323
 a76:=Tryz.isAgg323
 z76:=Tryz.sizeOf323
 v76:=Tryz.zeroValue323
 t127:=Tryz.underlying373
 a127:=Tryz.isAgg373
 z127:=Tryz.sizeOf373
 v127:=Tryz.zeroValue373
 t164:=Tryz.underlying428
 a164:=Tryz.isAgg428
 z164:=Tryz.sizeOf428
 v164:=Tryz.zeroValue428}
def Tryz.OX:Go.Shelf.Ren:=⟨fun|41=>239|n=>n,fun|22=>350|23=>348|4=>4|n=>n,fun|n=>n⟩
def Tryz.ack:Go.Proofs.SlLaysE0.n41 Tryz.prog Tryz.OX:={
 mixed:=by kernel_rfl
 f41:=⟨"slices.Clone[[]tipstaff/api.Half,tipstaff/api.Half]",by decide,Tryz.func239.trans (congrArg some (by kernel_rfl))⟩
 t4:=Tryz.underlying4
 a4:=Tryz.isAgg4
 z4:=Tryz.sizeOf4
 v4:=Tryz.zeroValue4
 t22:=Tryz.underlying350
 a22:=Tryz.isAgg350
 z22:=Tryz.sizeOf350
 v22:=Tryz.zeroValue350}
def Tryz.M9:Go.Shelf.Ren:=⟨fun|41=>217|n=>n,fun|22=>24|23=>9|4=>4|n=>n,fun|n=>n⟩
def Tryz.YX:Go.Proofs.SlLaysE0.n41 Tryz.prog Tryz.M9:={
 mixed:=by kernel_rfl
 f41:=⟨"slices.Clone[[]string,string]",by decide,Tryz.func217.trans (congrArg some (by kernel_rfl))⟩
 t4:=Tryz.underlying4
 a4:=Tryz.isAgg4
 z4:=Tryz.sizeOf4
 v4:=Tryz.zeroValue4
 t22:=Tryz.underlying24
 a22:=Tryz.isAgg24
 z22:=Tryz.sizeOf24
 v22:=Tryz.zeroValue24}
def Tryz.TC:Go.Shelf.Ren:=⟨fun|4=>341|n=>n,fun|22=>350|25=>348|3=>3|4=>4|9=>9|20=>20|0=>0|n=>n,fun|n=>n⟩
def Tryz.lG5:Go.Proofs.Lays8.n4 Tryz.prog Tryz.TC:={
 mixed:=by kernel_rfl
 f4:=⟨"slices.Grow[[]tipstaff/api.Half,tipstaff/api.Half]",by decide,Tryz.func341.trans (congrArg some (by kernel_rfl))⟩
 t0:=Tryz.underlying0
 a0:=Tryz.isAgg0
 z0:=Tryz.sizeOf0
 v0:=Tryz.zeroValue0
 t3:=Tryz.underlying3
 a3:=Tryz.isAgg3
 z3:=Tryz.sizeOf3
 v3:=Tryz.zeroValue3
 t4:=Tryz.underlying4
 a4:=Tryz.isAgg4
 z4:=Tryz.sizeOf4
 v4:=Tryz.zeroValue4
 t9:=Tryz.underlying9
 a9:=Tryz.isAgg9
 z9:=Tryz.sizeOf9
 v9:=Tryz.zeroValue9
 t20:=Tryz.underlying20
 a20:=Tryz.isAgg20
 z20:=Tryz.sizeOf20
 v20:=Tryz.zeroValue20
 t22:=Tryz.underlying350
 a22:=Tryz.isAgg350
 z22:=Tryz.sizeOf350
 v22:=Tryz.zeroValue350}
def Tryz.TD:Go.Shelf.Ren:=⟨fun|4=>364|n=>n,fun|22=>291|25=>52|3=>3|4=>4|9=>9|20=>20|0=>0|n=>n,fun|n=>n⟩
def Tryz.lG4:Go.Proofs.Lays8.n4 Tryz.prog Tryz.TD:={
 mixed:=by kernel_rfl
 f4:=⟨"slices.Grow[[]tipstaff/api.Atom,tipstaff/api.Atom]",by decide,Tryz.func364.trans (congrArg some (by kernel_rfl))⟩
 t0:=Tryz.underlying0
 a0:=Tryz.isAgg0
 z0:=Tryz.sizeOf0
 v0:=Tryz.zeroValue0
 t3:=Tryz.underlying3
 a3:=Tryz.isAgg3
 z3:=Tryz.sizeOf3
 v3:=Tryz.zeroValue3
 t4:=Tryz.underlying4
 a4:=Tryz.isAgg4
 z4:=Tryz.sizeOf4
 v4:=Tryz.zeroValue4
 t9:=Tryz.underlying9
 a9:=Tryz.isAgg9
 z9:=Tryz.sizeOf9
 v9:=Tryz.zeroValue9
 t20:=Tryz.underlying20
 a20:=Tryz.isAgg20
 z20:=Tryz.sizeOf20
 v20:=Tryz.zeroValue20
 t22:=Tryz.underlying291
 a22:=Tryz.isAgg291
 z22:=Tryz.sizeOf291
 v22:=Tryz.zeroValue291}
def Tryz.Va:Builder.Extra Tryz.prog Tryz.Gs where
 sizeBuilder:=by kernel_rfl
 liesBuilder:=by kernel_rfl
 t5:=Tryz.underlying5
 a5:=Tryz.isAgg5
 z5:=Tryz.sizeOf5
 v5:=Tryz.zeroValue5
 infoByte:=by kernel_rfl
 cellsByte:=by kernel_rfl
 sizeByte:=by kernel_rfl
 neB5:=by decide
end Go.Proofs
namespace Go.Ac.S4
open Go Go.Proofs Go.Proofs.Tryz Go.Ac
set_option maxRecDepth 100000
def KW{P:Program}{f:Nat->Nat}{O:Nat->Prop}{G:Gh}{heap:List Bx}{d w:World}(k:Inv P d f O G heap w)(l:List By)(t:TypeId):
  ∃c,Inv P d f O c heap (w.alloc (.cells (l.map fun s=>Value.string ⟨s.toArray⟩).toArray t))/\aL c [] (w.alloc (.cells (l.map fun s=>Value.string ⟨s.toArray⟩).toArray t)) (.slice (some ⟨w.heap.size,0,none⟩) l.length l.length) (vL 1 (aR l))/\∀b,G.bz b->c.bz b/\c.val b=G.val b:=by
 have g:RowKit.Below w.heap.size w (w.alloc (.cells (l.map fun s=>Value.string ⟨s.toArray⟩).toArray t)):=(RowKit.Below.refl _ _).alloc (ar _) _
 refine⟨oy G w w.heap.size l.length false,pd k g ⟨ar _,.inl (by rw[size_alloc];omega)⟩,.v ?_,fun b h=>⟨h,rfl⟩⟩
 have n:(oy G w w.heap.size l.length false).bQ w.heap.size=l.length:=by
  show(if w.heap.size<w.heap.size then G.bQ w.heap.size else if w.heap.size=w.heap.size then l.length else 0)=l.length
  rw[aI (by omega),aF rfl]
 have e:∀i j p,jI (aR l) i j=some p->j=0/\∃s,l[i]?=some s/\p=S s:=fun i j p h=>by
  unfold jI aR at h;rw[bp]at h;cases hq:l[i]? with
  |none=>rw[hq]at h;simp at h
  |some s=>
   rw[hq]at h;cases j with
   |zero=>simp[Gq]at h;exact⟨rfl,s,rfl,h.symm⟩
   |succ j=>simp[Gq]at h
 refine .sl w.heap.size 0 l.length l.length 1 (aR l) (fun i _=>.string ⟨(l.getD i []).toArray⟩) (by simp[aR]) (ar _) (fun r m=>by
  obtain⟨s,_,rfl⟩:=bg.1 m;rfl) (fun i j p h=>?_) fun i j p h=>?_
 .obtain⟨rfl,s,a,rfl⟩:=e i j p h
  have o:i<l.length:=(aE.1 a).1;refine⟨?_,by rw[n];omega⟩
  rw[show 0+i*1+0=i by omega,yn]
  rw[bS,a];simp[a]
 .obtain⟨rfl,s,a,rfl⟩:=e i j p h
  rw[bS,a];exact Jj s
def yV(c:UInt8):∀s:By,Lib.splitK [c] 0 (Lib.count s [c]) s=splitB c s
 |[]=>rfl
 |d::t=>by
  have b:=yV c t;by_cases h:d=c
  .subst h
   rw[Lib.count_cons_eq,oc];unfold Lib.splitK;have e:Lib.index (d::t) [d]=0:=by simp[Lib.index]
   rw[e];simp only[splitB,beq_self_eq_true,aj];rw[<-b];rfl
  .rw[Lib.count_cons_ne _ _ _ h]
   have i:(d==c)=false:=by simpa using h
   have e:Lib.index (d::t) [c]=if Lib.index t [c]== -1 then -1 else Lib.index t [c]+1:=by
    show(if List.isPrefixOf [c] (d::t)then 0 else if Lib.index t [c]== -1 then -1 else Lib.index t [c]+1)=_
    rw[aI (by simp[List.isPrefixOf];exact fun e=>h e.symm)]
   simp only[splitB,i,af,<-b];have j:=Lib.index_ge t [c];cases hk:Lib.count t [c]with
   |zero=>rfl
   |succ k=>
    unfold Lib.splitK;rw[e];by_cases a:Lib.index t [c]= -1
    .rw[a];rfl
    .have f:(Lib.index t [c]== -1)=false:=by simpa using a
     have g:(Lib.index t [c]+1 == -1)=false:=by rw[fo];omega
     rw[f];simp only[jO,if_false,g];have:(Lib.index t [c]+1).toNat=(Lib.index t [c]).toNat+1:=by omega
     rw[this];simp only[hE,xy];rw[show(Lib.index t [c]).toNat+1+[c].length=((Lib.index t [c]).toNat+[c].length)+1 by simp,rK]
def acm(s:By)(c:UInt8)(y:s.length<=2^31):ak 131 [vS s,vS [c]] [] [vL 1 (aR (splitB c s))] []:=by
 constructor
 intro w t O z a n;obtain⟨v,u,rfl,i,j⟩:=KO n;rw[KP i,KP j];obtain⟨m,l,-⟩:=a.frame.Bq.num;have k:=Any.strings_Split Tryz.aci (by kernel_rfl) ⟨s.toArray⟩ ⟨[c].toArray⟩ m w (by show s.toArray.size<_;simp;omega) l (by show 1<=[c].toArray.size;simp)
 have e:=Lib.splitB_data ⟨[c].toArray⟩ 0 (Lib.countB ⟨s.toArray⟩ ⟨[c].toArray⟩) ⟨s.toArray⟩;have d:Lib.splitK [c] 0 (Lib.count s [c]) s=splitB c s:=yV c s;have e:(Lib.splitB ⟨[c].toArray⟩ 0 (Lib.countB ⟨s.toArray⟩ ⟨[c].toArray⟩) ⟨s.toArray⟩).map (·.data.toList)=splitB c s:=e.trans d
 have f:(Lib.splitB ⟨[c].toArray⟩ 0 (Lib.countB ⟨s.toArray⟩ ⟨[c].toArray⟩) ⟨s.toArray⟩).map Value.string=(splitB c s).map fun s=>Value.string ⟨s.toArray⟩:=by
  rw[<-e,dE];exact rL fun x _=>rfl
 have g:Lib.countB ⟨s.toArray⟩ ⟨[c].toArray⟩+1=(splitB c s).length:=by
  rw[<-e,ao];exact(Lib.splitB_all ⟨[c].toArray⟩ (by show 1<=[c].toArray.size;simp) 0 _ ⟨s.toArray⟩ rfl).symm
 rw[f,g]at k;refine ek (enters_of func131 rfl rfl) k ?_;rintro e w' ⟨rfl,rfl⟩;obtain⟨b,o,p,q⟩:=KW a (splitB c s) 9;exact⟨_,rfl,b,_,o,dO p,rfl,q⟩
def WE:∀c:Nat,c<256->IG c=if Lib.isSp (UInt8.ofNat c)then 1 else 0:=by decide
def vJ:∀(s a:By),s.all (fun c=>c==32||(97<=c&&c<=122))=true->a.all (fun c=>c !=32)=true->Lib.fieldsGo a s=(splitB 32 (a++s)).filter (· != [])
 |[],a,_,e=>by
  have:splitB 32 a=[a]:=by
   induction a with
   |nil=>rfl
   |cons d t f=>
    rw[bE,bU]at e;have i:(d==32)=false:=by simpa using e.1
    simp only[splitB,i,af,f e.2]
  rw[eG,this];cases a<;>simp[Lib.fieldsGo]
 |b::l,a,h,e=>by
  rw[bE,bU]at h;have key:∀a:By,a.all (fun c=>c !=32)=true->splitB 32 (a++32::l)=a::splitB 32 l:=by
   intro a;induction a with
   |nil=>intro _;simp[splitB]
   |cons d t f=>
    intro e;rw[bE,bU]at e;have i:(d==32)=false:=by simpa using e.1
    rw[di];simp only[splitB,i,af,f e.2]
  cases hb:b==32
  .have g:Lib.isSp b=false:=by
    have j:=h.1;rw[hb,mj,bU,fm,fm,xG,xG]at j;have m:97<=b.toNat:=j.1;have n:∀k:UInt8,k.toNat<97->(b==k)=false:=fun k o=>by
     rw[fo];rintro rfl;omega
    unfold Lib.isSp;rw[n 9 (by decide),n 10 (by decide),n 11 (by decide),n 12 (by decide),n 13 (by decide),n 32 (by decide)]
    rfl
   rw[Lib.fieldsGo_more a b l g,vJ l (a++[b]) h.2 (by rw[List.all_append,e];simpa using hb)]
   simp
  .obtain rfl:=eq_of_beq hb
   have g:Lib.isSp 32=true:=rfl;rw[key a e];have f:=vJ l [] h.2 rfl;rw[ea]at f;cases a with
   |nil=>rw[Lib.fieldsGo_sp _ _ g,f];rfl
   |cons x t=>rw[Lib.fieldsGo_end _ _ _ g (by simp),f];rfl
def acn(s:By)(h:s.all (fun c=>c==32||(97<=c&&c<=122))=true)(t:s.length<=2^31):ak 279 [vS s] [] [vL 1 (aR (je s))] []:=by
 constructor
 intro w q O u d m;obtain⟨v,rfl,g⟩:=KN m;rw[KP g];have k:=Any.strings_Fields_core Tryz.acj (by kernel_rfl) ⟨s.toArray⟩ w (by show s.toArray.size<_;simp;omega) (fun j b i=>by
  have:=bf.1 h b (aK i);rw[gu,bU,fm,fm,xG,xG]at this;rcases this with h|h
  .rw[eq_of_beq h];decide
  .have:b.toNat<=122:=h.2
   omega) (fun c a=>by rw[<-WE c a];exact(d.frame.Bq.YF c a).1)
 have e:Lib.fields s=je s:=by
  have:=vJ s [] h rfl;rw[ea]at this;exact this
 have k:Calls Tryz.prog 279 #[.string ⟨s.toArray⟩] w fun e w'=>e = .returned (.slice (some ⟨w.heap.size,0,none⟩) (Lib.fields s).length (Lib.fields s).length)/\w'=w.alloc (.cells ((Lib.fields s).map fun l=>Value.string ⟨l.toArray⟩).toArray 9):=k
 rw[e]at k;refine ek (enters_of func279 rfl rfl) k ?_;rintro e w' ⟨rfl,rfl⟩;obtain⟨f,n,o,p⟩:=KW d (je s) 9;exact⟨_,rfl,f,_,n,dO o,rfl,p⟩
end Go.Ac.S4
end
section
namespace Go.Ac.S4
open Go Go.Proofs Go.Proofs.Tryz Go.Ac
set_option maxRecDepth 100000
def yW{c:Nat->Nat}{w:World}{v:Value}{n:Nat}{al:List (List PV)}(h:bW c w v (.sl n al)):∃A cap,v = .slice A al.length cap/\al.length<=cap /\
  ((A=none/\al=[]/\cap=0)\/(∃a,A=some a/\al=[]/\cap=0)\/∃b off,A=some ⟨b,off,none⟩/\∃u:Nat->Nat->Value,(∀r∈al,r.length=n)/\∀i j p,jI al i j=some p->w.cell? ⟨b,off+i*n+j,none⟩=some (u i j)/\off+i*n+j<c b/\bW c w (u i j) p):=by
 cases h with
 |mw=>exact⟨none,0,rfl,ar _,.inl ⟨rfl,rfl,rfl⟩⟩
 |Is a=>exact⟨_,0,rfl,ar _,.inr (.inl ⟨a,rfl,rfl,rfl⟩)⟩
 |sl b off len cap _ _ u f e k d g=>subst f;exact⟨_,cap,rfl,e,.inr (.inr ⟨b,off,rfl,u,k,fun i j p h=>⟨(d i j p h).1,(d i j p h).2,g i j p h⟩⟩)⟩
def vK(c:UInt8):∀l:List By,ll c l=Lib.join l [c]
 |[]=>rfl
 |[x]=>(Lib.join_one x [c]).symm
 |x::y::t=>by
  have a:=vK c (y::t);rw[Lib.join_cons]at a⊢;show x++c::ll c (y::t)=_
  rw[a];simp[Lib.joinTail]
def Gt(c:UInt8):∀l:List By,(ll c l).length<=gM l+l.length
 |[]=>by simp[ll]
 |[x]=>by simp[ll,gM]
 |x::y::t=>by
  have a:=Gt c (y::t);simp only[gM,bB,eF,aC]at a⊢;show(x++c::ll c (y::t)).length<=_
  rw[de,aC];omega
def aco(l:List By)(c:UInt8)(Y:l.length<=2^40)(Z:gM l<=2^40):ak 132 [vL 1 (aR l),vS [c]] [] [vS (ll c l)] []:=by
 constructor
 intro w i O F y I;obtain⟨v,u,rfl,o,D⟩:=KO I;rw[KP D];have X:=Gt c l;have J:(aR l).length=l.length:=ao ..;cases o with
 |v o=>
 obtain⟨A,cap,rfl,T,H⟩:=yW o;have fin:∀w',RowKit.Below w.heap.size w w'->∃a r,Inv Tryz.prog w i.bQ O a [] w'/\lj a (cq [vS (ll c l)]) w' r [vS (ll c l)]/\Value.string ⟨(ll c l).toArray⟩=ur r/\∀b,i.bz b->a.bz b/\a.val b=i.val b:=fun w' f=>
  ⟨_,[_],pd y f (g:=w'.heap.size) (m:=0) (own:=false) ⟨f.size,.inr ⟨rfl,rfl⟩⟩,dO (.v (Jj _)),rfl,fun b h=>⟨h,rfl⟩⟩
 by_cases d:l=[]
 .subst d
  refine ek (enters_of func132 rfl rfl) (Any.strings_Join_none Tryz.YW Tryz.Va A cap ⟨[c].toArray⟩ w) ?_;rintro e w' ⟨rfl,rfl⟩;exact⟨_,rfl,fin w' (.refl _ _)⟩
 .rcases H with⟨-,h,-⟩|⟨_,-,h,-⟩|⟨b,off,rfl,u,R,Q⟩
  .exact(d (List.map_eq_nil_iff.1 h)).elim
  .exact(d (List.map_eq_nil_iff.1 h)).elim
  .have K:∀j s,l[j]?=some s->jI (aR l) j 0=some (S s):=fun j s h=>by
    unfold jI aR;rw[bp,h];rfl
   have z:∀j s,l[j]?=some s->w.cell? ⟨b,off+j,none⟩=some (.string ⟨s.toArray⟩)/\b<w.heap.size:=fun j s h=>by
    obtain⟨q,E,G⟩:=Q j 0 _ (K j s h);rw[lG G,show off+j*1+0=off+j by omega]at q
    exact⟨q,y.IM E⟩
   have M:b<w.heap.size:=by
    obtain⟨s,t,rfl⟩:=List.exists_cons_of_ne_nil d;exact(z 0 s rfl).2
   have n:(l.map fun s=>(⟨s.toArray⟩:ByteArray)).length=l.length:=ao ..
   have p:(l.map fun s=>(⟨s.toArray⟩:ByteArray)).map (fun x=>x.data.toList)=l:=by
    rw[dE];exact(rL fun x _=>rfl).trans (List.map_id l)
   have k:=Any.strings_Join Tryz.YW Tryz.Va b off cap (l.map fun s=>⟨s.toArray⟩) ⟨[c].toArray⟩ w (fun j x h=>by
    rw[bp]at h;cases hq:l[j]? with
    |none=>rw[hq]at h;simp at h
    |some s=>rw[hq]at h;simp at h;subst h;exact(z j s hq).1) M (by rw[n];omega) (by rw[n];omega) (by
     rw[p];show(Lib.join l [c]).length<=_
     rw[<-vK];omega)
   rw[n,p,show Lib.join l (⟨[c].toArray⟩:ByteArray).data.toList=ll c l from(vK c l).symm]at k
   rw[J];refine ek (enters_of func132 rfl rfl) k ?_;rintro e w' ⟨rfl,f⟩;exact⟨_,rfl,fin w' f⟩
open Go.RowKit Go.Shelf Go.Lib in
set_option maxHeartbeats 1000000 in
theorem Gu{P:Program}{ρ:Shelf.Ren}(L:SlLaysE0.n41 P ρ)(b:TypeInfo)(z:Value)(size bytes:Nat)(m:P.info? (ρ.t 23)=some b)(s:b.zero=some z)(t:b.size=size)(v:b.bytes=bytes)(x:z.cells.size=size)(q:0<size)
  (X:∀w,(Go.sizeOf (ρ.t 23)).run P w = .ok size w)(a:Addr)(c:Nat)(w:World):
  Calls P (ρ.f 41) #[.slice (some a) 0 c] w fun e w'=>∃d,e = .returned d/\w'.ownsRow w.heap.size (ρ.t 23) size d 0 []/\d≠.slice none 0 0/\Below w.heap.size w w':=by
 have mixed:=L.mixed;have E:=L.t4;have D:=L.a4;have I:=L.z4;have G:=L.v4;have i:=L.t22;have J:=L.a22;have T:=L.z22;have Q:=L.v22;have K:∀(w:World)(a:Option Addr)(n c g f:Nat),(binOp .eql (ρ.t 22) (.slice a n c) (.slice none g f)).run P w = .ok (.bool a.isNone) w:=fun w a n c g f=>Lib.run_eql_slice_nil w _ _ a n c g f L.t22
 have M:∀w,Sem.run P (underlying (ρ.t 22)) w = .ok (TypeDesc.slice (ρ.t 23)) w:=run_underlying i;obtain⟨_,_,l⟩:=L.f41;go_enter l,SlBodyN.n41_ntmps ρ
 go_wp2_with (at_builtin;refine wpList_append_own _ rfl _ _ (ρ.t 22) rfl w.heap.size (ρ.t 23) b z size bytes i m s t v x q _ _ _ rfl (World.ownsRow_made w #[] 0 (ar _) (dD _) (by simp)) a 0 c [] rfl ?qc1 ?qc2 ?qc3 ?qc4 ?qc5 ?qc6 ?_)
 case qc1=>simp
 case qc2=>intro j u o;simp at o
 case qc3=>simp
 case qc4=>simp
 case qc5=>simp
 case qc6=>simp
 intro d H h r y;go_wp2
 go_ret
 refine⟨d,rfl,by simpa using h,?_,?_⟩
 .exact y
 .exact((Below.refl _ w).alloc (ar _) _).grown r (by simp) (by intro k p;simp[Value.ownBlock]at p;omega)
def Gv{ρ:Shelf.Ren}(L:SlLaysE0.n41 Tryz.prog ρ)(y:Yq (ρ.f 41)){n bytes:Nat}{f:TypeInfo}{z:Value}(Y:Tryz.prog.info? (ρ.t 23)=some f)(T:f.zero=some z)(Q:f.size=n)(M:f.bytes=bytes)(R:z.cells.size=n)(s:0<n)
  (F:∀w,(Go.sizeOf (ρ.t 23)).run Tryz.prog w = .ok n w)(l:Rw)(hl:l.length*bytes<=140737488355328)(a2:l.length<=2^40):ak (ρ.f 41) [vL n l] [] [.own 0 0 n l] []:=by
 constructor
 intro w G0 O vs D hr;obtain⟨v,rfl,t⟩:=KN hr;cases t with
 |v t=>
 obtain⟨A,cap,rfl,hc,hA⟩:=yW t;rcases hA with⟨rfl,rfl,rfl⟩|⟨a,rfl,rfl,rfl⟩|⟨b,off,rfl,u,H,I⟩
 .refine ek y (AnyE.slices_Clone_nil L 0 0 w) ?_
  rintro e w' ⟨rfl,rfl⟩;obtain⟨g,m,X,o,q⟩:=xQ D (.refl _ w') (e:=ρ.t 23) (n:=n) (len:=0) (v:=.slice none 0 0) (xs:=[]) ⟨by simp,.inl ⟨rfl,rfl⟩⟩ (al:=[]) rfl (by simp) (fun i j p h=>by simp[jI]at h)
  exact⟨_,rfl,g,[_],m,dO o,rfl,q⟩
 .refine ek y (Gu L f z n bytes Y T Q M R s F a 0 w) ?_
  rintro e w' ⟨v',rfl,ho,-,YN⟩;obtain⟨g,m,X,o,q⟩:=xQ D YN ho (al:=[]) rfl (by simp) (fun i j p h=>by simp[jI]at h)
  exact⟨_,rfl,g,[_],m,dO o,rfl,q⟩
 .have Z:∀k,k<l.length*n->∃p,jI l (k/n) (k%n)=some p:=fun k d=>by
   have c:k/n<l.length:=(Nat.div_lt_iff_lt_mul s).2 d;have J:(l[k/n]).length=n:=H _ (gv c);have K:k%n<(l[k/n]).length:=by rw[J];exact Nat.mod_lt _ s
   refine⟨(l[k/n])[k%n],?_⟩;unfold jI;rw[bk c];simp[K]
  have a1:∀k,k/n*n+k%n=k:=fun k=>by rw[kY];exact Nat.div_add_mod k n
  let news:=(List.range (l.length*n)).map fun k=>u (k/n) (k%n)
  have a0:∀k x,news[k]?=some x->k<l.length*n/\x=u (k/n) (k%n):=fun k x h=>by
   have h:((List.range (l.length*n)).map fun k=>u (k/n) (k%n))[k]?=some x:=h
   rw[bp]at h;rcases bR k (l.length*n)with d|d
   .rw[lR d]at h
    simp at h;exact⟨d,h.symm⟩
   .rw[ee (by simpa using d)]at h;simp at h
  have k:=AnyE.slices_Clone L f z n bytes Y T Q M R s F b off l.length cap news w (by show((List.range (l.length*n)).map _).length=_;simp) (by unfold maxLen;omega) hl (fun j x h=>by
   obtain⟨c,rfl⟩:=a0 j x h;obtain⟨p,E⟩:=Z j c;have:=(I _ _ _ E).1;rw[gp,a1]at this;exact this) (fun x hx=>by
   obtain⟨j,hj⟩:=Dc hx;obtain⟨c,rfl⟩:=a0 j x hj;obtain⟨p,E⟩:=Z j c;exact(I _ _ _ E).2.2.fM)
  refine ek y k ?_;rintro e w' ⟨v',rfl,ho,-,YN⟩;obtain⟨g,m,X,o,q⟩:=xQ D YN ho (al:=l) rfl H (fun i j p h=>by
   have G:i*n+j<l.length*n/\j<n:=by
    unfold jI at h;cases hq:l[i]? with
    |none=>rw[hq]at h;simp at h
    |some r=>
     rw[hq]at h;have c:r[j]?=some p:=h;have J:=H r (aK hq);have K:=(aE.1 c).1;have h6:=(aE.1 hq).1;have h7:(i+1)*n<=l.length*n:=dt _ h6;rw[bY]at h7;omega
   refine⟨u i j,?_,(I i j p h).2.2⟩;show((List.range (l.length*n)).map fun k=>u (k/n) (k%n))[i*n+j]?=_
   rw[bp,lR G.1];have e1:(i*n+j)/n=i:=by rw[kY,Nat.mul_add_div s,Nat.div_eq_of_lt G.2];omega
   have e2:(i*n+j)%n=j:=by rw[kY,Nat.mul_add_mod,mo G.2]
   simp[e1,e2])
  exact⟨_,rfl,g,[_],m,dO o,rfl,q⟩
def KX{ρ:Shelf.Ren}(L:Lays8.n4 Tryz.prog ρ)(d:Yq (ρ.f 4)){n bytes:Nat}{c:TypeInfo}{z:Value}(Q:Tryz.prog.info? (ρ.t 25)=some c)(G:c.zero=some z)(Z:c.size=n)(y:c.bytes=bytes)(Y:z.cells.size=n)(a0:0<n)
  (m:Int)(q:0<=m/\m<=2^41)(D:m*bytes<=140737488355328):ak (ρ.f 4) [.v .nil,vN m] [] [.own 0 0 n []] []:=by
 obtain⟨m,rfl⟩:=iq q.1;constructor
 intro w o O A f E;obtain⟨v,u,rfl,s,t⟩:=KO E;rw[KQ t];have e:v = .slice none 0 0:=by
  cases s with
  |v h=>cases h;rfl
 subst e;have T:m*bytes<=140737488355328:=Int.ofNat_le.1 (by rw[Int.natCast_mul];exact D)
 by_cases r:m=0
 .subst r
  refine ek d (Any8.slices_Grow_room L none 0 0 0 w (ar _) (by omega) (by omega) (ar _)) ?_
  rintro e w' ⟨rfl,rfl⟩;obtain⟨l,H,F,I,J⟩:=xQ f (.refl _ w') (e:=ρ.t 25) (n:=n) (len:=0) (v:=.slice none 0 0) (xs:=[]) ⟨(Nat.zero_mul n).symm,.inl ⟨rfl,rfl⟩⟩ (al:=[]) rfl (by simp) (fun i j p h=>by simp[jI]at h)
  exact⟨_,rfl,l,[_],H,dO I,rfl,J⟩
 .have k:=Any8.slices_Grow_grow L c z Q G (by omega) none 0 0 m [] w (ar _) (by omega) (by rw[y,cr];exact T) (by omega) (by simp) (fun _=>rfl) (fun a h=>by simp at h)
  have R:=grownCap_ge w (0+m) 0 (ρ.t 25);refine ek d k ?_;rintro e w' ⟨rfl,hw⟩;generalize x:([]:List Value).toArray++Builtin.zeroCells z.cells (0+m-0)++Builtin.zeroCells z.cells (grownCap w (0+m) 0 (ρ.t 25)-(0+m))=X at hw;have K:grownCap w (0+m) 0 (ρ.t 25)*n<=X.size:=by
   rw[<-x];simp[Builtin.zeroCells,Y];rw[<-bY];exact dt _ (by omega)
  subst hw;have M:RowKit.Below w.heap.size w (w.drew.alloc (.cells X (ρ.t 25))):=((RowKit.Below.refl _ _).drew).alloc (ar _) _;refine⟨_,rfl,_,[_],pd f M (g:=w.heap.size) (m:=0) (own:=true) ⟨ar _,.inl (by rw[size_alloc];exact Nat.lt_succ_self _)⟩,dO (.own Nat.zero_lt_one (fun m _=>dD m) (.sl w.heap.size 0 0 _ n [] (fun _ _=>undef) rfl (dD _) (by simp) (fun i j p h=>by simp[jI]at h) fun i j p h=>by simp[jI]at h) fun _ _=>
   ⟨w.heap.size,0,X,ρ.t 25,rfl,rfl,?_,heap_alloc_new w.drew _,by rw[cr];exact K⟩),rfl,fun b h=>⟨h,rfl⟩⟩
  show(if w.heap.size<w.heap.size then o.bQ w.heap.size else if w.heap.size=w.heap.size then 0 else 0)=0+0*n
  rw[aI (by omega),aF rfl]
  omega
def xR{t:TypeId}{n bytes:Nat}(h:((Tryz.prog.info? t).map fun i=>(i.zero.map fun z=>z.cells.size,i.size,i.bytes))=some (some n,n,bytes)):∃b z,Tryz.prog.info? t=some b/\b.zero=some z/\b.size=n/\b.bytes=bytes/\z.cells.size=n:=by
 cases h1:Tryz.prog.info? t with
 |none=>rw[h1]at h;simp at h
 |some i=>
  rw[h1]at h;simp only[cP,aw,ax]at h;obtain⟨a,c,d⟩:=h;cases h5:i.zero with
  |none=>rw[h5]at a;simp at a
  |some z=>rw[h5]at a;simp at a;exact⟨i,z,rfl,h5,c,d,a⟩
def acp(n:Int)(h:0<=n/\n<=2^41):ak 341 [.v .nil,vN n] [] [.own 0 0 5 []] []:=by
 obtain⟨f,z,a,b,c,d,e⟩:=xR (t:=348) (n:=5) (bytes:=32) (by kernel_rfl)
 exact KX Tryz.lG5 (enters_of func341 rfl rfl) a b c d e (by omega) n h (by omega)
def acq(n:Int)(h:0<=n/\n<=2^41):ak 364 [.v .nil,vN n] [] [.own 0 0 4 []] []:=by
 obtain⟨f,z,a,b,c,d,e⟩:=xR (t:=52) (n:=4) (bytes:=32) (by kernel_rfl)
 exact KX Tryz.lG4 (enters_of func364 rfl rfl) a b c d e (by omega) n h (by omega)
def acr(l:Rw)(f:l.length<=2^40):ak 239 [vL 5 l] [] [.own 0 0 5 l] []:=by
 obtain⟨g,z,a,b,c,d,e⟩:=xR (t:=348) (n:=5) (bytes:=32) (by kernel_rfl)
 exact Gv Tryz.ack (enters_of func239 rfl rfl) a b c d e (by omega) Tryz.sizeOf348 l (by omega) f
def YY(l:Rw)(f:l.length<=2^40):ak 217 [vL 1 l] [] [.own 0 0 1 l] []:=by
 obtain⟨g,z,a,b,c,d,e⟩:=xR (t:=9) (n:=1) (bytes:=16) (by kernel_rfl)
 exact Gv Tryz.YX (enters_of func217 rfl rfl) a b c d e (by omega) Tryz.sizeOf9 l (by omega) f
end Go.Ac.S4
end
