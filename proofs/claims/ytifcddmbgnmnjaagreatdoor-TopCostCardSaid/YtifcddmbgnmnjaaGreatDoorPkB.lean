/-
Lemmas2
-/
import Derived.Test.YtifcddmbgnmnjaaGreatDoorPkA
import Derived.Orders
import Derived.Below
import Derived.ChangeArms
import GoSem.ClaimJoined
import Derived.Test.YtifcddmbgnmnjaaGreatDoorProg
import Derived.Laws.AppendOwn
import Derived.Shelf.SlIterI.Collect
import Derived.RangeFuncBound
import Derived.Shelf.Strings.Prefix
import Derived.Shelf.Small.Strs
import Derived.Shelf.Small.Wraps
import Derived.Shelf.Strings.Count
import Derived.Shelf.Strings.LastIndexAll
import Derived.Shelf.Strings.Search3
import Derived.Shelf.Bits.Mul64
import Derived.Shelf.Spec.BitsCarry
import Derived.Shelf.Strings.Split
import Derived.Shelf.Strings.Fields
import Derived.Shelf.Strings.OnBuilder
import Derived.Shelf.SlicesE.Clone
import Derived.Shelf.SlicesG.Clone
import Derived.Shelf.Spec.SlicesGrow
set_option linter.all false
set_option autoImplicit true
set_option relaxedAutoImplicit true
section
namespace Go.Ac
open Go
set_option maxRecDepth 100000
section
variable {P:Program} {w0:World} {aR:Nat->Nat} {O:Nat->Prop} {G:Gh} {ae:List (Option Nat)} {heap:List Bx} {w:World}
def P6(a:List Nat)(nb nt:Nat):Hd->Hd
 |.box i=>.box (Jp a nb i)
 |.cell i j=>.cell (Jp a nb i) j
 |.ov i k=>.ov (Jp a nb i) k
 |.tok q=>.tok (nt+q)
def Wg(h:oV b nb m nt bF x=some z):x=P6 b nb nt z:=by
 cases x<;>simp only[oV]at h
 .obtain⟨i,a,rfl⟩:=bc.1 h
  simp[P6,(LQ a).1]
 .obtain⟨i,a,rfl⟩:=bc.1 h
  simp[P6,(LQ a).1]
 .obtain⟨i,a,rfl⟩:=bc.1 h
  simp[P6,(LQ a).1]
 .split at h<;>try(simp at h;done)
  rename_i c;obtain rfl:=ax h;simp only[P6];congr 1
  omega
def P7(x y z:Hd)(b:oV a nb m nt bF x=some z)(c:oV a nb m nt bF y=some z):x=y:=(Wg b).trans (Wg c).symm
def zl(j:Inv P w0 aR O G heap w)(d:oV e nb m nt bF x=none)(l:∀t,x = .tok t->some t∉dv)(k:G.h x=some n):¬ ∃y,(G.pK e dv).h y=some n:=by
 rintro⟨y,o⟩;obtain⟨z,g,p⟩:=cV.1 o;obtain rfl:=j.inj _ _ _ k p;have f:∀i b:Nat,e[i]?=some b->BP e nb m b≠none:=fun i b h=>by
  unfold BP;rw[aG (aK h)];simp
 cases y<;>simp only[lf,bc]at g<;>obtain⟨a,c,rfl⟩:=g<;>simp only[oV,Option.map_eq_none_iff]at d
 .exact f _ _ c d
 .exact f _ _ c d
 .exact f _ _ c d
 .rw[Option.join_eq_some_iff]at c
  exact l _ rfl (aK c)
def Inv.N9(a:Inv P w0 aR O G heap w)(c:Inv P w G.bX (fun n=>∃x,(G.pK g dv).h x=some n) e m w'):m4 w0 aR O w' e.bX:=by
 refine⟨dX a.frame.size c.frame.size,c.frame.os.trans a.frame.os,c.frame.tape.trans a.frame.tape,c.frame.output.trans a.frame.output,fun b d f=>?_,a.frame.grow.trans c.frame.grow,c.frame.xr,a.frame.laid⟩
 have p:¬ ∃x,(G.pK g dv).h x=some b:=by
  rintro⟨y,o⟩;obtain⟨z,s,q⟩:=cV.1 o;exact f ((a.nO _ _ q).2 d)
 obtain⟨i,j⟩:=c.frame.Ej b (gL d a.frame.size) p;obtain⟨k,l⟩:=a.frame.Ej b d f;exact⟨i.trans k,j.trans l⟩
def Inv.Ur(d:Inv P w0 aR O G heap w){hF:List (Option Nat)}{nb m:Nat}(k:Inv P w G.bX (fun n=>∃x,(G.pK a dv).h x=some n) c H w'):
  (∀x y n,(G.back c a dv nb m ae.length bF).h x=some n->(G.back c a dv nb m ae.length bF).h y=some n->x=y)/\
  (∀x n,(G.back c a dv nb m ae.length bF).h x=some n->n<w'.heap.size/\(n<w0.heap.size->O n)):=by
 have p:∀x n,(G.back c a dv nb m ae.length bF).h x=some n->(∃y,oV a nb m ae.length bF x=some y/\c.h y=some n)\/(oV a nb m ae.length bF x=none/\G.h x=some n/\∀t,x = .tok t->some t∉dv):=by
  intro x n h;simp only[Gh.back]at h;cases hb:oV a nb m ae.length bF x with
  |some y=>rw[hb]at h;exact .inl ⟨y,rfl,h⟩
  |none=>
   rw[hb]at h;right
   cases x with
   |tok t=>
    simp only at h;split at h<;>try(simp at h;done)
    rename_i E;exact⟨rfl,h,fun Q e=>by simp only[Hd.tok.injEq]at e;subst e;exact fun D=>E (.inl D)⟩
   |_=>exact⟨rfl,h,fun t e=>by simp at e⟩
 have mixed:∀y n x,c.h y=some n->oV a nb m ae.length bF x=none->G.h x=some n->(∀t,x = .tok t->some t∉dv)->False:=by
  intro y n x f g q r;have l:=(d.nO _ _ q).1;exact zl d g r q ((k.nO _ _ f).2 l)
 refine⟨fun x y n f g=>?_,fun x n h=>?_⟩
 .rcases p x n f with⟨u,i,b⟩|⟨i,b,s⟩<;>rcases p y n g with⟨v,o,j⟩|⟨o,j,J⟩
  .obtain rfl:=k.inj _ _ _ b j
   exact P7 _ _ _ i o
  .exact(mixed _ _ _ b o j J).elim
  .exact(mixed _ _ _ j i b s).elim
  .exact d.inj _ _ _ b j
 .rcases p x n h with⟨u,i,b⟩|⟨i,b,s⟩
  .obtain⟨f,g⟩:=k.nO _ _ b
   refine⟨f,fun l=>?_⟩
   obtain⟨y,I⟩:=g (gL l d.frame.size);obtain⟨z,M,K⟩:=cV.1 I;exact(d.nO _ _ K).2 l
  .have:=d.nO _ _ b
   exact⟨gL this.1 k.frame.size,this.2⟩
def Inv.P8(j:Inv P w0 aR O G heap w){nb m:Nat}(k:rp ae hF dv)(o:Inv P w G.bX (fun n=>∃x,(G.pK a dv).h x=some n) d r w')(u:∀i,i<a.length->d.bD i/\d.val i=G.val (a.getD i 0))(H:∀i,i<m->heap[nb+i]?=some .free):
  cq G ae w (G.back d a dv nb m ae.length bF) (hF++new) w':=by
 have l:∀b i,G.bD b->BP a nb m b=some i->i<a.length/\a.getD i 0=b:=by
  intro b i c h;unfold BP at h;split at h
  .rename_i f
   obtain rfl:=ax h;exact⟨yO f,by rw[bR,mF f];rfl⟩
  .split at h<;>try(simp at h;done)
   rename_i J;have:=j.box _ _ (H (b-nb) (by omega))
   rw[show nb+(b-nb)=b by omega]at this
   exact absurd c this
 refine⟨o.frame.grow,fun b c=>?_,fun b c=>?_,by simp[k.len],fun t n h z=>?_⟩
 .simp only[Gh.back]
  cases hf:BP a nb m b with
  |some i=>exact(u i (l b i c hf).1).1
  |none=>exact c
 .simp only[Gh.back]
  cases hf:BP a nb m b with
  |some i=>
   show d.val i=G.val b
   rw[(u i (l b i c hf).1).2,(l b i c hf).2]
  |none=>rfl
 .rw[cj (by rw[k.len];exact z)]at h
  have I:=k.bl _ _ h;refine⟨n,I,.inr ⟨rfl,fun b g=>?_⟩⟩
  have s:some t∉dv:=by
   intro f;obtain⟨q,D⟩:=sD.1 f;have:=(k.gone _ _ D).2;rw[h]at this;simp at this
  have p:oV a nb m ae.length bF (.tok t)=none:=by simp only[oV];rw[aN (by omega)]
  have E:=zl j p (fun K e=>by simp only[Hd.tok.injEq]at e;subst e;exact s) g
  obtain⟨v,y⟩:=o.frame.Ej b (j.nO _ _ g).1 E;refine⟨?_,y,v⟩;simp only[Gh.back,p];rw[aN (by rintro(h|h);exact s h;omega)]
  exact g
def zm{x:Bx}(h:x.dM f = .free):x = .free:=by cases x<;>simp[Bx.dM]at h⊢
def Inv.back(o:Inv P w0 aR O G heap w){nb:Nat}(k:rp ae hF dv)(J:a.Nodup)(Q:∀b∈a,∃x,heap[b]?=some x/\x.alive=true)(q:Inv P w G.bX (fun n=>∃x,(G.pK a dv).h x=some n) p c w')(a1:∀i,i<a.length->p.bD i/\p.val i=G.val (a.getD i 0))(hlen:a.length<=c.length)(N:∀x∈c,x.simple=true)(z:∀x∈c,x.there=true)(L:∀x∈c,∀b∈x.refs,b<c.length)(A:cx nb ((c.drop a.length).map (Bx.dM (Jp a nb))) (iu (Jp a nb) a c heap)=some s):
  lS p (G.back p a dv nb (c.length-a.length) ae.length bF) (Jp a nb) (· < c.length)/\
  Inv P w0 aR O (G.back p a dv nb (c.length-a.length) ae.length bF) s w'/\cq G ae w (G.back p a dv nb (c.length-a.length) ae.length bF) (hF++new) w':=by
 obtain⟨f1,f2,f3⟩:=u6 _ _ _ _ A;obtain⟨S,r⟩:=u7 (Jp a nb) a c heap J hlen;have C:((c.drop a.length).map (Bx.dM (Jp a nb))).length=c.length-a.length:=by simp
 rw[C]at f1 f3;have Z:∀i,i<c.length-a.length->heap[nb+i]?=some .free:=by
  intro i E;have:=f1 i E;rw[r]at this;split at this
  .obtain⟨x,d,l⟩:=bc.1 this
   have H:=zm l;subst H;have:=z _ (aK d);simp[Bx.there]at this
  .exact this
 have M:∀i,i<c.length-a.length->nb+i∉a:=by
  intro i E f;obtain⟨x,d,F⟩:=Q _ f;rw[Z i E]at d;obtain rfl:=ax d;simp[Bx.alive]at F
 have R:=Gh.P5 (nt:=ae.length) G p dv bF J M;rw[show a.length+(c.length-a.length)=c.length by omega]at R
 have K:=o.P8 (new:=new) (bF:=bF) (nb:=nb) (m:=c.length-a.length) k q a1 Z;have D:∀b j,BP a nb (c.length-a.length) b=some j->s[b]?=(c[j]?).map (Bx.dM (Jp a nb)):=by
  intro b j h;unfold BP at h;rw[f3];split at h
  .rename_i f
   obtain rfl:=ax h;rw[aN (fun u=>M (b-nb) (by omega) (by rw[show nb+(b-nb)=b by omega];exact f)),r]
   obtain⟨x,d,-⟩:=Q _ f;rw[aG ⟨f,(aE.1 d).1⟩]
  .split at h<;>try(simp at h;done)
   rename_i u;obtain rfl:=ax h;rw[aG u,bu,il]
 have Y:∀b,BP a nb (c.length-a.length) b=none->s[b]?=heap[b]?:=by
  intro b h;unfold BP at h;rw[f3];split at h
  .simp at h
  .rename_i f
   split at h
   .simp at h
   .rename_i u
    rw[aN u,r,aN (fun h=>f h.1)]
 obtain⟨inj,a0⟩:=o.Ur (hF:=hF) (bF:=bF) (nb:=nb) (m:=c.length-a.length) q;have V:=o.N9 q;refine⟨R,⟨V,fun b l=>?_,fun b bx g=>?_,inj,a0,fun b n g l=>?_⟩,K⟩
 .simp only[Gh.back]at l
  cases Oa:BP a nb (c.length-a.length) b with
  |some j=>
   rw[Oa]at l;have B:=q.nb j l;have:=D b j Oa;rw[bo B]at this;exact(aE.1 this).1
  |none=>
   rw[Oa]at l;rw[f2,S];exact o.nb b l
 .cases Oa:BP a nb (c.length-a.length) b with
  |some j=>
   obtain⟨y,I⟩:=LQ Oa;rw[D b j Oa]at g;obtain⟨x,d,rfl⟩:=bc.1 g;have f:=aK d;have:=(q.box j x d).Uq (N _ f) (z _ f) R (by omega) (L x f)
   rw[y]at this;exact this
  |none=>
   rw[Y b Oa]at g;refine(o.box b bx g).bF K.low (fun e=>?_) fun x n v d=>?_
   .subst e
    have:=o.box b _ g;simp only[Gh.back,Oa];exact this
   .have T:oV a nb (c.length-a.length) ae.length bF x=none:=by
     cases x<;>simp only[Hd.on]at v<;>first|exact v.elim|(subst v;simp only[oV,Oa,qU])
    have X:∀t,x≠.tok t:=fun t e=>by subst e;exact v
    have W:=zl (dv:=dv) o T (fun t e=>absurd e (X t)) d
    obtain⟨y,I⟩:=q.frame.Ej n (o.nO _ _ d).1 W;refine⟨?_,I,y⟩;simp only[Gh.back,T];cases x with
    |tok t=>exact absurd rfl (X t)
    |_=>exact d
 .cases Oa:BP a nb (c.length-a.length) b with
  |some j=>
   rw[D b j Oa]at g;obtain⟨x,d,U⟩:=bc.1 g;have H:=zm U;subst H;have:=z _ (aK d);simp[Bx.there]at this
  |none=>
   rw[Y b Oa]at g;simp only[Gh.back,oV,Oa,qU]at l;exact o.dead b n g l
def ry:∀(l:List AV)(t:Nat)x,(cD l)[t]?=some x->x=some 0
 |[],t,x,h=>by simp[cD]at h
 |a::l,t,x,h=>by
  have b:cD (a::l)=cD l\/cD (a::l)=some 0::cD l:=by cases a<;>first|exact .inl rfl|exact .inr rfl
  rcases b with b|b<;>rw[b]at h
  .exact ry l t x h
  .cases t with
   |zero=>simp at h;exact h.symm
   |succ t=>exact ry l t x (by simpa using h)
def xu{i M:Gh}{n:Nat}{L:Nat}{r0:List AV}{T2:List (Option Nat)}(R:lS M i f (· < L))(Z:bF=true->∀q,i.h (.tok (n+q))=M.h (.tok q)):
  ∀(r:List AV)(k:Nat)(l:List AV)(new:List (Option Nat))(e:List Value),iU bF f n r k=some (l,new)->e.length=r.length->(∀(j:Nat)v a,e[j]?=some v->r[j]?=some a->aS M (cD r0) w' v a)->
  (∀a∈r,∀b∈a.refs,b<L)->(∀(q:Nat)x,new[q]?=some x->T2[n+k+q]?=some x)->l.length=r.length/\∀(j:Nat)v b,e[j]?=some v->l[j]?=some b->aS i T2 w' v b
 |[],k,l,new,e,h,I,E,H,o=>by
  simp only[iU,ay,aA]at h;obtain⟨rfl,rfl⟩:=h;exact⟨rfl,fun j v b _ Q=>by simp at Q⟩
 |a::r,k,l,new,[],h,I,E,H,o=>by simp at I
 |a::r,k,l,new,v::e,h,I,E,H,o=>by
  have y:=E 0 v a rfl rfl;have step:∀(J:Nat)(d:List AV)(K:List (Option Nat)),iU bF f n r J=some (d,K)->(∀(q:Nat)x,K[q]?=some x->T2[n+J+q]?=some x)->d.length=r.length/\∀(j:Nat)v b,e[j]?=some v->d[j]?=some b->aS i T2 w' v b:=
   fun J d K D S=>xu R Z r J d K e D (by simpa using I) (fun j v a p s=>E (j+1) v a (by simpa using p) (by simpa using s)) (fun a y=>H a (aV _ y)) S
  have put:∀{b:AV}{d:List AV},aS i T2 w' v b->(d.length=r.length/\∀(j:Nat)v b,e[j]?=some v->d[j]?=some b->aS i T2 w' v b)->(b::d).length=(a::r).length/\∀(j:Nat)u c,(v::e)[j]?=some u->(b::d)[j]?=some c->aS i T2 w' u c:=by
   intro b d Q D;refine⟨by simp[D.1],fun j u c p s=>?_⟩
   cases j with
   |zero=>simp at p s;subst p;subst s;exact Q
   |succ j=>exact D.2 j u c (by simpa using p) (by simpa using s)
  simp only[iU]at h;split at h
  .rename_i j m aj
   cases hk:bF with
   |true=>
    simp only[hk,if_true]at h;split at h<;>try(simp at h;done)
    rename_i B;subst B;obtain⟨⟨d,t⟩,z,g⟩:=bc.1 h;simp only[aA]at g;obtain⟨rfl,rfl⟩:=g;subst hk;refine put ?_ (step _ _ _ z fun q x N=>by have:=o (q+1) x (by simpa using N);rw[show n+(j+1)+q=n+j+(q+1) by omega];exact this)
    cases y with
    |@own _ _ _ _ A len cap X U T Y=>
     have V:=o 0 _ rfl;refine .own (aE.1 V).1 (fun _ _=>dV _) (T.jV R.bX) fun _=>?_
     have F:=ry r0 j _ (bo X);exact(Y (by rw[bo X,F])).eq R.bX (Z rfl j)
   |false=>
    simp only[hk,kp,if_false]at h;obtain⟨⟨d,t⟩,z,g⟩:=bc.1 h;simp only[aA]at g;obtain⟨rfl,rfl⟩:=g;subst hk;refine put ?_ (step _ _ _ z o);cases y with
    |own X U T Y=>exact .v (T.jV R.bX)
  .simp at h
  .split at h<;>try(simp at h;done)
   rename_i C;obtain⟨⟨d,t⟩,z,g⟩:=bc.1 h;simp only[aA]at g;obtain⟨rfl,rfl⟩:=g;exact put (y.dM C R (H a (aW ..))) (step _ _ _ z o)
def Inv.LR(c:Inv P w0 aR O G heap w){b:Nat}{bx uP:Bx}(f:heap[b]?=some bx)(d:uP≠.free)(h:gH P G w b uP):Inv P w0 aR O G (heap.set b uP) w where
 frame:=c.frame
 nb:=fun x a=>by simpa using c.nb x a
 box:=fun x y a=>by
  rw[iS]at a;split at a
  .rename_i e
   subst e;split at a<;>simp at a
   subst a;exact h
  .exact c.box x y a
 inj:=c.inj
 nO:=c.nO
 dead:=fun x n a=>by
  rw[iS]at a;split at a
  .split at a<;>simp at a
   exact absurd a d
  .exact c.dead x n a
def Inv.freeze(f:Inv P w0 aR O G heap w)(d:heap[b]?=some (.bn n aj)\/heap[b]?=some (.uK n aj)):
  ∃q,Inv P w0 aR O q (heap.set b (.uK n aj)) w/\cq G ae w q ae w/\cm q.bX w (G.val b) (.sl n aj):=by
 rcases d with d|d
 .obtain⟨x,y,h|⟨l,A,s⟩⟩:=f.box b _ d
  .obtain⟨v,X,elem,cap,H,M,D,Q,N,I,E⟩:=h
   have key:∀i j p,kf aj i j=some p->∃u,X[i*n+j]?=some u/\i*n+j<aj.length*n:=by
    intro i j p c;obtain⟨r,l,s⟩:=cV.1 c;have Y:=(aE.1 l).1;have Z:=(aE.1 s).1;rw[y r (aK l)]at Z;have B:i*n+n<=aj.length*n:=by
     have:=dD n (show i+1<=aj.length from Y)
     rw[cc]at this;omega
    have C:aj.length*n<=cap*n:=dD n D;exact⟨X[i*n+j]'(by omega),cX (by omega),by omega⟩
   obtain⟨k,mk⟩:=f.write (ae:=ae) (bz:=ae) H (w':=w) (hK:=kV G.bX v (aj.length*n)) rfl rfl rfl rfl (fun m J=>⟨rfl,rb _ _ J⟩) (by rw[I];exact dV _) (fun o L=>by rfl) (ar _) (fun t m K _=>⟨m,K,.inr ⟨rfl,by simp⟩⟩)
   have c:cm (kV G.bX v (aj.length*n)) w (G.val b) (.sl n aj):=by
    rw[M];refine .sl v 0 aj.length cap n aj (fun i j=>(X[i*n+j]?).getD undef) rfl D y (fun i j p c=>?_) fun i j p c=>?_
    .obtain⟨u,g,F⟩:=key i j p c
     refine⟨?_,by rw[fU];omega⟩
     simp only[World.cell?,Q,g,cv];simp[g]
    .obtain⟨u,g,F⟩:=key i j p c
     simp only[g,m0];exact(E i j u p g c).grow k.grow
   refine⟨_,mk (heap.set b (.uK n aj)) (by simp) (fun b' T=>by rw[bT (fun e=>T e)]) (fun b' bx R z=>?_),k,c⟩
   have:b=b':=R;subst this;rw[bU (aE.1 d).1]at z;obtain rfl:=ax z;exact⟨by simp,x,c⟩
  .have c:cm G.bX w (G.val b) (.sl n aj):=by
    rw[s,l];cases A with
    |none=>exact .m3 n
    |some a=>exact .Jo a n
   exact⟨G,f.LR d (by simp) ⟨x,c⟩,cq.refl _ _ _,c⟩
 .have h:=f.box b _ d
  exact⟨G,f.LR d (by simp) h,cq.refl _ _ _,h.2⟩
def xv:∀(d:List AV)(heap:List Bx)(k:List AV)(h:List Bx)(G:Gh)(o:List Value),Inv P w0 aR O G heap w->freeze d heap=some (k,h)->o.length=d.length->(∀(j:Nat)v a,o[j]?=some v->d[j]?=some a->aS G ae w v a)->
  ∃g,Inv P w0 aR O g h w/\cq G ae w g ae w/\k.length=d.length/\∀(j:Nat)v b,o[j]?=some v->k[j]?=some b->aS g ae w v b
 |[],heap,k,h,G,o,q,m,r,z=>by
  simp only[freeze,ay,aA]at m;obtain⟨rfl,rfl⟩:=m;exact⟨G,q,cq.refl _ _ _,rfl,fun j v b _ p=>by simp at p⟩
 |a::d,heap,k,h,G,[],q,m,r,z=>by simp at r
 |a::d,heap,k,h,G,v::o,q,m,r,z=>by
  have step:∀(E:List Bx)(i:Gh)(b:AV)(f:List AV)(l:List Bx),Inv P w0 aR O i E w->cq G ae w i ae w->aS i ae w v b->Go.Ac.freeze d E=some (f,l)->
    ∃g,Inv P w0 aR O g l w/\cq G ae w g ae w/\(b::f).length=(a::d).length/\∀(j:Nat)u c,(v::o)[j]?=some u->(b::f)[j]?=some c->aS g ae w u c:=by
   intro E i b f l y s p I;obtain⟨g,Q,K,T,X⟩:=xv d E f l i o y I (by simpa using r) fun j v a t x=>(z (j+1) v a (by simpa using t) (by simpa using x)).bF s
   refine⟨g,Q,s.trans K,by simp[T],fun j u c t x=>?_⟩
   cases j with
   |zero=>simp at t x;subst t;subst x;exact p.bF K
   |succ j=>exact X j u c (by simpa using t) (by simpa using x)
  have J:=z 0 v a rfl rfl;by_cases p:∃b,a = .bA b
  .obtain⟨b,rfl⟩:=p
   simp only[Go.Ac.freeze]at m;cases J with
   |bA Y Z=>
    split at m<;>try(simp at m;done)
    all_goals
     rename_i n aj M;obtain⟨⟨f,l⟩,D,e⟩:=bc.1 m;simp only[aA]at e;obtain⟨rfl,rfl⟩:=e;first
     |obtain⟨i,y,s,H⟩:=q.freeze (ae:=ae) (.inl M)
      exact step _ i _ f l y s (.v H) D
     |obtain⟨i,y,s,H⟩:=q.freeze (ae:=ae) (.inr M)
      exact step _ i _ f l y s (.v H) D
  .have I:(Go.Ac.freeze d heap).map (fun(k,h)=>(a::k,h))=some (k,h):=by
    cases a<;>first|exact m|exact absurd ⟨_,rfl⟩ p
   obtain⟨⟨f,l⟩,D,e⟩:=bc.1 I;simp only[aA]at e;obtain⟨rfl,rfl⟩:=e;exact step _ G a f l q (cq.refl _ _ _) J D
def u9:∀(j:List AV)(e:List TypeId)(i:Nat)(T d:List (Option Nat))(k:Nat)(l:List AV)(g:List (Option Nat))(m:Nat),iF P f [] e i j T k=some (l,g,m)->g=T/\iF P f [] e i j d k=some (l,d,m)
 |[],e,i,T,d,k,l,g,m,h=>by
  simp only[iF,ay,aA]at h;obtain⟨rfl,rfl,rfl⟩:=h;exact⟨rfl,rfl⟩
 |a::j,e,i,T,d,k,l,g,m,h=>by
  simp only[iF]at h;split at h<;>try(simp at h;done)
  rename_i b n o c;split at h<;>try(simp at h;done)
  rename_i u p kB v;simp only[ay,aA]at h;obtain⟨rfl,rfl,rfl⟩:=h;have q:n=T/\uN P e.head? false f a d k=some (b,d,o):=by
   simp only[List.contains_nil,uN]at c⊢;split at c
   .simp only[ay,aA]at c
    obtain⟨rfl,rfl,rfl⟩:=c;exact⟨rfl,rfl⟩
   .split at c<;>try(simp at c;done)
    rename_i x;split at c<;>simp only[ay,aA]at c<;>obtain⟨rfl,rfl,rfl⟩:=c<;>exact⟨rfl,rfl⟩
  obtain⟨rfl,s⟩:=q;obtain⟨rfl,t⟩:=u9 j e.tail (i+1) n d o u p kB v;refine⟨rfl,?_⟩;simp only[iF,List.contains_nil,s,t]
def rz:∀(l:List AV)(n c k b:Nat)(d:List AV)(new:List (Option Nat)),iU false f n l k=some (d,new)->new=[]/\iU false f c l b=some (d,[])
 |[],n,c,k,b,d,new,h=>by
  simp only[iU,ay,aA]at h;obtain⟨rfl,rfl⟩:=h;exact⟨rfl,rfl⟩
 |a::l,n,c,k,b,d,new,h=>by
  simp only[iU]at h⊢;split at h
  .simp only[kp,if_false]at h⊢
   obtain⟨⟨j,t⟩,i,e⟩:=bc.1 h;simp only[aA]at e;obtain⟨rfl,rfl⟩:=e;obtain⟨rfl,g⟩:=rz l n c k b j t i;exact⟨rfl,by rw[g];rfl⟩
  .simp at h
  .split at h<;>try(simp at h;done)
   rename_i m;obtain⟨⟨j,t⟩,i,e⟩:=bc.1 h;simp only[aA]at e;obtain⟨rfl,rfl⟩:=e;obtain⟨rfl,g⟩:=rz l n c k b j t i;refine⟨rfl,?_⟩;rw[g];rfl
def P9(h:c.length=d.length)(f:∀(j:Nat)v b,d[j]?=some v->c[j]?=some b->aS G ae w v b):aS G ae w (uZ d) (Eb c):=by
 unfold uZ Eb;split
 .rename_i v
  split
  .rename_i a
   exact f 0 v a rfl rfl
  .rename_i e
   exfalso;match c,h with
   |[a],_=>exact e a rfl
 .rename_i e
  split
  .rename_i a
   exfalso;match d,h with
   |[v],_=>exact e v rfl
  .exact .xZ (by simpa using h.symm) fun i v a g k=>f i v a (by simpa using g) k
def J0{k:List Value}(I:Inv P w0 aR O G heap w)(hc:c=(an.bF || !an.cons.isEmpty))(h:qY P nb an g s r Z (if c then ae else[]) heap=some p)(K:k.length=s.length)(l:∀(j:Nat)v a,k[j]?=some v->s[j]?=some a->aS G ae w v a)(hs:∀x∈p.calls,zj P x.f x.args x.heap x.r x.th):dH P (callFunc g k.toArray) w (Good P w0 aR O G ae w p.v (if c then p.ae else ae) p.heap):=by
 unfold qY at h;split at h<;>try(simp at h;done)
 rename_i args u o;have b3:∃n,Inv P w0 aR O n u w/\cq G ae w n ae w/\args.length=s.length/\∀(j:Nat)v b,k[j]?=some v->args[j]?=some b->aS n ae w v b:=by
  unfold LI at o;split at o
  .exact xv s heap args u G k I o K l
  .simp only[ay,aA]at o
   obtain⟨rfl,rfl⟩:=o;exact⟨G,I,cq.refl _ _ _,rfl,l⟩
 obtain⟨z,F,k1,A,V⟩:=b3;clear I l o;unfold Ed at h;extract_lets ls aac f back at h
 split at h<;>try(simp at h;done)
 rename_i D hF kk L E;split at h<;>try(simp at h;done)
 rename_i C new h1 y U;obtain rfl:=ax h;have a8:back=Jp ls nb:=rfl;rw[a8]at y U;simp only[cd]at L;obtain⟨⟨⟨⟨⟨⟨⟨⟨⟨⟨q1,q2⟩,q3⟩,q4⟩,B⟩,q6⟩,q7⟩,T⟩,q9⟩,a4⟩,a5⟩:=L;have T:=aU T;have both:∃e N,iF P f an.cons (PG P an.cons g) 0 args ae 0=some (D,e,kk)/\iU an.bF (Jp ls nb) e.length r 0=some (C,N)/\(if c then hF++new else ae)=e++N:=by
  cases c with
  |true=>exact⟨hF,new,E,y,rfl⟩
  |false=>
   obtain⟨W,c2⟩:an.bF=false/\an.cons=[]:=by
    cases J:an.bF<;>cases hcs:an.cons<;>simp[J,hcs]at hc⊢
   rw[W]at y⊢;rw[c2]at E⊢;obtain⟨-,h2⟩:=u9 _ _ _ _ ae _ _ _ _ E;obtain⟨-,h3⟩:=rz _ _ ae.length _ 0 _ _ y;exact⟨ae,[],h2,h3,by simp⟩
 obtain⟨e,N,b1,b2,X⟩:=both;clear E y;have Y:=rq _ q2;have a0:∀b∈ls,∃x,u[b]?=some x/\x.alive=true:=by
  intro b m;have:=bf.1 B (u.getD b .dead) (bh.2 ⟨b,m,rfl⟩);rw[bR]at this;cases d:u[b]? with
  |none=>rw[d]at this;simp[Bx.alive]at this
  |some x=>rw[d]at this;exact⟨x,rfl,this⟩
 obtain⟨dv,Q,e1,-,e3,e4,e5⟩:=u5 (S:=(· ∈ ls)) args (PG P an.cons g) 0 ae [] D e kk k (rp.refl ae) b1 (K.trans A.symm) V fun a l b m=>by
  have:=bf.1 q9 b (eW.2 ⟨a,l,m⟩);simpa using this
 have a9:=F.pK (dv:=dv) Y Q.inj q4 B q3;have b0:lT (z.pK ls dv) (cD D) w k D:=by
  refine⟨by rw[e3,K,A],e5 _ _ dv (fun _ _ h=>h) ⟨z.GN dv,fun q t M=>by simp[Gh.pK,lf,M]⟩ fun q M=>?_⟩
  rw[e4];simp[M]
 refine(hs _ (cP.2 rfl) w (z.pK ls dv) _ k a9 b0).mono fun v w'⟨n,rv,hI,H,hv,a7⟩=>?_
 obtain⟨R,i2,k2⟩:=F.back (bF:=an.bF) (new:=N) Q Y a0 hI (fun i a2=>a7 i a2) T (fun x d=>bf.1 q6 x d) (fun x d=>bf.1 q7 x d)
  (fun x d b m=>aU (bf.1 a4 b (eW.2 ⟨x,d,m⟩))) U
 have a3:e.length=ae.length:=Q.len;have a6:an.bF=true->∀q,(z.back n ls dv nb (Z.length-ls.length) ae.length an.bF).h (.tok (e.length+q))=n.h (.tok q):=by
  intro J q;simp only[Gh.back,oV];rw[aG ⟨J,by omega⟩]
  simp[a3]
 obtain⟨l2,r2⟩:=xu (r0:=r) (T2:=e++N) R a6 r 0 C N rv b2 H.1 H.2 (fun a l b m=>aU (bf.1 a5 b (eW.2 ⟨a,l,m⟩))) fun q x d=>by
  rw[iC,eN (by omega)]
  simpa using d
 refine⟨_,?_,i2,?_⟩
 .subst hv
  show aS _ (if c then hF++new else ae) _ _ _
  rw[X];exact P9 (l2.trans H.1.symm) r2
 .show cq _ _ _ _ (if c then hF++new else ae) _
  rw[X];exact k1.trans k2
def Ob(z:o.op = .call {callee:=.value f,args:=args,argTypes:=u})(X:Inv P w0 aR O G heap w)(i:q8 G ae w e ρ o.op)(T:c=(an.bF || !an.cons.isEmpty))(h:core P nb o.op an k ρ (if c then ae else[]) heap=some r)(Z:∀x∈r.calls,zj P x.f x.args x.heap x.r x.th):
  dH P (execOp e o) w (Good P w0 aR O G ae w r.v (if c then r.ae else ae) r.heap):=by
 rw[z]at h i;have D:∀x∈(Op.call {callee:=.value f,args:=args,argTypes:=u}).operands.toList,aS G ae w (e x) (ρ x):=i;have q:aS G ae w (e f) (ρ f):=D f (by simp[Op.operands,Call.operands])
 have C:∀x∈args.toList,aS G ae w (e x) (ρ x):=fun x i=>D x (by simp only[Op.operands,Call.operands];simp;exact .inr (by simpa using i))
 simp only[core]at h;split at h<;>try(simp at h;done)
 rename_i g first cap N L m
 have A:ρ f = .fn (.func g) first cap:=by
  unfold Ec at m;split at m<;>simp at m
  rename_i R;obtain⟨rfl,rfl,rfl⟩:=m;exact R
 rw[A]at q;generalize Q:e f=V at q;cases q with
 |@fn _ fi I _ _ p J K M=>
  have B:execOp e o=callFunc g (fi.toList++args.toList.map e++I.toList).toArray:=by
   simp[execOp,z,resolve,Q,Deferred.ofValue,invoke];congr 1
   apply Array.ext';simp
  rw[B];refine J0 X T h (by simp[p,J]) (fun j v a d b=>?_) Z
  have key:∀(xs t:List Value)(l n:List AV),xs.length=l.length->(∀(j:Nat)v a,xs[j]?=some v->l[j]?=some a->aS G ae w v a)->(∀(j:Nat)v a,t[j]?=some v->n[j]?=some a->aS G ae w v a)->
    ∀(j:Nat)v a,(xs++t)[j]?=some v->(l++n)[j]?=some a->aS G ae w v a:=by
   intro xs t l n Y i F j v a d b;rcases bY j xs.length with s|s
   .rw[cj s]at d
    rw[cj (by omega)]at b
    exact i j v a d b
   .rw[eN s]at d
    rw[eN (by omega),<-Y]at b
    exact F _ v a d b
  refine key _ _ _ _ (by simp[p]) (key _ _ _ _ (by simpa using p) (fun j v a d b=>K j v a (by simpa using d) b) fun j v a d b=>?_) (fun j v a d b=>M j v a (by simpa using d) b) j v a d b
  simp only[bu]at d b;obtain⟨x,E,rfl⟩:=bc.1 d;obtain⟨y,H,rfl⟩:=bc.1 b;rw[E]at H;obtain rfl:=ax H;exact C x (aK E)
def Qa(c:Inv P w0 aR O G heap w)(d:q8 G ae w e ρ o.op)(h:core P nb o.op an k ρ (if(cY o.op an nb).tk then ae else[]) heap=some r)(g:∀q∈r.dN,q)(i:∀x∈r.calls,zj P x.f x.args x.heap x.r x.th):
  dH P (execOp e o) w (Good P w0 aR O G ae w r.v (if(cY o.op an nb).tk then r.ae else ae) r.heap):=by
 by_cases a:∃f args b,o.op = .call {callee:=.value f,args:=args,argTypes:=b}
 .obtain⟨f,args,b,a⟩:=a
  refine Ob a c d ?_ h i;rw[a];rfl
 .exact N7 c d h g fun f args b e=>a ⟨f,args,b,e⟩
end
structure fp (S:Nat->Prop) (eY hv heap:List Bx):Prop where
 inn:∀b:Nat,S b->hv[b]?=heap[b]?
 fq:∀b:Nat,¬S b->heap[b]?=eY[b]?/\(hv[b]?=none\/hv[b]?=some .dead)
 len:heap.length=eY.length
section
variable {S:Nat->Prop} {eY hv heap:List Bx}
def fp.get(s:fp S eY hv heap)(h:hv[b]?=some x)(d:x≠.dead):heap[b]?=some x/\S b:=by
 by_cases a:S b
 .exact⟨(s.inn b a).symm.trans h,a⟩
 .rcases(s.fq b a).2 with c|c<;>rw[c]at h
  .simp at h
  .exact absurd (ax h).symm d
def fp.set(s:fp S eY hv heap)(h:hv[b]?=some x)(f:x≠.dead)(y:Bx):fp S eY (hv.set b y) (heap.set b y):=by
 obtain⟨c,d⟩:=s.get h f;refine⟨fun b' a=>?_,fun b' a=>?_,by simpa using s.len⟩
 .by_cases e:b=b'
  .subst e
   rw[bU (aE.1 h).1,bU (aE.1 c).1]
  .rw[bT e,bT e]
   exact s.inn b' a
 .have e:b≠b':=fun e=>a (e▸d)
  rw[bT e,bT e];exact s.fq b' a
def fp.fill:∀(xs:List Bx)(nb:Nat){hv heap h:List Bx},fp S eY hv heap->cx nb xs hv=some h->∃b,cx nb xs heap=some b/\fp S eY h b
 |[],nb,hv,heap,h,s,a=>by
  simp only[cx,ay]at a;subst a;exact⟨heap,rfl,s⟩
 |x::xs,nb,hv,heap,h,s,a=>by
  simp only[cx]at a;split at a<;>try(simp at a;done)
  rename_i c;obtain⟨d,-⟩:=s.get c (by simp)
  simp only[cx,d];exact fp.fill xs (nb+1) (s.set c (by simp) x) a
def fp.GQ(s:fp S eY hv heap){F:List Bx->l8}(c:∀h a,F a={F h with heap:=a}/\(F h).heap=h)(h:(cx nb xs hv).map F=some r):
  ∃a,(cx nb xs heap).map F=some {r with heap:=a}/\fp S eY r.heap a:=by
 obtain⟨b,d,rfl⟩:=bc.1 h;obtain⟨a,f,e⟩:=fp.fill xs nb s d;exact⟨a,by rw[f];simp only[de];rw[(c b a).1],by rw[(c b a).2];exact e⟩
def fp.freeze:∀(d:List AV){hv heap:List Bx}{c:List AV}{h:List Bx},fp S eY hv heap->Go.Ac.freeze d hv=some (c,h)->∃g,Go.Ac.freeze d heap=some (c,g)/\fp S eY h g
 |[],hv,heap,c,h,s,f=>by
  simp only[Go.Ac.freeze,ay,aA]at f;obtain⟨rfl,rfl⟩:=f;exact⟨heap,rfl,s⟩
 |a::d,hv,heap,c,h,s,f=>by
  by_cases l:∃b,a = .bA b
  .obtain⟨b,rfl⟩:=l
   simp only[Go.Ac.freeze]at f;split at f<;>try(simp at f;done)
   all_goals
    rename_i n aj o;obtain⟨⟨p,g⟩,m,e⟩:=bc.1 f;simp only[aA]at e;obtain⟨rfl,rfl⟩:=e;obtain⟨i,j,k⟩:=fp.freeze d (s.set o (by simp) (.uK n aj)) m
    exact⟨i,by simp only[Go.Ac.freeze,(s.get o (by simp)).1,j,de],k⟩
  .have q:(Go.Ac.freeze d hv).map (fun(c,h)=>(a::c,h))=some (c,h):=by
    cases a<;>first|exact f|exact absurd ⟨_,rfl⟩ l
   obtain⟨⟨p,g⟩,m,e⟩:=bc.1 q;simp only[aA]at e;obtain⟨rfl,rfl⟩:=e;obtain⟨i,j,k⟩:=fp.freeze d s m;refine⟨i,?_,k⟩;have:Go.Ac.freeze (a::d) heap=(Go.Ac.freeze d heap).map (fun(c,h)=>(a::c,h)):=by
    cases a<;>first|rfl|exact absurd ⟨_,rfl⟩ l
   rw[this,j];rfl
def wm(heap:List Bx):∀(n:Nat)(l a:List Nat){b:Nat},b∈a->b∈reach heap n l a
 |0,l,a,b,h=>by cases l<;>simpa[reach]using h
 |n+1,[],a,b,h=>by simpa[reach]using h
 |n+1,x::l,a,b,h=>by
  simp only[reach];split
  .exact wm heap n l a h
  .exact wm heap n _ _ (ef _ h)
def Cp{h:List Bx}(a:(h.getD b .dead).alive=true):h[b]?=some (h.getD b .dead)/\h.getD b .dead≠.dead:=by
 rw[bR]at a⊢;cases hx:h[b]? with
 |none=>rw[hx]at a;simp[Bx.alive]at a
 |some x=>
  rw[hx]at a;refine⟨rfl,fun e=>?_⟩
  simp only[m0]at a e;rw[e]at a;simp[Bx.alive]at a
def fp.getD(s:fp S eY hv heap)(d:(hv.getD b .dead).alive=true):heap.getD b .dead=hv.getD b .dead:=by
 obtain⟨a,c⟩:=Cp d;rw[bR,(s.get a c).1];rfl
def fp.reach(s:fp S eY hv heap):∀(n:Nat)(l a:List Nat),(∀b∈Go.Ac.reach hv n l a,b∈a\/(hv.getD b .dead).alive=true)->Go.Ac.reach heap n l a=Go.Ac.reach hv n l a
 |0,l,a,h=>by cases l<;>rfl
 |n+1,[],a,h=>by rfl
 |n+1,x::l,a,h=>by
  simp only[Go.Ac.reach]at h⊢;split
  .rename_i c
   rw[c]at h;exact fp.reach s n l a h
  .rename_i c
   rw[c]at h;have g:=(h x (wm _ _ _ _ (by simp))).resolve_left fun f=>by
    have:a.contains x=true:=by simpa using f
    rw[c]at this;simp at this
   rw[s.getD g];refine fp.reach s n _ _ fun b e=>?_
   rcases h b e with d|d
   .exact .inl (ef _ d)
   .exact .inr d
def fp.iu(f:Nat->Nat):∀(a:List Nat)(c:List Bx){hv heap:List Bx},fp S eY hv heap->a.Nodup->(∀b∈a,∃x,hv[b]?=some x/\x≠.dead)->fp S eY (Go.Ac.iu f a c hv) (Go.Ac.iu f a c heap)
 |[],c,hv,heap,s,_,_=>by cases c<;>exact s
 |b::a,[],hv,heap,s,_,_=>s
 |b::a,x::c,hv,heap,s,i,d=>by
  obtain⟨j,m⟩:=gX.1 i;obtain⟨y,k,n⟩:=d b (aW ..);simp only[Go.Ac.iu];refine fp.iu f a c (s.set k n _) m fun b' g=>?_
  obtain⟨z,l,o⟩:=d b' (aV _ g);exact⟨z,by rw[bT (fun e=>by subst e;exact j g)];exact l,o⟩
section
variable {P:Program}
def fp.qY(s:fp S eY hv heap){nb:Nat}{an:An}{g:FuncId}{k r:List AV}{l:List Bx}{T:List (Option Nat)}{o:l8}(h:qY P nb an g k r l T hv=some o):
  ∃e,Go.Ac.qY P nb an g k r l T heap=some {o with heap:=e}/\fp S eY o.heap e:=by
 unfold Go.Ac.qY at h⊢;split at h<;>try(simp at h;done)
 rename_i args d c;have I:∃e,LI an k heap=some (args,e)/\fp S eY d e:=by
  unfold LI at c⊢;split at c
  .exact fp.freeze k s c
  .simp only[ay,aA]at c
   obtain⟨rfl,rfl⟩:=c;exact⟨heap,rfl,s⟩
 obtain⟨t,q,m⟩:=I;rw[q];clear c q;simp only;unfold Ed at h⊢;extract_lets ls aac f back at h
 extract_lets ZQ aad f' aae
 split at h<;>try(simp at h;done)
 rename_i X hF kk p M;split at h<;>try(simp at h;done)
 rename_i N new Y Q J;obtain rfl:=ax h;have y:=p;simp only[cd]at p;obtain⟨⟨⟨⟨⟨⟨⟨⟨⟨⟨Z,D⟩,F⟩,A⟩,E⟩,R⟩,B⟩,C⟩,L⟩,U⟩,V⟩:=p;have n:∀b∈ls,(d.getD b .dead).alive=true:=fun b a=>bf.1 E _ (bh.2 ⟨b,a,rfl⟩)
 have i:ZQ=ls:=by
  show(match an.fz with|true=>[]|false=>Go.Ac.reach t 100 (args.flatMap AV.refs) [])=(match an.fz with|true=>[]|false=>Go.Ac.reach d 100 (args.flatMap AV.refs) [])
  have u:∀b∈(match an.fz with|true=>[]|false=>Go.Ac.reach d 100 (args.flatMap AV.refs) []),(d.getD b .dead).alive=true:=n
  cases hz:an.fz with
  |true=>rfl
  |false=>
   rw[hz]at u;exact m.reach 100 _ [] fun b a=>.inr (u b a)
 have K:aad=aac:=by
  show ZQ.map (fun b=>t.getD b .dead)=ls.map fun b=>d.getD b .dead
  rw[i];exact sB fun b a=>m.getD (n b a)
 have z:f'=f:=by
  show(fun b=>ZQ.idxOf b)=fun b=>ls.idxOf b
  rw[i]
 have a:aae=back:=by
  show(fun j=>match decide (j<ZQ.length)with|true=>ZQ.getD j 0|false=>nb+(j-ZQ.length))=fun j=>match decide (j<ls.length)with|true=>ls.getD j 0|false=>nb+(j-ls.length)
  rw[i]
 obtain⟨x,v,H⟩:=fp.fill _ nb (fp.iu back ls l m (rq _ D) fun b a=>⟨_,Cp (n b a)⟩) J
 refine⟨x,?_,H⟩;rw[i,K,z,a,y,M];simp only[Q,v]
def gN(S:Nat->Prop)(eY heap:List Bx)(c:ou)(X:Option l8)(r:l8):Prop:=
 ∃a,X=some {r with heap:=a}/\fp S eY r.heap a/\(c.hr=true->c.hw=false->a=heap)
def gN.of(s:fp S eY hv heap)(a:r.heap=hv)(h:X=some {r with heap:=heap}):gN S eY heap c X r:=⟨heap,h,by rw[a];exact s,fun _ _=>rfl⟩
def gN.set(s:fp S eY hv heap)(a:hv[b]?=some x)(f:x≠.dead)(d:c.hw=true)(e:r.heap=hv.set b y)(h:X=some {r with heap:=heap.set b y}):gN S eY heap c X r:=
 ⟨heap.set b y,h,by rw[e];exact s.set a f y,fun _ h=>by rw[d]at h;simp at h⟩
def gN.fill(s:fp S eY hv heap){X:List Bx->Option l8}(g:c.hw=true)(e:∀h a,F a={F h with heap:=a}/\(F h).heap=h)(f:∀h,X h=(cx nb xs h).map F)(h:X hv=some r):gN S eY heap c (X heap) r:=by
 rw[f]at h⊢;obtain⟨a,b,d⟩:=s.GQ e h;exact⟨a,b,d,fun _ h=>by rw[g]at h;simp at h⟩
def gN.plain{o:Op}{an:An}{k:Kd}{ρ:Operand->AV}{T:List (Option Nat)}{c:ou}{r:l8}(s:fp S eY hv heap)(h:(plain P o an k ρ).map (fun(v,l)=>({v,ae:=T,heap:=hv,dN:=l}:l8))=some r):
  gN S eY heap c ((Ac.plain P o an k ρ).map (fun(v,l)=>({v,ae:=T,heap,dN:=l}:l8))) r:=by
 obtain⟨⟨v,l⟩,a,rfl⟩:=bc.1 h;exact⟨heap,by rw[a];rfl,s,fun _ _=>rfl⟩
def fp.look(s:fp S eY hv heap)(b:Nat):hv[b]?=none\/hv[b]?=some .dead\/∃x,hv[b]?=some x/\x≠.dead/\heap[b]?=some x:=by
 cases hb:hv[b]? with
 |none=>exact .inl rfl
 |some x=>
  by_cases a:x = .dead
  .subst a;exact .inr (.inl rfl)
  .exact .inr (.inr ⟨x,rfl,a,(s.get hb a).1⟩)
def Oc(s:fp S eY hv heap)(h:core P nb o an k ρ T hv=some r):gN S eY heap (cY o an nb) (core P nb o an k ρ T heap) r:=by
 have pl:(∀z,core P nb o an k ρ T z=(plain P o an k ρ).map (fun(v,l)=>({v,ae:=T,heap:=z,dN:=l}:l8)))->gN S eY heap (cY o an nb) (core P nb o an k ρ T heap) r:=by
  intro J;rw[J]at h⊢;exact gN.plain s h
 cases o
 case alloc t=>
  simp only[core]at h⊢;split at h<;>try(simp at h;done)
  split at h<;>try(simp at h;done)
  exact gN.fill s rfl (F:=fun h=>{v:=.az nb 0,ae:=_,heap:=h}) (fun _ _=>⟨rfl,rfl⟩) (X:=fun h=>(cx nb _ h).map _) (fun _=>rfl) h
 case box t x=>
  simp only[core]at h⊢;split at h<;>try(simp at h;done)
  split at h<;>try(simp at h;done)
  exact gN.fill s rfl (F:=fun h=>{v:=.az nb 0,ae:=_,heap:=h}) (fun _ _=>⟨rfl,rfl⟩) (X:=fun h=>(cx nb _ h).map _) (fun _=>rfl) h
 case makeSlice t x y=>
  simp only[core]at h⊢;split at h<;>try(simp at h;done)
  split at h<;>try(simp at h;done)
  split at h<;>try(simp at h;done)
  exact gN.fill s rfl (F:=fun h=>{v:=.bA nb,ae:=_,heap:=h,dN:=_}) (fun _ _=>⟨rfl,rfl⟩) (X:=fun h=>(cx nb _ h).map _) (fun _=>rfl) h
 case makeMap t y=>
  cases y with
  |some y=>exact pl fun _=>rfl
  |none=>
   simp only[core]at h⊢;split at h<;>try(simp at h;done)
   exact gN.fill s rfl (F:=fun h=>{v:=.mp nb,ae:=_,heap:=h}) (fun _ _=>⟨rfl,rfl⟩) (X:=fun h=>(cx nb _ h).map _) (fun _=>rfl) h
 case lookup t m i ok=>
  simp only[core]at h⊢;split at h<;>try(simp at h;done)
  rename_i b key Q I o q K M;rcases s.look b with d|d|⟨x,d,g,e⟩<;>rw[d]at h<;>try(simp at h;done)
  rw[e];split at h<;>try(simp at h;done)
  split at h<;>try(simp at h;done)
  split at h
  .split at h<;>obtain rfl:=ax h
   .rename_i H
    exact gN.set s d g (by simp[cY,H]) rfl rfl
   .exact gN.of s rfl rfl
  .split at h<;>try(simp at h;done)
   obtain rfl:=ax h;exact gN.of s rfl rfl
  .obtain rfl:=ax h
   exact gN.of s rfl rfl
 case mapUpdate t m i x=>
  simp only[core]at h⊢;split at h<;>try(simp at h;done)
  rename_i b key Q I q K M;rcases s.look b with d|d|⟨x,d,g,e⟩<;>rw[d]at h<;>try(simp at h;done)
  rw[e];split at h<;>try(simp at h;done)
  split at h<;>try(simp at h;done)
  obtain rfl:=ax h;exact gN.set s d g rfl rfl rfl
 case store t a x=>
  simp only[core]at h⊢;split at h<;>try(simp at h;done)
  .rename_i b off q
   rcases s.look b with d|d|⟨x,d,g,e⟩<;>rw[d]at h<;>try(simp at h;done)
   rw[e];split at h<;>try(simp at h;done)
   obtain⟨⟨cs,tk⟩,j,rfl⟩:=bc.1 h;exact gN.set s d g rfl rfl (by rw[j];rfl)
  .rename_i b _ _ _ _ _ q
   rcases s.look b with d|d|⟨x,d,g,e⟩<;>rw[d]at h<;>try(simp at h;done)
   rw[e];split at h<;>try(simp at h;done)
   split at h<;>try(simp at h;done)
   split at h<;>try(simp at h;done)
   obtain rfl:=ax h;exact gN.set s d g rfl rfl rfl
  .rename_i b _ _ _ q
   rcases s.look b with d|d|⟨x,d,g,e⟩<;>rw[d]at h<;>try(simp at h;done)
   rw[e];split at h<;>try(simp at h;done)
   split at h<;>try(simp at h;done)
   obtain rfl:=ax h;exact gN.set s d g rfl rfl rfl
 case load t x=>
  by_cases D:an.fz=true
  .refine pl fun z=>?_
   simp only[core,D]
  .have D:an.fz=false:=by simpa using D
   simp only[core,D]at h⊢;split at h
   .rename_i b off q _
    rcases s.look b with d|d|⟨x,d,g,e⟩<;>rw[d]at h<;>try(simp at h;done)
    rw[e];split at h<;>try(simp at h;done)
    split at h
    .rename_i H _ _
     obtain rfl:=ax h;exact gN.set s d g (by simp[cY,D,H]) rfl rfl
    .obtain⟨v,j,rfl⟩:=bc.1 h
     exact gN.of s rfl (by rw[j];rfl)
   .rename_i b _ _ _ _ _ q _
    rcases s.look b with d|d|⟨x,d,g,e⟩<;>rw[d]at h<;>try(simp at h;done)
    rw[e];split at h<;>try(simp at h;done)
    split at h<;>try(simp at h;done)
    obtain rfl:=ax h;exact gN.of s rfl rfl
   .rename_i b _ _ _ q _
    rcases s.look b with d|d|⟨x,d,g,e⟩<;>rw[d]at h<;>try(simp at h;done)
    rw[e];split at h<;>try(simp at h;done)
    all_goals
     split at h<;>try(simp at h;done)
     obtain rfl:=ax h;exact gN.of s rfl rfl
   .exact gN.plain s h
 case indexAddr t x ix=>
  simp only[core]at h⊢;split at h
  .rename_i b q
   rcases s.look b with d|d|⟨x,d,g,e⟩<;>rw[d]at h<;>try(simp at h;done)
   rw[e];split at h<;>try(simp at h;done)
   all_goals
    split at h<;>try(simp at h;done)
    split at h<;>try(simp at h;done)
    obtain rfl:=ax h;exact gN.of s rfl rfl
  .split at h<;>try(simp at h;done)
   split at h<;>try(simp at h;done)
   obtain rfl:=ax h;exact gN.of s rfl rfl
  .exact gN.plain s h
 case slice t x lo z mx=>
  have u:(cY (.slice t x lo z mx) an nb).hr=true->(cY (.slice t x lo z mx) an nb).hw=false->False:=by simp[cY]
  simp only[core]at h⊢;split at h
  .rename_i b q
   rcases s.look b with d|d|⟨x,d,g,e⟩<;>rw[d]at h<;>try(simp at h;done)
   rw[e];split at h<;>try(simp at h;done)
   split at h<;>try(simp at h;done)
   split at h<;>try(simp at h;done)
   obtain⟨n,j,p⟩:=(s.set d g .dead).GQ (F:=fun h=>{v:=.bA nb,ae:=T,heap:=h,dN:=_}) (fun _ _=>⟨rfl,rfl⟩) h
   exact⟨n,j,p,fun a b=>(u a b).elim⟩
  .exact gN.plain s h
 case buildSlice t len aT=>
  have u:(cY (.buildSlice t len aT) an nb).hr=true->False:=by simp[cY]
  simp only[core]at h⊢;split at h<;>try(simp at h;done)
  .obtain⟨n,j,p⟩:=s.GQ (F:=fun h=>{v:=.bA nb,ae:=T,heap:=h,dN:=_}) (fun _ _=>⟨rfl,rfl⟩) h
   exact⟨n,j,p,fun a _=>(u a).elim⟩
  .obtain rfl:=ax h
   exact gN.of s rfl rfl
  .obtain rfl:=ax h
   exact gN.of s rfl rfl
 case call c=>
  obtain⟨callee,args,E⟩:=c;cases callee with
  |invoke a b=>exact pl fun _=>rfl
  |value f=>
   have u:(cY (.call {callee:=.value f,args:=args,argTypes:=E}) an nb).hr=true->(cY (.call {callee:=.value f,args:=args,argTypes:=E}) an nb).hw=false->False:=by simp[cY]
   simp only[core]at h⊢;split at h<;>try(simp at h;done)
   obtain⟨n,j,p⟩:=s.qY h;exact⟨n,j,p,fun a b=>(u a b).elim⟩
  |builtin b=>
   cases b
   case append=>
    have u:(cY (.call {callee:=.builtin .append,args:=args,argTypes:=E}) an nb).hr=true->(cY (.call {callee:=.builtin .append,args:=args,argTypes:=E}) an nb).hw=false->False:=by simp[cY]
    simp only[core]at h⊢;split at h<;>try(simp at h;done)
    split at h<;>try(simp at h;done)
    split at h<;>try(simp at h;done)
    split at h<;>try(simp at h;done)
    unfold yS at h⊢;split at h<;>try(simp at h;done)
    .split at h
     .obtain⟨n,j,p⟩:=s.GQ (F:=fun h=>{v:=.bA nb,ae:=T,heap:=h,dN:=_}) (fun _ _=>⟨rfl,rfl⟩) h
      exact⟨n,j,p,fun a b=>(u a b).elim⟩
     .obtain rfl:=ax h
      exact gN.of s rfl rfl
    .split at h<;>try(simp at h;done)
     obtain rfl:=ax h;exact gN.of s rfl rfl
    .rename_i b _
     rcases s.look b with d|d|⟨x,d,g,e⟩<;>rw[d]at h<;>try(simp at h;done)
     rw[e];split at h<;>try(simp at h;done)
     split at h<;>try(simp at h;done)
     obtain⟨n,j,p⟩:=(s.set d g .dead).GQ (F:=fun h=>{v:=.bA nb,ae:=T,heap:=h,dN:=_}) (fun _ _=>⟨rfl,rfl⟩) h
     exact⟨n,j,p,fun a b=>(u a b).elim⟩
   case delete=>
    simp only[core]at h⊢;split at h<;>try(simp at h;done)
    rename_i b i t _ _ _;rcases s.look b with d|d|⟨x,d,g,e⟩<;>rw[d]at h<;>try(simp at h;done)
    rw[e];split at h<;>try(simp at h;done)
    split at h<;>try(simp at h;done)
    obtain rfl:=ax h;exact gN.set s d g rfl rfl rfl
   case len=>
    simp only[core]at h⊢;split at h
    .rename_i b t _ _
     rcases s.look b with d|d|⟨x,d,g,e⟩<;>rw[d]at h<;>try(simp at h;done)
     rw[e];split at h<;>try(simp at h;done)
     all_goals
      obtain rfl:=ax h;exact gN.of s rfl rfl
    .exact gN.plain s h
   all_goals exact pl fun _=>rfl
 all_goals exact pl fun _=>rfl
def oW(l:List Nat):∀(h:List Bx)(k b:Nat),(B7 l k h)[b]?=(h[b]?).map fun x=>match l.contains (k+b)with|true=>x|false=>.dead
 |[],k,b=>by simp[B7]
 |x::h,k,0=>by simp only[B7,yq,de];rfl
 |x::h,k,b+1=>by
  simp only[B7,sF];rw[oW l h (k+1) b,show k+1+b=k+(b+1) by omega]
def jK(l:List Nat):∀(h a:List Bx)(k b:Nat),(v8 l k h a)[b]?=(h[b]?).map fun x=>match l.contains (k+b)with|true=>(a[b]?).getD .dead|false=>x
 |[],a,k,b=>by simp[v8]
 |x::h,a,k,0=>by
  simp only[v8,yq,de];cases a<;>rfl
 |x::h,a,k,b+1=>by
  simp only[v8,sF];rw[jK l h a.tail (k+1) b,show k+1+b=k+(b+1) by omega]
  cases a<;>simp
def ou.Us(c:ou)(b:Nat):Prop:=(c.hr||c.hw)=true/\∀l,c.bx=some l->b∈l
def fp.view(c:ou)(heap:List Bx):fp c.Us heap (c.view heap) heap:=by
 refine⟨fun b a=>?_,fun b a=>⟨rfl,?_⟩,rfl⟩
 .unfold ou.view
  rw[a.1];cases d:c.bx with
  |none=>rfl
  |some l=>
   have:=a.2 l d;simp only[oW,cv];rw[show l.contains b=true by simpa using this]
   cases heap[b]?<;>rfl
 .unfold ou.view
  split
  .rename_i f
   split
   .rename_i d
    exact absurd ⟨f,fun l h=>by rw[d]at h;simp at h⟩ a
   .rename_i l d
    have:l.contains b=false:=by
     rw[ko];intro h;refine a ⟨f,fun g e=>?_⟩
     rw[d]at e;obtain rfl:=ax e;simpa using h
    simp only[oW,cv,this];cases heap[b]?<;>simp
  .simp
def fp.Ut{c:ou}(s:fp c.Us heap h f)(k:c.hr=true->c.hw=false->f=heap):c.merge heap h=f:=by
 unfold ou.merge;split
 .rename_i a
  split
  .rename_i e
   exact fe fun b=>s.inn b ⟨by simp[a],fun l h=>by rw[e]at h;simp at h⟩
  .rename_i l e
   refine fe fun b=>?_
   rw[jK,cv];by_cases d:b∈l
   .have g:c.Us b:=⟨by simp[a],fun m h=>by rw[e]at h;obtain rfl:=ax h;exact d⟩
    rw[show l.contains b=true by simpa using d,s.inn b g]
    rcases bY b heap.length with j|i
    .rw[bo j,bo (by rw[s.len];exact j)]
     rfl
    .rw[eJ i,eJ (by rw[s.len];exact i)]
     rfl
   .have g:¬c.Us b:=fun h=>d (h.2 l e)
    rw[show l.contains b=false by simpa using d,(s.fq b g).1]
    cases heap[b]?<;>rfl
 .rename_i a
  cases hr:c.hr with
  |true=>exact(k hr a).symm
  |false=>
   refine fe fun b=>((s.fq b fun h=>?_).1).symm
   have:=h.1;rw[hr,a]at this;simp at this
def Od(h:core P nb o an k ρ T ((cY o an nb).view heap)=some r):
  core P nb o an k ρ T heap=some {r with heap:=(cY o an nb).merge heap r.heap}:=by
 obtain⟨d,a,b,c⟩:=Oc (fp.view _ heap) h;rw[b.Ut c];exact a
variable {w0:World} {aR:Nat->Nat} {O:Nat->Prop} {G:Gh} {ae:List (Option Nat)} {w:World}
def LS(b:Inv P w0 aR O G heap w)(f:q8 G ae w e ρ o.op)(h:Ub P nb o.op an k ρ ae heap=some r)(c:∀q∈r.dN,q)(d:∀x∈r.calls,zj P x.f x.args x.heap x.r x.th):
  dH P (execOp e o) w (Good P w0 aR O G ae w r.v r.ae r.heap):=by
 unfold Ub at h;simp only at h;split at h<;>try(simp at h;done)
 rename_i r0 a;obtain rfl:=ax h;exact Qa b f (Od a) c d
end
end
structure m7 (P:Program) (w0:World) (aR:Nat->Nat) (O:Nat->Prop) (G0 G:Gh) (s:St) (a:Act) (w:World):Prop where
 inv:Inv P w0 aR O G s.heap w
 size:a.tmps.size=s.tmps.length
 rep:∀(t:Nat)v x,a.tmps[t]?=some v->s.tmps[t]?=some x->aS G s.ae w v x
 defers:a.defers=[]
 nO:∀b,G0.bD b->G.bD b/\G.val b=G0.val b
def iA(P:Program)(w0:World)(aR:Nat->Nat)(O:Nat->Prop)(G0:Gh)(s:St)(a:Act)(w:World):Prop:=∃G,m7 P w0 aR O G0 G s a w
section
variable {P:Program} {w0:World} {aR:Nat->Nat} {O:Nat->Prop} {G0 G:Gh} {s:St} {a:Act} {w:World}
def m7.at(h:m7 P w0 aR O G0 G s a w)(t:Nat):aS G s.ae w (a.tmps.getD t undef) (s.tmps.getD t .none):=by
 rcases bY t s.tmps.length with b|b
 .have c:=bo b
  have d:=cX (xs:=a.tmps) (i:=t) (by rw[h.size];exact b)
  rw[bR,c,jG,d];exact h.rep t _ _ d c
 .rw[bR,eJ b]
  exact .none _
def m7.ev(h:m7 P w0 aR O G0 G s a w)(x:Operand):aS G s.ae w (a.eval x) (fJ s.tmps x):=by
 cases x with
 |tmp t=>exact h.at t
 |const v=>exact lP v _ _ _
 |global g=>exact .none _
 |func f=>exact .fn rfl rfl (fun i v a c b=>by simp at b) fun i v a c b=>by simp at b
def aS.va{v:Value}{a:AV}(h:aS G ae w v a)(y:∀D∈a.conds,D.1=true):aS G ae w v a.strip:=by
 cases h with
 |@opt c j g b _ h z=>exact h (y (c,j,g) (by simp[AV.conds]))
 |none v=>exact .none v
 |v h=>exact .v h
 |agg i h=>exact .agg i h
 |D8 i e f h=>exact .D8 i e f h
 |own q x h p=>exact .own q x h p
 |az d h=>exact .az d h
 |jr d e h=>exact .jr d e h
 |gg d e h=>exact .gg d e h
 |kX u t o=>exact .kX u t o
 |bA d f=>exact .bA d f
 |mp d f=>exact .mp d f
 |fn k l m n=>exact .fn k l m n
 |xZ k l=>exact .xZ k l
 |qN=>exact .qN
 |B9 i h=>exact .B9 i h
def me(n:(Bool×Nat×Bool)×Option (Bool×Bool)):Prop:=(∀B,n.2=some B->B.2=true)->n.1.1=true
def m7.Wh(h:m7 P w0 aR O G0 G s a w)(f:∀n∈je s.tmps o,me n):q8 G s.ae w a.eval (fun x=>(fJ s.tmps x).strip) o:=by
 have l:(∀n∈o.operands.toList.flatMap (fun x=>(fJ s.tmps x).conds.map (fun D=>(D,(none:Option (Bool×Bool))))),me n)->∀x∈o.operands.toList,aS G s.ae w (a.eval x) (fJ s.tmps x).strip:=by
  intro j x k;exact(h.ev x).va fun D d=>j (D,none) (eW.2 ⟨x,k,bh.2 ⟨D,d,rfl⟩⟩) fun B b=>by simp at b
 cases o with
 |pick c x y=>
  simp only[je]at f;refine⟨(h.ev c).va fun D d=>f (D,none) (ef _ (bh.2 ⟨D,d,rfl⟩)) fun B b=>by simp at b,fun B b=>?_⟩
  have b:(fJ s.tmps c).strip = .v (.bool B):=b;rw[b]at f;refine⟨fun g=>(h.ev x).va fun D d=>?_,fun g=>(h.ev y).va fun D d=>?_⟩
  .exact f (D,some (true,B)) (fD _ (ef _ (bh.2 ⟨D,d,rfl⟩))) fun i e=>by cases e;exact g
  .exact f (D,some (false,!B)) (fD _ (fD _ (bh.2 ⟨D,d,rfl⟩))) fun i e=>by cases e;simp[g]
 |_=>exact l f
def m7.put(h:m7 P w0 aR O G0 G s a w)(d:Option Tmp)(k:Inv P w0 aR O f n w')(i:cq G s.ae w f bz w')(o:aS f bz w' v x):m7 P w0 aR O G0 f {tmps:=s.put d x,ae:=bz,heap:=n} (a.put d v) w':=by
 have m:∀(t:Nat)v x,a.tmps[t]?=some v->s.tmps[t]?=some x->aS f bz w' v x:=fun t v x e c=>(h.rep t v x e c).bF i
 have hold:∀b,G0.bD b->f.bD b/\f.val b=G0.val b:=fun b g=>⟨i.bD _ (h.nO b g).1,(i.val _ (h.nO b g).1).trans (h.nO b g).2⟩
 cases d with
 |none=>exact⟨k,h.size,m,h.defers,hold⟩
 |some d=>
  refine⟨k,by simp[Act.put,St.put,h.size],fun t u y e c=>?_,h.defers,hold⟩
  have e:(a.tmps.setIfInBounds d v)[t]?=some u:=e;have c:(s.tmps.set d x)[t]?=some y:=c;by_cases j:d=t
  .subst j
   have l:d<s.tmps.length:=by
    have:=(aE.1 c).1;simpa using this
   rw[bU l]at c;rw[PA (by rw[h.size];exact l)]at e
   obtain rfl:=ax e;obtain rfl:=ax c;exact o
  .rw[bT j]at c
   rw[Array.getElem?_setIfInBounds_ne j]at e;exact m t u y e c
def Uu(P:Program)(l:List Gn):Prop:=∀x∈l,zj P x.f x.args x.heap x.r x.th
def Qb(h:m7 P w0 aR O G0 G s a w)(b:qM P nb o an k none s=some x)(f:∀n∈je s.tmps o.op,me n)(g:∀p∈x.dN,p)(e:Uu P x.calls):
  dH P (execOp a.eval o) w fun v w'=>iA P w0 aR O G0 x.st (a.put o.dst v) w':=by
 unfold qM at b;split at b<;>try(simp at b;done)
 rename_i r i;simp only at b;split at b<;>try(simp at b;done)
 simp only[ay]at b;subst b;exact(LS h.inv (h.Wh f) i g e).mono fun v w'⟨d,c⟩=>⟨d,h.put o.dst c.2.1 c.2.2 c.1⟩
def Oe(d:(cY o an nb).hw=false)(e:(cY o an nb).tk=false)(b:Ub P nb o an k ρ ae c=some r):r.ae=ae/\r.heap=c:=by
 unfold Ub at b;simp only[e,ou.merge,d]at b;split at b<;>try(simp at b;done)
 simp only[ay]at b;subst b;exact⟨rfl,rfl⟩
def Of(h:m7 P w0 aR O G0 G s a w)(b:qM P nb o an k (some (g,j,want)) s=some x)(z:g=true->∀n∈je s.tmps o.op,me n):
  (g=true->dH P (execOp a.eval o) w fun v w'=>iA P w0 aR O G0 x.st (a.put o.dst v) w')/\(g=false->iA P w0 aR O G0 x.st (a.put o.dst undef) w):=by
 unfold qM at b;split at b<;>try(simp at b;done)
 rename_i r f;simp only at b;split at b<;>try(simp at b;done)
 rename_i i;simp only[DW,Bool.not_eq_false',List.isEmpty_iff]at i;obtain⟨⟨⟨m,p⟩,q⟩,t⟩:=i;simp only[ay]at b;obtain⟨u,y⟩:=Oe m p f;subst b;refine⟨fun e=>?_,fun e=>?_⟩
 .subst e
  exact(LS h.inv (h.Wh (z rfl)) f (by rw[t];simp) (by rw[q];simp)).mono fun v w'⟨l,c⟩=>⟨l,h.put o.dst c.2.1 c.2.2 (.opt (fun _=>c.1) fun d=>by simp at d)⟩
 .subst e
  simp only[u,y];exact⟨G,h.put o.dst h.inv (cq.refl _ _ _) (.opt (fun d=>by simp at d) fun _=>rfl)⟩
def J1(h:m7 P w0 aR O G0 G s a w):iA P w0 aR O G0 (jI o s).st (a.put o.dst undef) w:=by
 refine⟨G,h.put o.dst h.inv (cq.refl _ _ _) ?_⟩;split
 .exact .opt (fun b=>by simp at b) fun _=>rfl
 .exact .none _
def dH.upon(h:dH P (execOp a.eval o) w fun v w'=>K (a.put o.dst v) w'):o.wp P a w K Q:=by
 unfold Oper.wp;unfold dH at h;split at h
 .rename_i v w' b;rw[b];exact h
 .rename_i w' b;rw[b];exact h
 .rename_i f args w' b
  rw[b];refine Calls.mono h fun e g⟨v,c,d⟩=>?_
  subst c;exact d
 .exact h.elim
def cr(ops:List Oper)(s:St)(j:Nat):Option Bool:=
 match(ops[j]?).bind (·.dst)with
 |some t=>match s.tmps.getD t .none with
  |.v (.bool b)=>some b
  |.opt true _ _ (.v (.bool b))=>some b
  |_=>none
 |none=>none
def GR(ops:List Oper)(s:St)(j:Nat):Prop:=∃t b w' x,(ops[j]?).bind (·.dst)=some t/\s.tmps.getD t .none = .opt false b w' x
def Qc(h:GR ops s j):cr ops s j=none:=by
 obtain⟨t,d,w',x,b,c⟩:=h;unfold cr;rw[b];simp only[c]
def Cq{l:Array Value}(c:l.getD t undef = .bool b):l[t]?=some (.bool b):=by
 rw[jG]at c;cases hx:l[t]? with
 |none=>rw[hx]at c;simp[undef]at c
 |some v=>rw[hx]at c;simp at c;rw[c]
def J2{l:Array Value}(c:l.getD t undef=undef)(b:Bool):l[t]?≠some (.bool b):=by
 intro d;rw[jG,d]at c;simp[undef]at c
def tA(h:m7 P w0 aR O G0 G s a w)(c:cr ops.toList s j=some b):yielded ops a.tmps j=some b:=by
 unfold cr at c;simp only[iq]at c;unfold yielded;split at c<;>try(simp at c;done)
 rename_i t i;rw[i];simp only[gu];have d:=h.at t;split at c<;>try(simp at c;done)
 .rename_i b' e
  rw[e]at d;rw[Cq d.nV];simpa using c
 .rename_i b' e
  rw[e]at d;generalize g:a.tmps.getD t undef=V at d;cases d with
  |opt f k=>
   rw[Cq (g.trans (f rfl).nV)];simpa using c
def GS(h:m7 P w0 aR O G0 G s a w)(k:GR ops.toList s j):yielded ops a.tmps j=none:=by
 obtain⟨t,m,w',x,d,e⟩:=k;simp only[iq]at d;unfold yielded;rw[d];simp only[gu];have c:=h.at t;rw[e]at c;generalize g:a.tmps.getD t undef=V at c;cases c with
 |opt l f=>
  have:=J2 (g.trans (f rfl));split
  .rename_i b i;exact absurd i (this b)
  .rfl
def tm{want G:Bool}(h:guardOf ops s j want=some G):(cr ops s j==some want)=G:=by
 unfold guardOf at h;unfold cr;split at h<;>try(simp at h;done)
 rename_i t e;rw[e];simp only;split at h<;>(try(simp at h;done))<;>obtain rfl:=ax h
 .rename_i b d
  rw[d];cases b<;>rfl
 .rename_i b d
  rw[d];cases b<;>rfl
 .rename_i c f w' b d
  rw[d];cases c<;>cases b<;>rfl
 .rename_i c f w' b d
  rw[d];cases c<;>cases b<;>rfl
def J3(h:m7 P w0 aR O G0 G s a w)(e:guardOf ops.toList s j want=some f):(yielded ops a.tmps j==some want)=f:=by
 have i:=tm e;cases hx:cr ops.toList s j with
 |some b=>rw[tA h hx,<-hx];exact i
 |none=>
  rw[hx]at i;have k:f=false:=by rw[<-i];rfl
  subst k;have:GR ops.toList s j:=by
   unfold guardOf at e;unfold cr at hx;split at e<;>try(simp at e;done)
   rename_i t g;rw[g]at hx;simp only at hx;split at e<;>try(simp at e;done)
   .rename_i b d;rw[d]at hx;simp at hx
   .rename_i b d;rw[d]at hx;simp at hx
   .rename_i c l w' b d
    cases c with
    |true=>rw[d]at hx;simp at hx
    |false=>exact⟨t,_,_,_,g,d⟩
   .rename_i c l w' b d
    cases c with
    |true=>rw[d]at hx;simp at hx
    |false=>exact⟨t,_,_,_,g,d⟩
  rw[GS h this];rfl
inductive tB (P:Program) (E:FuncId->List AV->List Bx->List AV->List Bx->Prop) (ops:List Oper) (an:Nat->An) (nb:Nat->Nat) (i:Nat) (s:St):St->Prop
 |run {o:Oper} {kd:Kd} {x:Step} (ho:ops[i]?=some o) (hg:∀j w,o.guard=some (j,w)->cr ops s j=some w) (hd:qM P (nb i) o (an i) kd none s=some x) (hn:∀n∈je s.tmps o.op,me n) (hb:∀p∈x.dN,p)
   (hc:∀c∈x.calls,E c.f c.args c.heap c.r c.th):tB P E ops an nb i s x.st
 |skip {o:Oper} {j:Nat} {w:Bool} (ho:ops[i]?=some o) (hg:o.guard=some (j,w)) (hy:cr ops s j=some (!w)\/GR ops s j):tB P E ops an nb i s (jI o s).st
 |spec {o:Oper} {j:Nat} {w G:Bool} {kd:Kd} {x:Step} (ho:ops[i]?=some o) (hg:o.guard=some (j,w)) (hG:guardOf ops s j w=some G) (hd:qM P (nb i) o (an i) kd (some (G,j,w)) s=some x) (hn:G=true->∀n∈je s.tmps o.op,me n):tB P E ops an nb i s x.st
def tB.GU(c:tB P (zj P) ops.toList an nb i s n)(h:iA P w0 aR O G0 s a w)(f:∀a' w',iA P w0 aR O G0 n a' w'->K a' w'):Go.wpOp P ops Q i K a w:=by
 obtain⟨G,h⟩:=h;unfold Go.wpOp;cases c with
 |@run o z x b c g k u y=>
  rw[iq]at b;simp only[b];have d:Region.wanted o (yielded ops a.tmps)=true:=by
   unfold Region.wanted;split
   .rfl
   .rename_i j w r
    rw[tA h (c j w r)];simp
  rw[aG d];exact .inl (dH.upon ((Qb h g k u y).mono fun v w' l=>f _ _ l))
 |@skip o j w' b c e=>
  rw[iq]at b;simp only[b];have d:Region.wanted o (yielded ops a.tmps)=false:=by
   simp only[Region.wanted,c];rcases e with e|e
   .rw[tA h e];cases w'<;>rfl
   .rw[GS h e];rfl
  rw[d,aN (by simp)]
  exact f _ _ (J1 h)
 |@spec o j w' m z x b c t g k=>
  rw[iq]at b;simp only[b];have d:Region.wanted o (yielded ops a.tmps)=m:=by
   simp only[Region.wanted,c];exact J3 h t
  rw[d];obtain⟨p,q⟩:=Of h g k;cases m with
  |true=>
   rw[aG rfl];exact .inl (dH.upon ((p rfl).mono fun v w' l=>f _ _ l))
  |false=>
   rw[aN (by simp)]
   exact f _ _ (q rfl)
end
section
variable {P:Program} {E:FuncId->List AV->List Bx->List AV->List Bx->Prop}
def qE:∀(ps:List (Nat×Operand))(cs:List AV),(∀p∈ps,ρ p.2=ρ' p.2)->jU pl ρ ps cs=jU pl ρ' ps cs
 |[],cs,h=>rfl
 |(i,x)::ps,cs,h=>by
  have b:ρ x=ρ' x:=h (i,x) (aW ..);have c:=fun cs=>qE (pl:=pl) ps cs fun p a=>h p (aV _ a)
  simp only[jU,b,c]
def rB:∀(ps:List (Nat×Operand))(cs:List (List PV)),(∀p∈ps,ρ p.2=ρ' p.2)->lO P e n ρ ps cs=lO P e n ρ' ps cs
 |[],cs,h=>rfl
 |(i,x)::ps,cs,h=>by
  have b:ρ x=ρ' x:=h (i,x) (aW ..);have c:=fun cs=>rB (e:=e) (n:=n) ps cs fun p a=>h p (aV _ a)
  simp only[lO,b,c]
def js{ρ ρ':Operand->AV}{l:List Operand}(h:∀x∈l,ρ x=ρ' x):l.map ρ=l.map ρ':=sB h
def GV(h:∀x∈o.operands.toList,ρ x=ρ' x):plain P o an k ρ=plain P o an k ρ':=by
 cases o
 case build t aT=>
  have i:∀p∈aT.toList,ρ p.2=ρ' p.2:=fun p i=>h p.2 (by simp only[Op.operands];exact bh.2 ⟨p,i,rfl⟩)
  simp only[plain];split
  .rw[qE _ _ i]
  .rfl
 case buildSlice t n aT=>
  have i:∀p∈aT.toList,ρ p.2=ρ' p.2:=fun p i=>h p.2 (by simp only[Op.operands];exact bh.2 ⟨p,i,rfl⟩)
  simp only[plain];split
  .split
   .rw[rB _ _ i]
   .rfl
  .rfl
 case makeFunc f first cap=>
  simp only[plain];rw[js (l:=first.toList) fun x j=>h x (by simp only[Op.operands,uB];exact ef _ j),
   js (l:=cap.toList) fun x j=>h x (by simp only[Op.operands,uB];exact fD _ j)]
 case call c=>
  obtain⟨callee,args,v⟩:=c;cases callee with
  |builtin b=>
   have q:args.toList.map ρ=args.toList.map ρ':=js fun x j=>h x (by simp only[Op.operands,Call.operands];simpa using j)
   cases b
   case len=>
    simp only[plain];split
    .rename_i x t j u
     rw[h x (by simp only[Op.operands,Call.operands];simp[j])]
    .rfl
   all_goals simp only[plain,q]
  |_=>rfl
 case slice t x lo hi mx=>
  have e:ρ x=ρ' x:=h x (by simp[Op.operands])
  have g:lo.map ρ=lo.map ρ':=by cases lo with|none=>rfl|some y=>simp[h y (by simp[Op.operands])]
  have m:hi.map ρ=hi.map ρ':=by cases hi with|none=>rfl|some y=>simp[h y (by simp[Op.operands])]
  simp only[plain,e,g,m]
 case pick c x y=>
  have e:ρ c=ρ' c:=h c (by simp[Op.operands])
  have g:ρ x=ρ' x:=h x (by simp[Op.operands])
  have m:ρ y=ρ' y:=h y (by simp[Op.operands])
  cases k<;>simp only[plain,e,g,m]
 case binOp op t x y t'=>
  have e:ρ x=ρ' x:=h x (by simp[Op.operands])
  have g:ρ y=ρ' y:=h y (by simp[Op.operands])
  simp only[plain,e,g]
 case indexAddr t x y=>
  have e:ρ x=ρ' x:=h x (by simp[Op.operands])
  have g:ρ y=ρ' y:=h y (by simp[Op.operands])
  simp only[plain,e,g]
 case index t x y=>
  have e:ρ x=ρ' x:=h x (by simp[Op.operands])
  have g:ρ y=ρ' y:=h y (by simp[Op.operands])
  simp only[plain,e,g]
 case move x=>simp only[plain,h x (by simp[Op.operands])]
 case assign x=>simp only[plain,h x (by simp[Op.operands])]
 case load t x=>simp only[plain,h x (by simp[Op.operands])]
 case nilCheck x=>simp only[plain,h x (by simp[Op.operands])]
 case unOp op t x=>simp only[plain,h x (by simp[Op.operands])]
 case convert s d x=>simp only[plain,h x (by simp[Op.operands])]
 case makeInterface t x=>simp only[plain,h x (by simp[Op.operands])]
 case typeAssert x a b c=>cases k<;>simp only[plain,h x (by simp[Op.operands])]
 case fieldAddr t x f=>simp only[plain,h x (by simp[Op.operands])]
 case field t x f=>simp only[plain,h x (by simp[Op.operands])]
 case extract x f=>simp only[plain,h x (by simp[Op.operands])]
 all_goals rfl
def J4(h:∀x∈o.operands.toList,ρ x=ρ' x):core P nb o an k ρ T j=core P nb o an k ρ' T j:=by
 have e:=GV (P:=P) (an:=an) (k:=k) h;cases o
 case box t x=>simp only[core,h x (by simp[Op.operands])]
 case makeSlice t x y=>
  have a:ρ x=ρ' x:=h x (by simp[Op.operands])
  have d:ρ y=ρ' y:=h y (by simp[Op.operands])
  simp only[core,a,d]
 case makeMap t y=>cases y<;>simp only[core,e]
 case lookup t x y ok=>
  have a:ρ x=ρ' x:=h x (by simp[Op.operands])
  have d:ρ y=ρ' y:=h y (by simp[Op.operands])
  simp only[core,a,d]
 case mapUpdate t x y z=>
  have a:ρ x=ρ' x:=h x (by simp[Op.operands])
  have d:ρ y=ρ' y:=h y (by simp[Op.operands])
  have i:ρ z=ρ' z:=h z (by simp[Op.operands])
  simp only[core,a,d,i]
 case store t x y=>
  have a:ρ x=ρ' x:=h x (by simp[Op.operands])
  have d:ρ y=ρ' y:=h y (by simp[Op.operands])
  simp only[core,a,d]
 case load t x=>simp only[core,h x (by simp[Op.operands]),e]
 case indexAddr t x y=>
  have a:ρ x=ρ' x:=h x (by simp[Op.operands])
  have d:ρ y=ρ' y:=h y (by simp[Op.operands])
  simp only[core,a,d,e]
 case slice t x lo hi mx=>
  have a:ρ x=ρ' x:=h x (by simp[Op.operands])
  have i:hi.map ρ=hi.map ρ':=by cases hi with|none=>rfl|some y=>simp[h y (by simp[Op.operands])]
  simp only[core,a,i,e]
 case buildSlice t n aT=>simp only[core,e]
 case call c=>
  obtain⟨callee,args,u⟩:=c;cases callee with
  |builtin b=>
   have l:args.toList.map ρ=args.toList.map ρ':=js fun x g=>h x (by simp only[Op.operands,Call.operands];simpa using g)
   cases b
   case append=>
    simp only[core];split
    .rename_i x y t s g q
     rw[h x (by simp only[Op.operands,Call.operands];simp[g]),h y (by simp only[Op.operands,Call.operands];simp[g])]
    .rfl
   case delete=>simp only[core,l]
   case len=>simp only[core,l,e]
   all_goals simp only[core,e]
  |invoke x n=>simp only[core,e]
  |value f=>
   have p:ρ f=ρ' f:=h f (by simp[Op.operands,Call.operands])
   have m:args.toList.map ρ=args.toList.map ρ':=js fun x g=>h x (by
    simp only[Op.operands,Call.operands,uB];exact fD _ g)
   simp only[core,p,m]
 all_goals (simp only[core,e])
structure Uc where
 v:AV
 ae:List (Option Nat)
 heap:List Bx
def Uc.on(f:Uc)(c:ou)(d:Option Tmp)(s:St):St:=
 {tmps:=s.put d f.v,ae:=if c.tk then f.ae else s.ae,heap:=c.merge s.heap f.heap}
def St.Uv(s a:St)(c:ou)(rd:List Tmp):Prop:=
 (∀t∈rd,a.tmps.getD t .none=s.tmps.getD t .none)/\(c.tk=true->a.ae=s.ae)/\c.view a.heap=c.view s.heap
def wo(h:∀t,x = .tmp t->a.getD t .none=l.getD t .none):fJ a x=fJ l x:=by
 cases x with
 |tmp t=>exact h t rfl
 |_=>rfl
def zn(h:∀x∈o.operands.toList,fJ a x=fJ l x):je a o=je l o:=by
 have d:(o.operands.toList.flatMap fun x=>(fJ a x).conds.map (fun D=>(D,(none:Option (Bool×Bool)))))=o.operands.toList.flatMap fun x=>(fJ l x).conds.map (fun D=>(D,none)):=by
  rw[List.flatMap_def,List.flatMap_def];congr 1
  exact sB fun x b=>by rw[h x b]
 cases o with
 |pick c x y=>simp only[je,h c (by simp[Op.operands]),h x (by simp[Op.operands]),h y (by simp[Op.operands])]
 |_=>exact d
def zo(b:x∈o.op.operands.toList)(a:x = .tmp t):t∈jA ops o:=by
 subst a;exact ef _ (List.mem_filterMap.2 ⟨.tmp t,b,rfl⟩)
def rC(a:o.guard=some (j,w))(b:(ops[j]?).bind (·.dst)=some t):t∈jA ops o:=
 fD _ (by simp only[a,b];simp)
def GW(h:qM P nb o an k c s=some x):
  ∃f:Uc,x.st=f.on (cY o.op an nb) o.dst s/\∀a,s.Uv a (cY o.op an nb) (jA ops o)->qM P nb o an k c a=some {st:=f.on (cY o.op an nb) o.dst a,dN:=x.dN,calls:=x.calls}:=by
 unfold qM at h;split at h<;>try(simp at h;done)
 rename_i r b;have l:∃r0:l8,r={r0 with ae:=if(cY o.op an nb).tk then r0.ae else s.ae,heap:=(cY o.op an nb).merge s.heap r0.heap}/\∀a,s.Uv a (cY o.op an nb) (jA ops o)->
   Ub P nb o.op an k (fun x=>(fJ a.tmps x).strip) a.ae a.heap=some {r0 with ae:=if(cY o.op an nb).tk then r0.ae else a.ae,heap:=(cY o.op an nb).merge a.heap r0.heap}:=by
  unfold Ub at b;simp only at b;split at b<;>try(simp at b;done)
  rename_i r0 p;refine⟨r0,(ax b).symm,fun a⟨y,z,D⟩=>?_⟩
  have G:∀x∈o.op.operands.toList,fJ a.tmps x=fJ s.tmps x:=fun x e=>wo fun t v=>y t (zo e v)
  unfold Ub;simp only;have n:(if(cY o.op an nb).tk=true then a.ae else[])=if(cY o.op an nb).tk=true then s.ae else[]:=by
   split
   .rename_i q;rw[z q]
   .rfl
  rw[n,D,J4 (ρ':=fun x=>(fJ s.tmps x).strip) fun x e=>by rw[G x e],p]
 obtain⟨r0,l,m⟩:=l;subst l;cases c with
 |none=>
  simp only at h;split at h<;>try(simp at h;done)
  rename_i i;obtain rfl:=ax h;refine⟨⟨r0.v,r0.ae,r0.heap⟩,rfl,fun a d=>?_⟩
  unfold qM;rw[m a d];simp only[i];rfl
 |some g=>
  obtain⟨g,j,w⟩:=g;simp only at h;split at h<;>try(simp at h;done)
  rename_i i;obtain rfl:=ax h;refine⟨⟨.opt g j w r0.v,r0.ae,r0.heap⟩,rfl,fun a d=>?_⟩
  unfold qM;rw[m a d];simp only;split
  .rename_i u
   exact absurd (u.symm.trans i) (by simp)
  .rfl
def pL(b:o.guard=some (j,w))(d:s.Uv a c (jA ops o)):cr ops a j=cr ops s j/\(GR ops s j->GR ops a j)/\guardOf ops a j w=guardOf ops s j w:=by
 refine⟨?_,?_,?_⟩
 .unfold cr
  split
  .rename_i t e
   rw[d.1 t (rC b e)]
  .rfl
 .rintro⟨t,i,w',x,f,g⟩
  exact⟨t,i,w',x,f,(d.1 t (rC b f)).trans g⟩
 .unfold guardOf
  split
  .rename_i t e
   rw[d.1 t (rC b e)]
  .rfl
structure ou.below (c d:ou):Prop where
 tk:c.tk=true->d.tk=true
 hr:c.hr=true->d.hr=true
 hw:c.hw=true->d.hw=true
 bx:c.bx=d.bx\/(c.hr=false/\c.hw=false)
def tB.eff(g:ops[i]?=some o)(h:tB P E ops an nb i s y):
  ∃c:ou,c.below (cY o.op (an i) (nb i))/\∃f:Uc,y=f.on c o.dst s/\∀a,s.Uv a c (jA ops o)->tB P E ops an nb i a (f.on c o.dst a):=by
 cases h with
 |@run o' I x e b m n r D=>
  rw[g]at e;obtain rfl:=ax e;obtain⟨f,k,l⟩:=GW (ops:=ops) m;refine⟨_,⟨id,id,id,.inl rfl⟩,f,k,fun a d=>?_⟩
  have u:∀x∈o.op.operands.toList,fJ a.tmps x=fJ s.tmps x:=fun x q=>wo fun t p=>d.1 t (zo q p)
  exact .run (x:={st:=f.on _ o.dst a,dN:=x.dN,calls:=x.calls}) g (fun j w v=>(pL v d).1.trans (b j w v)) (l a d) (by rw[zn u];exact n) r D
 |@skip o' j w e b H=>
  rw[g]at e;obtain rfl:=ax e;refine⟨{},⟨by simp,by simp,by simp,.inr ⟨rfl,rfl⟩⟩,⟨.opt false j w .none,s.ae,s.heap⟩,?_,fun a d=>?_⟩
  .simp[jI,Uc.on,b,ou.merge]
  .have:(⟨.opt false j w .none,s.ae,s.heap⟩:Uc).on {} o.dst a=(jI o a).st:=by simp[jI,Uc.on,b,ou.merge]
   rw[this];exact .skip g b (H.imp (fun h=>(pL b d).1.trans h) (pL b d).2.1)
 |@spec o' j w G I x e b z m n=>
  rw[g]at e;obtain rfl:=ax e;obtain⟨f,k,l⟩:=GW (ops:=ops) m;refine⟨_,⟨id,id,id,.inl rfl⟩,f,k,fun a d=>?_⟩
  have u:∀x∈o.op.operands.toList,fJ a.tmps x=fJ s.tmps x:=fun x q=>wo fun t p=>d.1 t (zo q p)
  exact .spec (x:={st:=f.on _ o.dst a,dN:=x.dN,calls:=x.calls}) g b ((pL b d).2.2.trans z) (l a d) (by rw[zn u];exact n)
def wq(h:meets a b=false):∃l m,a=some l/\b=some m/\∀x∈l,x∉m:=by
 unfold meets at h;split at h<;>try(simp at h;done)
 rename_i l m;refine⟨l,m,rfl,rfl,fun x d c=>?_⟩
 rw[ko]at h;exact h (mY.2 ⟨x,d,by simpa using c⟩)
def zp{a b:ou}(h:a.hw=true->(b.hr||b.hw)=true->meets a.bx b.bx=false):b.view (a.merge c x)=b.view c:=by
 unfold ou.view;cases hb:(b.hr||b.hw)with
 |false=>rfl
 |true=>
  simp only;cases ha:a.hw with
  |false=>simp[ou.merge,ha]
  |true=>
   obtain⟨l,m,e,f,g⟩:=wq (h ha hb);simp only[ou.merge,ha,e,f];refine fe fun i=>?_
   rw[oW,oW,jK,cv];by_cases d:i∈m
   .have k:l.contains i=false:=by
     rw[ko];intro j;exact g i (by simpa using j) d
    rw[k];cases c[i]?<;>rfl
   .have n:m.contains i=false:=by simpa using d
    rw[n];cases c[i]?<;>rfl
def J5{a b:ou}(h:a.hw=true->b.hw=true->meets a.bx b.bx=false):a.merge (b.merge c y) x=b.merge (a.merge c x) y:=by
 cases ha:a.hw with
 |false=>simp[ou.merge,ha]
 |true=>
  cases hb:b.hw with
  |false=>simp[ou.merge,hb]
  |true=>
   obtain⟨l,m,e,f,g⟩:=wq (h ha hb);simp only[ou.merge,ha,hb,e,f];refine fe fun i=>?_
   rw[jK,jK,jK,jK,cv];by_cases d:i∈m
   .have k:l.contains i=false:=by
     rw[ko];intro j;exact g i (by simpa using j) d
    rw[k];cases c[i]?<;>rfl
   .have n:m.contains i=false:=by simpa using d
    rw[n];cases c[i]?<;>rfl
def Passes(ops:List Oper)(an:Nat->An)(nb:Nat->Nat)(j i:Nat):Prop:=
 ∀x y,ops[j]?=some x->ops[i]?=some y->(∀d,x.dst=some d->d∉jA ops y)/\(∀d,x.dst=some d->y.dst≠some d)/\(∀d,y.dst=some d->d∉jA ops x)/\
  ((cY x.op (an j) (nb j)).fits (cY y.op (an i) (nb i))=true\/(cY y.op (an i) (nb i)).fits (cY x.op (an j) (nb j))=true)
def GX(h:Jx ops x y=true):(∀d,x.dst=some d->d∉jA ops y)/\(∀d,x.dst=some d->y.dst≠some d)/\(∀d,y.dst=some d->d∉jA ops x):=by
 refine⟨fun d a=>?_,fun d a=>?_,fun d a=>?_⟩<;>simp[Jx,a]at h
 .exact h.1.1
 .exact h.1.2
 .exact h.2
def Cr(h:LJ ops an nb j i=true):Passes ops an nb j i:=by
 intro x y d e;unfold LJ at h;rw[d,e]at h;simp only[cd]at h;obtain⟨a,b,c⟩:=GX h.1;exact⟨a,b,c,.inl h.2⟩
def Passes.symm(h:Passes ops an nb j i):Passes ops an nb i j:=by
 intro x y k l;obtain⟨a,b,c,f⟩:=h y x l k;exact⟨c,fun d g e=>b d e g,a,f.symm⟩
def oX{s:St}(h:∀e,d=some e->e≠t):(s.put d v).getD t .none=s.tmps.getD t .none:=by
 cases d with
 |none=>rfl
 |some e=>
  have:=h e rfl;simp only[St.put,bR];rw[bT this]
def put_comm{s a b:St}(h:∀d,x=some d->y≠some d)(c:a.tmps=s.put x v)(f:b.tmps=s.put y u):a.put y u=b.put x v:=by
 cases x with
 |none=>
  cases y with
  |none=>exact c.trans f.symm
  |some e=>
   show a.tmps.set e u=b.tmps
   rw[c,f];rfl
 |some d=>
  cases y with
  |none=>
   show a.tmps=b.tmps.set d v
   rw[c,f];rfl
  |some e=>
   have i:d≠e:=fun g=>h d rfl (g▸rfl)
   show a.tmps.set e u=b.tmps.set d v
   rw[c,f];exact List.set_comm _ _ i
structure Fit (a b:ou):Prop where
 tk:a.tk=true->b.tk=false
 ab:a.hw=true->(b.hr||b.hw)=true->meets a.bx b.bx=false
 ba:b.hw=true->(a.hr||a.hw)=true->meets b.bx a.bx=false
def J6(a b:Option (List Nat))(h:meets a b=false):meets b a=false:=by
 obtain⟨l,m,rfl,rfl,c⟩:=wq h;rw[ko];intro d;obtain⟨x,f,e⟩:=mY.1 d;exact c x (by simpa using e) f
def Fit.of(h:a.fits b=true):Fit a b:=by
 simp only[ou.fits,cd,gZ,Bool.and_eq_false_iff,DW]at h;obtain⟨c,e⟩:=h;refine⟨fun h=>?_,fun h k=>?_,fun h k=>?_⟩
 .rcases e with e|e
  .rw[h]at e;simp at e
  .exact e
 .rcases c with⟨c,-⟩|c
  .rcases c with c|⟨c,d⟩
   .rw[h]at c;simp at c
   .rw[c,d]at k;simp at k
  .exact c
 .refine J6 _ _ ?_
  rcases c with⟨c,d⟩|c
  .rcases c with c|⟨-,c⟩
   .rcases d with d|d
    .rw[h]at d;simp at d
    .rw[c,d]at k;simp at k
   .rw[h]at c;simp at c
  .exact c
def Fit.symm(h:Fit a b):Fit b a:=⟨fun k=>ko.2 fun c=>by rw[h.tk c]at k;simp at k,h.ba,h.ab⟩
def Fit.below(h:Fit a b)(e:a'.below a)(f:b'.below b):Fit a' b':=by
 have m:∀{c d:ou},c.below d->(c.hr||c.hw)=true->(d.hr||d.hw)=true:=by
  intro c d g h;simp only[gW]at h⊢;exact h.imp g.hr g.hw
 have i:∀{c d:ou},c.below d->(c.hr||c.hw)=true->c.bx=d.bx:=by
  intro c d g h;rcases g.bx with j|⟨j,n⟩
  .exact j
  .rw[j,n]at h;simp at h
 refine⟨fun k=>ko.2 fun o=>?_,fun k l=>?_,fun k l=>?_⟩
 .have:=h.tk (e.tk k)
  rw[f.tk o]at this;simp at this
 .rw[i e (by simp[k]),i f l]
  exact h.ab (e.hw k) (m f l)
 .rw[i f (by simp[k]),i e l]
  exact h.ba (f.hw k) (m e l)
def tB.has(h:tB P E ops an nb i s b):∃o,ops[i]?=some o:=by
 cases h with
 |run a=>exact⟨_,a⟩
 |skip a=>exact⟨_,a⟩
 |spec a=>exact⟨_,a⟩
def tB.comm(J:Passes ops an nb j i)(p:tB P E ops an nb j s x)(q:tB P E ops an nb i x n):
  ∃t,tB P E ops an nb i s t/\tB P E ops an nb j t n:=by
 obtain⟨w,v⟩:=p.has;obtain⟨m,u⟩:=q.has;obtain⟨y,z,r,X⟩:=J w m v u;obtain⟨d,G,I,b,K⟩:=p.eff v;obtain⟨c,D,fi,H,M⟩:=q.eff u;have a:Fit d c:=(X.elim Fit.of fun h=>(Fit.of h).symm).below G D
 have Q:=M s ⟨fun t l=>by
   rw[b];exact(oX fun e f o=>y e f (o▸l)).symm,fun g=>by
   rw[b];simp[Uc.on,a.symm.tk g],by
   rw[b];exact(zp a.ab).symm⟩
 have T:=K (fi.on c m.dst s) ⟨fun t l=>oX fun e f o=>r e f (o▸l),fun g=>by simp[Uc.on,a.tk g],zp a.ba⟩
 refine⟨_,Q,?_⟩;have:n=I.on d w.dst (fi.on c m.dst s):=by
  rw[H,b];simp only[Uc.on,St.mk.injEq];refine⟨put_comm z rfl rfl,?_,J5 fun h k=>a.ba h (by simp[k])⟩
  cases hc:d.tk
  .rfl
  .rw[a.tk hc];rfl
 rw[this];exact T
def kx:∀(l:List CT){k:List PV->Prop},oP l k->∃ps,k ps
 |[],k,h=>⟨[],h⟩
 |c::l,k,h=>by
  cases c<;>simp only[oP]at h<;>obtain⟨b,h⟩:=h<;>obtain⟨ps,h⟩:=kx l h<;>exact⟨_,h⟩
def lU:∀(a:List TypeId)(j:Nat)(bx:List Bx){k:List AV->List Bx->Prop},qZ P an c a j bx k->∃r b,k r b
 |[],j,bx,k,h=>⟨[],bx,h⟩
 |t::a,j,bx,k,h=>by
  simp only[qZ]at h;split at h
  .obtain⟨ps,h⟩:=kx _ h
   obtain⟨r,b,h⟩:=lU a _ _ h;exact⟨_,_,h⟩
  .obtain⟨ps,h⟩:=kx _ h
   obtain⟨r,b,h⟩:=lU a _ _ h;exact⟨_,_,h⟩
  .obtain⟨o,h⟩:=h
   obtain⟨r,b,h⟩:=lU a _ _ h;exact⟨_,_,h⟩
  .split at h
   all_goals
    obtain⟨o,h⟩:=h;obtain⟨r,b,h⟩:=lU a _ _ h;exact⟨_,_,h⟩
  .obtain⟨o,h⟩:=h
   obtain⟨r,b,h⟩:=lU a _ _ h;exact⟨_,_,h⟩
  .obtain⟨r,b,h⟩:=lU a _ _ h
   exact⟨_,_,h⟩
  .obtain⟨ps,h⟩:=kx _ h
   split at h
   .obtain⟨r,b,h⟩:=lU a _ _ h
    exact⟨_,_,h⟩
   .exact h.elim
def Cs(a:AV)(h:Ee a k):∃b,k b:=by
 unfold Ee at h;split at h<;>first|(obtain⟨b,h⟩:=h;exact⟨_,h⟩)|exact⟨_,h⟩
def m8:∀(l:List AV)(i:Nat){k:List AV->Prop},pC c idx i l k->∃m,k m
 |[],i,k,h=>⟨[],h⟩
 |a::l,i,k,h=>by
  simp only[pC]at h;split at h
  .obtain⟨b,h⟩:=Cs a h
   obtain⟨m,h⟩:=m8 l _ h;exact⟨_,h⟩
  .split at h
   .obtain⟨b,h⟩:=Cs _ h
    obtain⟨m,h⟩:=m8 l _ h;exact⟨_,h⟩
   .obtain⟨m,h⟩:=m8 l _ h
    exact⟨_,h⟩
def Uw(h:XU idx b k):∃x,k x:=by
 unfold XU at h;split at h
 .obtain⟨m,h⟩:=m8 _ _ h
  exact⟨_,h⟩
 .split at h
  .obtain⟨r,h⟩:=h
   exact⟨_,h⟩
  .exact⟨_,h⟩
 .obtain⟨r,h⟩:=h
  exact⟨_,h⟩
 .exact⟨_,h⟩
def ED:∀(l:List Bx)(i:Nat){k:List Bx->Prop},PH a i l k->∃m,k m
 |[],i,k,h=>⟨[],h⟩
 |b::l,i,k,h=>by
  simp only[PH]at h;split at h
  .obtain⟨x,h⟩:=Uw h
   obtain⟨m,h⟩:=ED l _ h;exact⟨_,h⟩
  .obtain⟨m,h⟩:=ED l _ h
   exact⟨_,h⟩
def Qd(h:PI P t k):∃a,k a:=by
 unfold PI at h;split at h
 .obtain⟨ps,h⟩:=kx _ h
  exact⟨_,h⟩
 .obtain⟨r,h⟩:=h
  exact⟨_,h⟩
 .obtain⟨ps,h⟩:=kx _ h
  split at h
  .exact⟨_,h⟩
  .exact h.elim
def Ux(h:XV P o an d ρ e k):∃c,k c:=by
 have one:∀{l:List CT}{k:Kd->Prop},(oP l fun ps=>match ps with|[p]=>k (.cell (.v p))|_=>False)->∃c,k c:=by
  intro l k h;obtain⟨ps,h⟩:=kx _ h;split at h
  .exact⟨_,h⟩
  .exact h.elim
 unfold XV at h;split at h
 .split at h
  .exact one h
  .obtain⟨ps,h⟩:=kx _ h
   exact⟨_,h⟩
  .exact one h
  .exact⟨_,h⟩
 .split at h
  .split at h
   .obtain⟨m,h⟩:=m8 _ _ h
    exact⟨_,h⟩
   .exact h.elim
  .exact⟨_,h⟩
 .split at h
  .exact⟨_,h⟩
  .obtain⟨ps,h⟩:=kx _ h
   exact⟨_,h⟩
  .exact⟨_,h⟩
 .split at h
  .exact one h
  .exact⟨_,h⟩
 .split at h
  .rcases h with h|h
   .exact⟨_,h⟩
   .obtain⟨a,h⟩:=Qd h
    exact⟨_,h⟩
  .exact h.elim
 .split at h
  .rcases h with h|h
   .exact⟨_,h⟩
   .obtain⟨a,h⟩:=kx _ h
    exact⟨_,h⟩
  .obtain⟨a,h⟩:=kx _ h
   exact⟨_,h⟩
 .split at h
  .obtain⟨r,b,h⟩:=lU _ _ _ h
   obtain⟨m,h⟩:=ED _ _ h;exact⟨_,h⟩
  .exact h.elim
 .exact⟨_,h⟩
def Ct:∀(l:List Prop){k:Prop},JA l k->(∀p∈l,p)/\k
 |[],k,h=>⟨by simp,h⟩
 |p::l,k,h=>by
  obtain⟨a,b⟩:=Ct l h.2;exact⟨fun q c=>(aY.1 c).elim (fun e=>e▸h.1) (a q),b⟩
def xw:∀(l:List Gn){k:Prop},yT E l k->(∀c∈l,E c.f c.args c.heap c.r c.th)/\k
 |[],k,h=>⟨by simp,h⟩
 |p::l,k,h=>by
  obtain⟨a,b⟩:=xw l h.2;exact⟨fun q d=>(aY.1 d).elim (fun e=>e▸h.1) (a q),b⟩
def nZ:∀(l:List ((Bool×Nat×Bool)×Option (Bool×Bool))){k:Prop},oQ ops f o l k->(∀n∈l,covered ops f o n.1 n.2=true\/me n)/\k
 |[],k,h=>⟨by simp,h⟩
 |(D,x)::l,k,h=>by
  simp only[oQ]at h;split at h
  .rename_i i
   obtain⟨a,b⟩:=nZ l h;exact⟨fun n c=>(aY.1 c).elim (fun e=>.inl (e▸i)) (a n),b⟩
  .obtain⟨a,b⟩:=nZ l h.2
   refine⟨fun n c=>(aY.1 c).elim (fun e=>.inr ?_) (a n),b⟩
   subst e;intro g;have d:=h.1;cases x with
   |none=>exact d
   |some B=>exact d (g B rfl)
structure eF (ops:List Oper) (done:List Nat) (env:Env) (s:St):Prop where
 env:∀j b,(j,b)∈env->j∈done/\cr ops s j=some b
 guard:∀(i:Nat)o j w,i∈done->ops[i]?=some o->o.guard=some (j,w)->j∈done/\(cr ops s i≠none->cr ops s j=some w)
 tag:∀t c j w a,s.tmps.getD t .none = .opt c j w a->j∈done/\c=(cr ops s j==some w)
def Own(ops:List Oper):Prop:=∀(i j:Nat)(x y:Oper)(d:Tmp),ops[i]?=some x->ops[j]?=some y->x.dst=some d->y.dst=some d->i=j
def X1(h:kZ (ops.filterMap (·.dst))=true):Own ops:=by
 have key:∀(ops:List Oper),(ops.filterMap (·.dst)).Nodup->∀(i j:Nat)(x y:Oper)d,ops[i]?=some x->ops[j]?=some y->x.dst=some d->y.dst=some d->i=j:=by
  intro ops;induction ops with
  |nil=>intro _ i j x y d a;simp at a
  |cons o ops p=>
   intro b i j x y d a c f g;have mem:∀(k:Nat)(z:Oper),ops[k]?=some z->z.dst=some d->d∈ops.filterMap (·.dst):=fun k z n m=>List.mem_filterMap.2 ⟨z,aK n,m⟩
   have q:(ops.filterMap (·.dst)).Nodup:=by
    rw[List.filterMap_cons]at b;split at b
    .exact b
    .exact(gX.1 b).2
   have l:o.dst=some d->d∉ops.filterMap (·.dst):=by
    intro e;rw[List.filterMap_cons,e]at b;exact(gX.1 b).1
   cases i with
   |zero=>
    simp at a;subst a;cases j with
    |zero=>rfl
    |succ j=>exact absurd (mem j y (by simpa using c) g) (l f)
   |succ i=>
    cases j with
    |zero=>
     simp at c;subst c;exact absurd (mem i x (by simpa using a) f) (l g)
    |succ j=>rw[p q i j x y d (by simpa using a) (by simpa using c) f g]
 exact key ops (rq _ h)
def zq{s:St}{d:Tmp}(h:d<s.tmps.length):(s.put (some d) v).getD d .none=v:=by
 simp only[St.put,bR];rw[bU h];rfl
def EE{s:St}{d:Tmp}(h:s.tmps.length<=d):(s.put (some d) v)=s.tmps:=List.set_eq_of_length_le h
def GY{l:List AV}(h:l.length<=d):l.getD d .none = .none:=by
 rw[bR,eJ h];rfl
def Og(l:Own ops)(d:ops[i]?=some o)(g:j≠i)(f:b.tmps=s.put o.dst v):cr ops b j=cr ops s j:=by
 unfold cr;split
 .rename_i t a
  rw[f,oX fun e c k=>?_]
  subst k;cases hx:ops[j]? with
  |none=>rw[hx]at a;simp at a
  |some y=>
   rw[hx]at a;exact g (l j i y o e hx d (by simpa using a) c)
 .rfl
def eF.step(T:Own ops)(g:eF ops done r s)(I:i∉done)(x:ops[i]?=some o)(y:l.tmps=s.put o.dst v)(Q:∀j b,(j,b)∈G->(j,b)∈r\/(j∈done/\cr ops s j=some b))(H:∀j w,o.guard=some (j,w)->j∈done/\(cr ops l i≠none->cr ops s j=some w))(K:∀c j w a,v = .opt c j w a->j∈done/\c=(cr ops s j==some w)):eF ops (i::done) G l:=by
 have k:∀j∈done,cr ops l j=cr ops s j:=fun j J=>Og T x (fun e=>I (e▸J)) y
 refine⟨fun j b h=>?_,fun z o' j w m u D=>?_,fun t c j w a h=>?_⟩
 .have:j∈done/\cr ops s j=some b:=(Q j b h).elim (g.env j b) id
  exact⟨aV _ this.1,(k j this.1).trans this.2⟩
 .rcases aY.1 m with e|m
  .subst e
   rw[x]at u;obtain rfl:=ax u;obtain⟨f,n⟩:=H j w D;exact⟨aV _ f,fun q=>(k j f).trans (n q)⟩
  .obtain⟨f,n⟩:=g.guard z o' j w m u D
   exact⟨aV _ f,fun q=>(k j f).trans (n (by rw[<-k z m];exact q))⟩
 .have key:j∈done/\c=(cr ops s j==some w):=by
   rw[y]at h;cases hd:o.dst with
   |none=>rw[hd]at h;exact g.tag t c j w a h
   |some d=>
    rw[hd]at h;by_cases e:d=t
    .subst e
     rcases bY d s.tmps.length with p|p
     .rw[zq p]at h
      exact K c j w a h
     .rw[EE p]at h
      exact g.tag d c j w a h
    .rw[oX (d:=some d) fun X M=>by cases M;exact e]at h
     exact g.tag t c j w a h
  exact⟨aV _ key.1,by rw[k j key.1];exact key.2⟩
def zr(e:eF ops done l s):∀(n:Nat)(g:Option (Nat×Bool))(d:Nat×Bool),Wd ops n g d=true->(∀j w,g=some (j,w)->j∈done/\cr ops s j=some w)->cr ops s d.1=some d.2
 |0,g,d,h,b=>by simp[Wd]at h
 |n+1,none,d,h,b=>by simp[Wd]at h
 |n+1,some g,d,h,b=>by
  simp only[Wd,gW,beq_iff_eq]at h;obtain⟨f,c⟩:=b g.1 g.2 rfl;rcases h with h|h
  .subst h;exact c
  .refine zr e n _ d h fun j w a=>?_
   cases hx:ops[g.1]? with
   |none=>rw[hx]at a;simp at a
   |some x=>
    rw[hx]at a;obtain⟨i,k⟩:=e.guard g.1 x j w f hx (by simpa using a)
    exact⟨i,k (by rw[c];simp)⟩
def Oh{a:AV}(h:D∈a.conds):∃x,a = .opt D.1 D.2.1 D.2.2 x:=by
 cases a<;>simp[AV.conds]at h
 subst h;exact⟨_,rfl⟩
def m9(h:D∈(fJ c x).conds):∃t a,x = .tmp t/\c.getD t .none = .opt D.1 D.2.1 D.2.2 a:=by
 obtain⟨a,b⟩:=Oh h;cases x with
 |tmp t=>exact⟨t,a,rfl,b⟩
 |const v=>
  exfalso;simp only[fJ]at b;unfold mC at b;split at b
  .split at b<;>simp at b
  .simp at b
  .split at b<;>simp at b
 |global g=>simp[fJ]at b
 |func f=>simp[fJ]at b
def J7(h:n∈je e o):∃t a,e.getD t .none = .opt n.1.1 n.1.2.1 n.1.2.2 a:=by
 have g:n∈o.operands.toList.flatMap (fun x=>(fJ e x).conds.map (fun D=>(D,(none:Option (Bool×Bool)))))->∃t a,e.getD t .none = .opt n.1.1 n.1.2.1 n.1.2.2 a:=by
  intro h;obtain⟨x,i,f⟩:=eW.1 h;obtain⟨D,b,rfl⟩:=bh.1 f;obtain⟨t,a,-,d⟩:=m9 b;exact⟨t,a,d⟩
 cases o with
 |pick c x y=>
  simp only[je]at h;rcases bp.1 h with h|h
  .obtain⟨D,b,rfl⟩:=bh.1 h
   obtain⟨t,a,-,d⟩:=m9 b;exact⟨t,a,d⟩
  .split at h
   .rcases bp.1 h with h|h
    .obtain⟨D,b,rfl⟩:=bh.1 h
     obtain⟨t,a,-,d⟩:=m9 b;exact⟨t,a,d⟩
    .obtain⟨D,b,rfl⟩:=bh.1 h
     obtain⟨t,a,-,d⟩:=m9 b;exact⟨t,a,d⟩
   .simp at h
 |_=>exact g h
def tn(m:eF ops done l s)(G:∀j w,o.guard=some (j,w)->j∈done/\cr ops s j=some w)(h:∀n∈je s.tmps o.op,covered ops l o n.1 n.2=true\/me n):∀n∈je s.tmps o.op,me n:=by
 have v:∀n∈je s.tmps o.op,cr ops s n.1.2.1=some n.1.2.2->n.1.1=true:=by
  intro n d H;obtain⟨t,a,r⟩:=J7 d;rw[(m.tag _ _ _ _ _ r).2,H];simp
 have simple:∀n∈je s.tmps o.op,(l.contains (n.1.2.1,n.1.2.2)||Wd ops 20 o.guard (n.1.2.1,n.1.2.2))=true->n.1.1=true:=by
  intro n d b;refine v n d ?_;rcases yh.1 b with b|b
  .exact(m.env _ _ (by simpa using b)).2
  .exact zr m 20 _ _ b G
 have first:∀n∈je s.tmps o.op,n.2=none->n.1.1=true:=by
  intro n d u;rcases h n d with b|b
  .unfold covered at b
   rw[u]at b;refine simple n d ?_;revert b
   cases(l.contains (n.1.2.1,n.1.2.2)||Wd ops 20 o.guard (n.1.2.1,n.1.2.2))with
   |true=>intro _;rfl
   |false=>
    intro b;rw[mW]at b;split at b<;>first|contradiction|(simp at b;done)
  .exact b fun B i=>by rw[u]at i;simp at i
 intro n d;rcases h n d with b|b
 .intro i
  unfold covered at b;rcases yh.1 b with b|b
  .exact simple n d b
  .split at b<;>try(simp at b;done)
   rename_i c x y Y Bx M f;split at b<;>try(simp at b;done)
   rename_i X Q;simp only[cd,beq_iff_eq]at b;obtain⟨J,K⟩:=b;have g:=i _ f;refine v n d ?_;rw[M]at d first
   simp only[je]at d first
   have z:∀D∈(fJ s.tmps (.tmp c)).conds,D.1=true:=fun D k=>first (D,none) (ef _ (bh.2 ⟨D,k,rfl⟩)) rfl
   rcases bp.1 d with d|d
   .obtain⟨D,k,rfl⟩:=bh.1 d
    simp at f
   .split at d<;>try(simp at d;done)
    rename_i B e;have T:cr ops s n.1.2.1=some B:=by
     unfold cr;rw[Q];simp only[gu,J];change(s.tmps.getD c .none).strip=_ at e
     have p:∀D∈(s.tmps.getD c .none).conds,D.1=true:=z;revert e p
     cases s.tmps.getD c .none<;>intro e p<;>simp only[AV.strip]at e<;>try(simp at e;done)
     .rw[e]
     .rename_i q I w' a'
      have:q=true:=p (q,I,w') (by simp[AV.conds])
      subst this;rw[e]
    rw[T,K];rcases bp.1 d with d|d
    .obtain⟨D,k,rfl⟩:=bh.1 d
     simp only[ay,aA]at f;obtain⟨rfl,rfl⟩:=f;have g:B=true:=g;rw[g]
    .obtain⟨D,k,rfl⟩:=bh.1 d
     simp only[ay,aA]at f;obtain⟨rfl,rfl⟩:=f;simp only[gZ]at g;rw[g]
 .exact b
end
section
variable {P:Program} {E:FuncId->List AV->List Bx->List AV->List Bx->Prop} {ops:List Oper} {A:td} {id:Nat} {nb:Nat->Nat} {s:St} {env:Env} {k:St->Env->Prop} {done:List Nat} {i:Nat} {o:Oper}
def GZ(h:qM P n o an c a s=some x):∃v,x.st.tmps=s.put o.dst v/\(a=none->v.Jw=true)/\∀g,a=some g->∃r,v = .opt g.1 g.2.1 g.2.2 r:=by
 unfold qM at h;split at h<;>try(simp at h;done)
 rename_i r j;cases a with
 |none=>
  simp only at h;split at h<;>try(simp at h;done)
  rename_i d;obtain rfl:=ax h;exact⟨_,rfl,fun _=>d,fun g b=>by simp at b⟩
 |some g=>
  simp only at h;split at h<;>try(simp at h;done)
  obtain rfl:=ax h;exact⟨_,rfl,fun e=>by simp at e,fun f b=>by cases b;exact⟨_,rfl⟩⟩
def LU(h:NS P E nb ops A id i o g s env k):∃b x,qM P (nb i) o (A.an id i) b g s=some x/\(∀n∈je s.tmps o.op,covered ops env o n.1 n.2=true\/me n)/\(∀p∈x.dN,p)/\
  (∀c∈x.calls,E c.f c.args c.heap c.r c.th)/\k x.st env:=by
 unfold NS at h;obtain⟨d,e⟩:=nZ _ h;obtain⟨b,a⟩:=Ux e;split at a
 .rename_i x q
  obtain⟨f,j⟩:=Ct _ a;obtain⟨l,m⟩:=xw _ j;exact⟨b,x,q,d,f,l,m⟩
 .exact a.elim
def G1(t:Own ops)(l:eF ops done env s)(n:i∉done)(p:ops[i]?=some o)(d:∀j w,o.guard=some (j,w)->j∈done/\cr ops s j=some w)(m:qM P (nb i) o (A.an id i) q none s=some x):eF ops (i::done) env x.st:=by
 obtain⟨v,f,g,-⟩:=GZ m;refine l.step t n p f (fun j b h=>.inl h) (fun j w h=>⟨(d j w h).1,fun _=>(d j w h).2⟩) fun c j w a e=>?_
 have:=g rfl;rw[e]at this;simp[AV.Jw]at this
def G3(q:Own ops)(d:eF ops done env s)(n:i∉done)(e:ops[i]?=some o)(a:∀j w,o.guard=some (j,w)->j∈done/\cr ops s j=some w)(h:NS P E nb ops A id i o none s env k):
  ∃b,tB P E ops (A.an id) nb i s b/\eF ops (i::done) env b/\k b env:=by
 obtain⟨t,x,c,f,g,l,m⟩:=LU h;exact⟨x.st,.run e (fun j w p=>(a j w p).2) c (tn d a f) g l,G1 q d n e a c,m⟩
def X2(h:Ub P n (.pick c a b) an (.pk t) ρ ae g=some r):∃B,ρ c = .v (.bool B)/\r.dN=[B=t]/\r.calls=[]:=by
 unfold Ub at h;simp only[core,plain]at h;split at h<;>try(simp at h;done)
 rename_i r0 e;obtain⟨⟨v,l⟩,d,rfl⟩:=bc.1 e;split at d<;>try(simp at d;done)
 rename_i B f;simp only[ay,aA]at d;obtain⟨rfl,rfl⟩:=d;obtain rfl:=ax h;exact⟨B,f,rfl,rfl⟩
def pM(M:o.op = .pick c a b)(O:Own ops)(q:eF ops done env s)(F:i∉done)(H:ops[i]?=some o)(z:∀j w,o.guard=some (j,w)->j∈done/\cr ops s j=some w)(m:fJ s.tmps c = .v (.bool t)\/∃j w,fJ s.tmps c = .opt true j w (.v (.bool t)))(h:wg P nb ops A id i o (if t then a else b) t s env k):∃G,tB P E ops (A.an id) nb i s G/\eF ops (i::done) env G/\k G env:=by
 unfold wg at h;obtain⟨X,v⟩:=nZ _ h;split at v
 .rename_i x l
  have T:(fJ s.tmps c).strip = .v (.bool t):=by rcases m with m|⟨j,w,m⟩<;>rw[m]<;>rfl
  have N:∀D∈(fJ s.tmps c).conds,D.1=true:=by
   intro D f;rcases m with m|⟨j,w,m⟩<;>rw[m]at f<;>simp[AV.conds]at f
   rw[f]
  have Q:∀D∈(fJ s.tmps (if t then a else b)).conds,D.1=true:=by
   intro D f;have S:cr ops s D.2.1=some D.2.2->D.1=true:=by
    intro L;obtain⟨u,y,-,C⟩:=m9 f;rw[(q.tag _ _ _ _ _ C).2,L];simp
   rcases X (D,none) (bh.2 ⟨D,f,rfl⟩)with e|e
   .unfold covered at e
    refine S ?_;rcases yh.1 e with e|e
    .rcases yh.1 e with e|e
     .exact(q.env _ _ (by simpa using e)).2
     .exact zr q 20 _ _ e z
    .split at e<;>first|contradiction|(simp at e;done)
   .exact e fun B g=>by simp at g
  have d:∀n∈je s.tmps o.op,me n:=by
   intro n d g;rw[M]at d;simp only[je,T]at d;rcases bp.1 d with d|d
   .obtain⟨D,f,rfl⟩:=bh.1 d
    exact N D f
   .rcases bp.1 d with d|d
    .obtain⟨D,f,rfl⟩:=bh.1 d
     have:t=true:=g _ rfl;subst this;exact Q D f
    .obtain⟨D,f,rfl⟩:=bh.1 d
     have:(!t)=true:=g _ rfl;cases t with
     |true=>simp at this
     |false=>exact Q D f
  have K:(∀p∈x.dN,p)/\x.calls=[]:=by
   unfold qM at l;split at l<;>try(simp at l;done)
   rename_i r J;simp only at l;split at l<;>try(simp at l;done)
   obtain rfl:=ax l;rw[M]at J;obtain⟨B,g,Y,Z⟩:=X2 J;have g:(fJ s.tmps c).strip = .v (.bool B):=g;rw[T]at g;cases g;refine⟨fun p I=>?_,Z⟩
   rw[Y]at I;obtain rfl:=cP.1 I;rfl
  exact⟨x.st,.run H (fun j w R=>(z j w R).2) l d K.1 (by rw[K.2];simp),G1 O q F H z l,v⟩
 .exact v.elim
def J8{j:Nat}(b:(ops[j]?).bind (·.dst)=some t)(a:cr ops s j=some B):s.tmps.getD t .none = .v (.bool B)\/∃c w,s.tmps.getD t .none = .opt true c w (.v (.bool B)):=by
 unfold cr at a;rw[b]at a;simp only at a;split at a<;>(try(simp at a;done))<;>obtain rfl:=ax a
 .rename_i h;exact .inl h
 .rename_i h;exact .inr ⟨_,_,h⟩
def zs(m:Own ops)(e:eF ops done env s)(g:i∉done)(l:ops[i]?=some o)(f:∀j w,o.guard=some (j,w)->j∈done/\cr ops s j=some w)(h:yU P E nb ops A id i o s env k):
  ∃p,tB P E ops (A.an id) nb i s p/\eF ops (i::done) env p/\k p env:=by
 unfold yU at h;split at h
 .rename_i c a b n
  have known:∀{t:Bool},we ops env c=some t->fJ s.tmps c = .v (.bool t)\/∃j w,fJ s.tmps c = .opt true j w (.v (.bool t)):=by
   intro t d;unfold we at d;split at d<;>try(simp at d;done)
   rename_i u;split at d<;>try(simp at d;done)
   rename_i x y;obtain rfl:=ax d;have z:=mB y;have v:=qT y;simp only[beq_iff_eq]at v;exact J8 v (e.env x.1 x.2 z).2
  split at h
  .rename_i d
   exact pM (t:=true) n m e g l f (known d) h
  .rename_i d
   exact pM (t:=false) n m e g l f (known d) h
  .split at h
   .exact G3 m e g l f h
   .split at h
    .rename_i B q
     cases B with
     |true=>exact pM (t:=true) n m e g l f (.inl q) h
     |false=>exact pM (t:=false) n m e g l f (.inl q) h
    .exact h.elim
 .exact G3 m e g l f h
def eF.more(a:eF ops done env s)(c:j∈done)(d:cr ops s j=some b):eF ops done ((j,b)::env) s:=
 ⟨fun f b' h=>(aY.1 h).elim (fun e=>by cases e;exact⟨c,d⟩) (a.env f b'),a.guard,a.tag⟩
def sJ(y:Own ops)(q:eF ops done env s)(t:i∉done)(l:ops[i]?=some o)(m:o.guard=some (j,w))(n:j∈done)(f:cr ops s j=some (!w)\/GR ops s j):
  tB P E ops (A.an id) nb i s (jI o s).st/\eF ops (i::done) env (jI o s).st:=by
 refine⟨.skip l m f,?_⟩;have p:(jI o s).st.tmps=s.put o.dst (.opt false j w .none):=by simp[jI,m]
 have x:cr ops s j≠some w:=by
  rcases f with f|f
  .rw[f];cases w<;>simp
  .rw[Qc f];simp
 refine q.step y t l p (fun j b h=>.inl h) (fun v w' h=>?_) fun c v w' a e=>?_
 .rw[m]at h
  simp only[ay,aA]at h;obtain⟨rfl,rfl⟩:=h;refine⟨n,fun u=>?_⟩
  exfalso;apply u;unfold cr;rw[l];simp only[gu];cases hd:o.dst with
  |none=>rfl
  |some d=>
   simp only[p,hd];rcases bY d s.tmps.length with g|g
   .rw[zq g]
   .rw[EE g,GY g]
 .simp only[AV.opt.injEq]at e
  obtain⟨rfl,rfl,rfl,-⟩:=e;refine⟨n,?_⟩;symm
  simpa using x
def J9(h:env.lookup j=some b):(j,b)∈env:=by
 induction env with
 |nil=>simp at h
 |cons x l e=>
  obtain⟨a,c⟩:=x;rw[List.lookup_cons]at h;split at h
  .rename_i d
   simp at h d;subst h;subst d;exact aW ..
  .exact aV _ (e h)
def EF(J:Own ops)(q:eF ops done env s)(H:i∉done)(a2:∀o j w,ops[i]?=some o->o.guard=some (j,w)->j∈done)(h:wpOp P E nb ops A id i s env k):
  ∃f I,tB P E ops (A.an id) nb i s f/\eF ops (i::done) I f/\k f I:=by
 unfold wpOp at h;split at h
 .exact h.elim
 .rename_i o p
  split at h
  .rename_i y
   obtain⟨f,g,l,Q⟩:=zs J q H p (fun j w m=>by rw[y]at m;simp at m) h
   exact⟨f,env,g,l,Q⟩
  .rename_i j w y
   have m:=a2 o j w p y;have one:∀{K:Nat}{w':Bool},o.guard=some (K,w')->K=j/\w'=w:=fun h=>by
    rw[y]at h;simp only[ay,aA]at h;exact⟨h.1.symm,h.2.symm⟩
   split at h
   .rename_i b T
    have u:=(q.env j b (J9 T)).2;split at h
    .rename_i F
     simp only[beq_iff_eq]at F;subst F;obtain⟨f,g,l,Q⟩:=zs J q H p (fun K w' X=>by obtain⟨rfl,rfl⟩:=one X;exact⟨m,u⟩) h
     exact⟨f,env,g,l,Q⟩
    .rename_i F
     have V:b = !w:=by cases b<;>cases w<;>simp at F⊢
     subst V;obtain⟨g,l⟩:=sJ (A:=A) (id:=id) (nb:=nb) (E:=E) J q H p y m (.inl u);exact⟨_,env,g,l,h⟩
   .split at h
    .split at h
     .rename_i z
      have u:GR ops s j:=by
       unfold We at z;split at z<;>try(simp at z;done)
       rename_i t Y;split at z<;>try(simp at z;done)
       rename_i C;split at z<;>try(simp at z;done)
       simp only[gZ]at z;subst z;exact⟨t,_,_,_,Y,C⟩
      obtain⟨g,l⟩:=sJ (A:=A) (id:=id) (nb:=nb) (E:=E) J q H p y m (.inr u);exact⟨_,env,g,l,h⟩
     .split at h
      .rename_i G N
       obtain⟨kd,x,g,l,Q,h4,S⟩:=LU h;have Z:=tm N;have W:G=true->∀n∈je s.tmps o.op,me n:=fun a0=>tn q (fun K w' X=>by
        obtain⟨rfl,rfl⟩:=one X;rw[a0]at Z;exact⟨m,by simpa using Z⟩) l
       refine⟨x.st,env,.spec p y N g W,?_,S⟩;obtain⟨v,M,-,D⟩:=GZ g;obtain⟨r,D⟩:=D _ rfl;refine q.step J H p M (fun j b h=>.inl h) (fun K w' h=>?_) fun c K w' a e=>?_
       .obtain⟨rfl,rfl⟩:=one h
        refine⟨m,fun a1=>?_⟩
        cases G with
        |true=>simpa using Z
        |false=>
         exfalso;apply a1;unfold cr;rw[p];simp only[gu];cases hd:o.dst with
         |none=>rfl
         |some d=>
          simp only[M,hd,D];rcases bY d s.tmps.length with T|T
          .rw[zq T]
          .rw[EE T,GY T]
       .rw[D]at e
        simp only[AV.opt.injEq]at e;obtain⟨rfl,rfl,rfl,-⟩:=e;exact⟨m,Z.symm⟩
      .exact h.elim
    .split at h
     .rename_i t Y
      split at h
      .rename_i B U
       have u:cr ops s j=some B:=by
        unfold cr;rw[Y];simp only[U]
       have L:∀{w'},w'=w->B=w'->yU P E nb ops A id i o s ((j,w')::env) k->∃f I,tB P E ops (A.an id) nb i s f/\eF ops (i::done) I f/\k f I:=by
        intro w' M D R;subst M D;obtain⟨f,g,l,Q⟩:=zs J (q.more m u) H p (fun K w' X=>by obtain⟨rfl,rfl⟩:=one X;exact⟨m,u⟩) R
        exact⟨f,_,g,l,Q⟩
       have O:∀{w'},w'=(!w)->B=w'->k (jI o s).st ((j,w')::env)->∃f I,tB P E ops (A.an id) nb i s f/\eF ops (i::done) I f/\k f I:=by
        intro w' M D R;subst M D;obtain⟨g,l⟩:=sJ (A:=A) (id:=id) (nb:=nb) (E:=E) J (q.more m u) H p y m (.inl u);exact⟨_,_,g,l,R⟩
       split at h
       .cases B with
        |true=>exact L rfl rfl h
        |false=>exact O rfl rfl h
       .cases B with
        |true=>exact O rfl rfl h
        |false=>exact L rfl rfl h
      .rename_i C
       split at h
       .split at h
        .obtain⟨g,l⟩:=sJ (A:=A) (id:=id) (nb:=nb) (E:=E) J q H p y m (.inr ⟨t,_,_,_,Y,C⟩)
         exact⟨_,env,g,l,h⟩
        .exact h.elim
       .exact h.elim
      .exact h.elim
     .exact h.elim
end
section
variable {P:Program} {E:FuncId->List AV->List Bx->List AV->List Bx->Prop} {ops:List Oper} {A:td} {id:Nat} {an:Nat->An} {nb:Nat->Nat}
def tC(o:Oper)(b:List Nat):Nat:=o.after.toList.foldl (fun s e=>if Region.binds .any e then s ||| 2^e.on ||| b.getD e.on 0 else s) 0
def Cu:∀(os:List Oper)(b:List Nat),∃l,kt os b=b++l
 |[],b=>⟨[],by simp[kt]⟩
 |o::os,b=>by
  obtain⟨l,c⟩:=Cu os (b++[tC o b]);exact⟨tC o b::l,by unfold kt;exact c.trans (by simp)⟩
def G4:∀(os:List Oper)(b:List Nat)(i:Nat)(o:Oper),os[i]?=some o->∃pre l,kt os b=pre++l/\(kt os b).getD (b.length+i) 0=tC o pre
 |[],b,i,o,h=>by simp at h
 |o::os,b,0,o',h=>by
  simp at h;subst h;obtain⟨l,f⟩:=Cu os (b++[tC o b]);have c:kt (o::os) b=b++(tC o b::l):=by unfold kt;exact f.trans (by simp)
  exact⟨b,_,c,by rw[c];simp⟩
 |o::os,b,i+1,o',h=>by
  simp at h;obtain⟨pre,l,d,e⟩:=G4 os (b++[tC o b]) i o' h;have c:kt (o::os) b=kt os (b++[tC o b]):=rfl;refine⟨pre,l,c.trans d,?_⟩;rw[c,<-e];simp only[dC,List.length_singleton];congr 1
  omega
def Cv{f:List Nat}:∀(c:List Edge)(s:Nat),(c.foldl (fun s e=>if Region.binds .any e then s ||| 2^e.on ||| f.getD e.on 0 else s) s).testBit b=true ->
  s.testBit b=true\/∃e∈c,Region.binds .any e=true/\(b=e.on\/(f.getD e.on 0).testBit b=true)
 |[],s,h=>.inl h
 |e::c,s,h=>by
  rw[List.foldl_cons]at h;rcases Cv c _ h with h|⟨g,k,i,j⟩
  .by_cases d:Region.binds .any e=true
   .rw[aG d]at h
    simp only[Nat.testBit_or,gW,Nat.testBit_two_pow,fM]at h;rcases h with(h|h)|h
    .exact .inl h
    .exact .inr ⟨e,aW ..,d,.inl h.symm⟩
    .exact .inr ⟨e,aW ..,d,.inr h⟩
   .rw[aN d]at h
    exact .inl h
  .exact .inr ⟨g,aV _ k,i,j⟩
def Oi(m:os[i]?=some o)(h:((kt os []).getD i 0).testBit b=true):
  ∃e∈o.after,Region.binds .any e=true/\(b=e.on\/((kt os []).getD e.on 0).testBit b=true):=by
 obtain⟨pre,l,g,f⟩:=G4 os [] i o m;simp only[cS,cv]at f;rw[f]at h;rcases Cv _ _ h with h|⟨e,k,j,c⟩
 .simp at h
 .refine⟨e,by simpa using k,j,c.imp _root_.id fun c=>?_⟩
  rw[g];rcases bY e.on pre.length with d|d
  .rw[bR,cj d,<-bR]
   exact c
  .rw[bR,eJ d]at c
   simp at c
def fu(P:Program)(E:FuncId->List AV->List Bx->List AV->List Bx->Prop)(ops:List Oper)(an:Nat->An)(nb:Nat->Nat):Nat->List Nat->St->(St->Prop)->Prop
 |0,_,s,k=>k s
 |n+1,b,s,k=>∀i∈b,ji ops b i=true->∃c,tB P E ops an nb i s c/\fu P E ops an nb n (b.filter (· != i)) c k
def rD(ops:List Oper)(c:List Nat):Prop:=∀j,j<ops.length->j∉c->∀b,((kt ops []).getD j 0).testBit b=true->b∉c
def tD(ops:List Oper):Prop:=∀(i:Nat)o,ops[i]?=some o->∀e∈o.after,Region.binds .any e=true->e.on<i
def Uy(h:Jy ops=true):tD ops:=by
 intro i o b e d c;unfold Jy at h;simp only[cd,bf,dY]at h;have:=h.2 i (aE.1 b).1;rw[b]at this;simp only[bf,gW,gZ,fM]at this;exact(this e (by simpa using d)).resolve_left (by simp[c])
def zt(o:tD ops)(n:rD ops d)(g:i<ops.length)(c:ji ops d i=true)(m:((kt ops []).getD i 0).testBit b=true):b∉d:=by
 have f:=bo g;obtain⟨e,k,l,h⟩:=Oi f m;unfold ji at c;rw[f]at c;simp only[bf,gW,gZ]at c;have j:e.on∉d:=by
  have:=(c e (by simpa using k)).resolve_left (by simp[l])
  simpa using this
 rcases h with rfl|h
 .exact j
 .exact n e.on (qR (o i _ f e k l) g) j b h
def rD.next(l:tD ops)(f:rD ops c)(m:i<ops.length)(p:ji ops c i=true):rD ops (c.filter (· != i)):=by
 intro j n o b d k;have g:=(eD.1 k).1;clear k;by_cases e:j=i
 .subst e
  exact zt l f m p d g
 .exact f j n (fun h=>o (eD.2 ⟨h,by simpa using e⟩)) b d g
def lg{b:List Nat}(j:b.Nodup)(c:i∈b):(b.filter (· != i)).length+1=b.length:=by
 induction b with
 |nil=>simp at c
 |cons x l m=>
  obtain⟨d,f⟩:=gX.1 j;by_cases e:x=i
  .subst e
   have:l.filter (· != x)=l:=yg.2 fun a g=>by
    have:a≠x:=fun e=>d (e▸g)
    simpa using this
   simp[this]
  .have:=m f ((aY.1 c).resolve_left fun h=>e h.symm)
   have k:(x !=i)=true:=by simpa using e
   simp only[List.filter_cons,k,if_true,aD];omega
def Oj(h:∀x∈d,x∈c)(b:ji ops c i=true):ji ops d i=true:=by
 unfold ji at b⊢;split at b
 .simp only[bf,gW,gZ]at b⊢
  intro e f;refine(b e f).imp _root_.id fun g=>?_
  have:e.on∉c:=by simpa using g
  simpa using fun j=>this (h _ j)
 .simp at b
def fu.front(l:tD ops):∀(n:Nat)(b:List Nat)(s f:St)(i:Nat),b.length=n+1->b.Nodup->(∀j∈b,j<ops.length)->i∈b->(∀j∈b,j≠i->((kt ops []).getD j 0).testBit i=true\/Passes ops an nb i j)->
  rD ops b->tB P E ops an nb i s f->fu P E ops an nb n (b.filter (· != i)) f k->fu P E ops an nb (n+1) b s k
 |n,b,s,f,i,Y,g,u,o,D,r,H,z=>by
  intro c d q;by_cases e:c=i
  .subst e;exact⟨f,H,z⟩
  .have v:c∈b.filter (· != i):=eD.2 ⟨d,by simpa using e⟩
   have hlen:=lg g o;cases n with
   |zero=>
    have:b.filter (· != i)=[]:=List.eq_nil_of_length_eq_zero (by omega)
    rw[this]at v;simp at v
   |succ m=>
    obtain⟨X,I,y⟩:=z c v (Oj (fun x M=>(eD.1 M).1) q)
    have K:Passes ops an nb i c:=(D c d e).resolve_left fun J=>zt l r (u c d) q J o
    obtain⟨t,Q,t2⟩:=H.comm K I;have Z:=lg g d;refine⟨t,Q,fu.front l m (b.filter (· != c)) t X i (by omega) (g.filter _) (fun j p=>u j (eD.1 p).1) (eD.2 ⟨o,by simpa using fun h:i=c=>e h.symm⟩)
     (fun j p T=>D j (eD.1 p).1 T) (r.next l (u c d) q) t2 ?_⟩
    rw[List.filter_filter]at y⊢;have:(fun a=>(a !=i)&&(a !=c))=fun a=>(a !=c)&&(a !=i):=by funext a;exact Bool.and_comm _ _
    rw[this];exact y
structure G5 (ops:List Oper):Prop where
 own:Own ops
 guard:∀(i:Nat)o j w,ops[i]?=some o->o.guard=some (j,w)->j<i/\∃e∈o.after,Region.binds .any e=true/\e.on=j
def X4(h:XW ops=true):G5 ops:=by
 unfold XW at h;simp only[cd,bf,dY]at h;refine⟨X1 h.1,fun i o j w b k=>?_⟩
 have:=h.2 i (aE.1 b).1;rw[b]at this;simp only[gu,k,cd,fM,mY,beq_iff_eq]at this;obtain⟨c,e,d,f,g⟩:=this;exact⟨c,e,by simpa using d,f,g⟩
def xx:∀(l:List Nat){k:Nat->Prop},Ef l k->∀i∈l,k i
 |[],k,h,i,b=>by simp at b
 |[x],k,h,i,b=>by simp at b;subst b;exact h
 |x::y::l,k,h,i,b=>by
  rcases aY.1 b with rfl|b
  .exact h.1
  .exact xx (y::l) h.2 i b
structure Part (ops:List Oper) (done Ol:List Nat):Prop where
 nd:Ol.Nodup
 lt:∀j∈Ol,j<ops.length
 not:∀j∈Ol,j∉done
 all:∀j,j<ops.length->j∉Ol->j∈done
def Part.next(h:Part ops done d)(i:Nat):Part ops (i::done) (d.filter (· != i)):=by
 refine⟨h.nd.filter _,fun j b=>h.lt j (eD.1 b).1,fun j b c=>?_,fun j b k=>?_⟩
 .obtain⟨f,g⟩:=eD.1 b
  rcases aY.1 c with rfl|c
  .simp at g
  .exact h.not j f c
 .by_cases e:j=i
  .subst e;exact aW ..
  .exact aV _ (h.all j b fun c=>k (eD.2 ⟨c,by simpa using e⟩))
def Part.guards(h:Part ops done d)(n:G5 ops)(b:ji ops d i=true):∀o j w,ops[i]?=some o->o.guard=some (j,w)->j∈done:=by
 intro o j w c m;obtain⟨f,e,g,k,l⟩:=n.guard i o j w c m;refine h.all j (qR f (aE.1 c).1) ?_;unfold ji at b;rw[c]at b;simp only[bf,gW,gZ]at b;have:=(b e (by simpa using g)).resolve_left (by simp[k])
 rw[l]at this;simpa using this
def zu(t:G5 ops)(p:tD ops):∀(n:Nat)(f done:List Nat)(s:St)(c:Env),wh P E nb ops A id (kt ops []) n f s c k->eF ops done c s->Part ops done f->rD ops f->fu P E ops (A.an id) nb f.length f s k
 |0,f,done,s,c,h,_,_,_=>by cases f<;>exact h.elim
 |n+1,[],done,s,c,h,_,_,_=>h
 |n+1,x::l,done,s,c,h,z,d,u=>by
  have step:∀i∈x::l,ji ops (x::l) i=true->wpOp P E nb ops A id i s c (fun s c=>wh P E nb ops A id (kt ops []) n ((x::l).filter (· != i)) s c k)->
    ∃e,tB P E ops (A.an id) nb i s e/\fu P E ops (A.an id) nb l.length ((x::l).filter (· != i)) e k:=by
   intro i b g H;obtain⟨e,J,m,o,y⟩:=EF t.own z (d.not i b) (d.guards t g) H;refine⟨e,m,?_⟩;have:=zu t p n _ _ e J y o (d.next i) (u.next p (d.lt i b) g);have D:=lg d.nd b;rw[show((x::l).filter (· != i)).length=l.length by simp only[aD]at D;omega]at this
   exact this
  simp only[wh]at h;split at h
  .rename_i i v
   have b:=mB v;have q:=qT v;simp only[cd,bf,gW,beq_iff_eq]at q;obtain⟨e,m,o⟩:=step i b q.1 h;refine fu.front p l.length (x::l) s e i rfl d.nd d.lt b (fun j r I=>?_) u m o
   rcases q.2 j r with(h|h)|h
   .exact absurd h I
   .exact .inl h
   .exact .inr (Cr h).symm
  .intro i b g
   exact step i b g (xx _ h i (eD.2 ⟨b,g⟩))
def Cw(v:G5 ops)(g:tD ops)(q:Jz ops (A.an id) nb (kt ops [])=true):∀(d done:List Nat)(s:St)(p:Env),Gq P E nb ops A id d s p k->eF ops done p s->Part ops done d->rD ops d->d.Pairwise (· < ·)->
  fu P E ops (A.an id) nb d.length d s k
 |[],done,s,p,h,_,_,_,_=>h
 |i::l,done,s,p,h,K,b,x,Z=>by
  obtain⟨n,T⟩:=lF.1 Z;have f:i∈i::l:=aW ..;have u:∀o j w,ops[i]?=some o->o.guard=some (j,w)->j∈done:=by
   intro o j w m u;obtain⟨t,-⟩:=v.guard i o j w m u;refine b.all j (qR t (b.lt i f)) fun c=>?_
   rcases aY.1 c with e|c
   .omega
   .have:=n j c;omega
  obtain⟨z,R,t,I,J⟩:=EF v.own K (b.not i f) u h;have D:(i::l).filter (· != i)=l:=by
   have:l.filter (· != i)=l:=yg.2 fun a M=>by
    have:=n a M;have:a≠i:=by omega
    simpa using this
   simp[this]
  have Q:ji ops (i::l) i=true:=by
   have m:=bo (b.lt i f);unfold ji;rw[m];simp only[bf,gW,gZ];intro e X;cases hb:Region.binds .any e with
   |false=>exact .inl rfl
   |true=>
    right
    have:=g i _ m e (by simpa using X) hb
    have:e.on∉i::l:=fun c=>by
     rcases aY.1 c with h|c
     .omega
     .have:=n _ c;omega
    simpa using this
  have H:=b.next i;have r:=x.next g (b.lt i f) Q;rw[D]at H r;have B:=Cw v g q l _ z R J I H r T;refine fu.front g l.length (i::l) s z i rfl b.nd b.lt f (fun j y F=>?_) x t (by rw[D];exact B)
  have Y:i<j:=n j ((aY.1 y).resolve_left F);unfold Jz at q;simp only[bf,dY]at q;have:=q j (b.lt j y) i Y;unfold LK at this;simp only[gW]at this;exact this.imp (fun h=>h) Cr
variable {w0:World} {aR:Nat->Nat} {O:Nat->Prop} {G0 G:Gh} {s:St} {a:Act} {w:World}
def iI(n:Nat)(listed:Array Bool):List Nat:=(List.range n).filter fun k => !listed.getD k true
def Uz{ops:Array Oper}(X:tD ops.toList):∀(fuel:Nat)(listed:Array Bool)(s:St)(a:Act)(w:World),listed.size=ops.size->(iI ops.size listed).length=fuel ->
  iA P w0 aR O G0 s a w->fu P (zj P) ops.toList an nb fuel (iI ops.size listed) s k->(∀m a' w',k m->iA P w0 aR O G0 m a' w'->Q .normal a' w')->wpAny P .any ops Q fuel listed a w:=by
 intro fuel;have I:∀{listed:Array Bool}{b},listed.size=ops.size->b<ops.size->listed.getD b false=listed.getD b true:=fun{listed b}c f=>by
  have:=cX (xs:=listed) (i:=b) (by rw[c];exact f)
  simp[jG,this]
 induction fuel with
 |zero=>
  intro listed s a w c p y x u;have H:iI ops.size listed=[]:=List.eq_nil_of_length_eq_zero p;have D:Region.ready .any ops listed=[]:=by
   rw[List.eq_nil_iff_forall_not_mem];intro j F;obtain⟨q,o,N,_⟩:=mem_ready.1 F;have:j∈iI ops.size listed:=eD.2 ⟨dY.2 (ia.1 N).1,by simp[q]⟩
   rw[H]at this;simp at this
  exact⟨D,u _ _ _ x y⟩
 |succ fuel R=>
  intro listed s a w c p y x u;refine⟨fun H=>?_,fun i Z=>?_⟩
  .exfalso
   cases hA:iI ops.size listed with
   |nil=>rw[hA]at p;simp at p
   |cons i A=>
    have n:i∈iI ops.size listed:=by rw[hA];exact aW ..
    obtain⟨t,g⟩:=eD.1 n;have d:=dY.1 t;have T:i∈Region.ready .any ops listed:=by
     refine mem_ready.2 ⟨by simpa using g,_,cX d,fun e z f=>?_⟩
     have C:=X i _ (by rw[iq];exact cX d) e z f
     have J:e.on<ops.size:=qR C d;cases hle:listed.getD e.on false with
     |true=>rfl
     |false=>
      have l:e.on∈iI ops.size listed:=eD.2 ⟨dY.2 J,by rw[<-I c J,hle];rfl⟩
      have v:(iI ops.size listed).Pairwise (· < ·):=List.Pairwise.filter _ List.pairwise_lt_range
      rw[hA]at v l;rw[lF]at v;rcases aY.1 l with h|h
      .omega
      .have:=v.1 _ h;omega
    rw[H]at T;simp at T
  .obtain⟨q,o,K,B⟩:=mem_ready.1 Z
   have d:i<ops.size:=(ia.1 K).1;have n:i∈iI ops.size listed:=eD.2 ⟨dY.2 d,by simp[q]⟩
   have D:ji ops.toList (iI ops.size listed) i=true:=by
    unfold ji;rw[iq,K];simp only[bf,gW,gZ];intro e z;cases f:Region.binds .any e with
    |false=>exact .inl rfl
    |true=>
     right
     have:=B e (by simpa using z) f
     have:e.on∉iI ops.size listed:=fun l=>by
      obtain⟨t,g⟩:=eD.1 l;rw[I c (dY.1 t)]at this;rw[this]at g;simp at g
     simpa using this
   obtain⟨m,Y,S⟩:=x i n D;have M:iI ops.size (listed.setIfInBounds i true)=(iI ops.size listed).filter (· != i):=by
    unfold iI;rw[List.filter_filter];apply List.filter_congr;intro k V;by_cases r:i=k
    .subst r
     have:(listed.setIfInBounds i true).getD i true=true:=by
      simp[jG,PA (show i<listed.size by rw[c];exact d)]
     rw[this];simp
    .rw[getD_set_ne true r]
     have:(k !=i)=true:=by simpa using fun e:k=i=>r e.symm
     rw[this];simp
   have L:(iI ops.size listed).Nodup:=(qV).filter _;have W:=lg L n;exact Y.GU y fun a' w' U=>R _ m a' w' (by simpa using c) (by rw[M];omega) U (by rw[M];exact S) u
def ib(P:Program)(E:FuncId->List AV->List Bx->List AV->List Bx->Prop)(ops:List Oper)(an:Nat->An)(nb:Nat->Nat):List Nat->St->(St->Prop)->Prop
 |[],s,k=>k s
 |i::l,s,k=>∃b,tB P E ops an nb i s b/\ib P E ops an nb l b k
def Cy(n:G5 ops):∀(d done:List Nat)(s:St)(c:Env),Gq P E nb ops A id d s c k->eF ops done c s->Part ops done d->d.Pairwise (· < ·)->ib P E ops (A.an id) nb d s k
 |[],done,s,c,h,_,_,_=>h
 |i::l,done,s,c,h,y,b,I=>by
  obtain⟨q,D⟩:=lF.1 I;have p:i∈i::l:=aW ..;have g:∀o j w,ops[i]?=some o->o.guard=some (j,w)->j∈done:=by
   intro o j w r g;obtain⟨f,-⟩:=n.guard i o j w r g;refine b.all j (qR f (b.lt i p)) fun m=>?_
   rcases aY.1 m with e|m
   .omega
   .have:=q j m;omega
  obtain⟨t,J,f,v,x⟩:=EF n.own y (b.not i p) g h;have H:(i::l).filter (· != i)=l:=by
   have:l.filter (· != i)=l:=yg.2 fun a z=>by
    have:=q a z;have:a≠i:=by omega
    simpa using this
   simp[this]
  have u:=b.next i;rw[H]at u;exact⟨t,f,Cy n l _ t J x v u D⟩
def Ka(ops:List Oper)(s b:St):Prop:=∀x B,(∀o∈ops,o.dst≠some x)->s.tmps.getD x .none = .v (.bool B)->b.tmps.getD x .none = .v (.bool B)
def tB.same(h:tB P E ops an nb i s g):Ka ops s g:=by
 intro x B l k;obtain⟨o,b⟩:=h.has;obtain⟨c,-,f,e,-⟩:=h.eff b;rw[e,<-k];exact oX fun d j e=>l o (aK b) (e▸j)
def ib.bF:∀(c:List Nat)(s:St),ib P E ops an nb c s k->ib P E ops an nb c s (fun d=>k d/\Ka ops s d)
 |[],s,h=>⟨h,fun _ _ _ h=>h⟩
 |i::l,s,⟨d,e,g⟩=>by
  have mono:∀(c:List Nat)(t:St){k f:St->Prop},(∀t,k t->f t)->ib P E ops an nb c t k->ib P E ops an nb c t f:=by
   intro c;induction c with
   |nil=>intro t k f j h;exact j _ h
   |cons i l p=>intro t k f j ⟨n,e,g⟩;exact⟨n,e,p n j g⟩
  exact⟨d,e,mono l d (fun t⟨a,b⟩=>⟨a,fun x B m o=>b x B m (e.same x B m o)⟩) (ib.bF l d g)⟩
def fu.bF:∀(n:Nat)(c:List Nat)(s:St),fu P E ops an nb n c s k->fu P E ops an nb n c s (fun d=>k d/\Ka ops s d)
 |0,c,s,h=>⟨h,fun _ _ _ h=>h⟩
 |n+1,c,s,h=>by
  have mono:∀(n:Nat)(c:List Nat)(t:St){k f:St->Prop},(∀t,k t->f t)->fu P E ops an nb n c t k->fu P E ops an nb n c t f:=by
   intro n;induction n with
   |zero=>intro c t k f l h;exact l _ h
   |succ n u=>intro c t k f l h i j m;obtain⟨p,e,g⟩:=h i j m;exact⟨p,e,u _ p l g⟩
  intro i j m;obtain⟨d,e,g⟩:=h i j m;exact⟨d,e,mono n _ d (fun t⟨a,b⟩=>⟨a,fun x B o q=>b x B o (e.same x B o q)⟩) (fu.bF n _ d g)⟩
def ib.GU{ops:Array Oper}{Q:Exit->Act->World->Prop}{k:St->Prop}:∀(e:List Nat)(s:St)(a:Act)(w:World),ib P (zj P) ops.toList an nb e s k ->
  iA P w0 aR O G0 s a w->(∀b a' w',k b->iA P w0 aR O G0 b a' w'->Q .normal a' w')->wpOps P ops Q e a w
 |[],s,a,w,h,d,c=>c _ _ _ h d
 |i::l,s,a,w,⟨b,f,g⟩,d,c=>by
  rw[wpOps_cons];exact f.GU d fun a' w' j=>ib.GU l b a' w' g j c
def Inv.extend(f:Inv P w0 aR O G i w)(m:Nat):∃l,Inv P w0 aR O l (i++List.replicate m .free) w/\cq G ae w l ae w:=by
 let σ:Hd->Option Hd:=fun x=>match x with
  |.box b=>if b<i.length then some (.box b)else none
  |x=>some x
 have o:∀x y,σ x=some y->x=y:=by
  intro x y h;cases x<;>simp only[σ]at h<;>first|exact ax h|skip
  split at h<;>simp at h
  exact h
 refine⟨⟨G.bX,(G.dM σ).h,G.val,G.bD⟩,f.ghost σ (fun x y z d j=>(o _ _ d).trans (o _ _ j).symm) (fun b c=>?_) (fun b bx c=>?_) (fun b n c h=>?_),cq.ghost σ (fun _ h=>h) (fun _ _=>rfl) (ar _) fun t n h _=>⟨n,h,.inr ⟨rfl,rfl⟩⟩⟩
 .have:=f.nb b c
  simp;omega
 .rcases bY b i.length with g|g
  .rw[cj g]at c
   refine(f.box b bx c).dM (fun _ h=>h) (fun _ _=>rfl) (fun e=>by subst e;exact f.box b _ c) fun x k=>?_
   cases x<;>simp only[Hd.on]at k<;>first|exact k.elim|(subst k;simp[σ,g])
  .rw[eN g]at c
   have:bx = .free:=List.eq_of_mem_replicate (aK c);subst this;exact fun p=>by have:=f.nb b p;omega
 .simp only[Gh.dM]at h
  obtain⟨y,d,j⟩:=cV.1 h;simp only[σ]at d;split at d<;>simp at d
  rename_i g;rw[cj g]at c;exact f.dead b n c (d▸j)
def m7.X5(h:m7 P w0 aR O G0 G s a w)(c:l.length=s.tmps.length)(f:∀(t:Nat)v x y,s.tmps[t]?=some x->l[t]?=some y->aS G s.ae w v x->aS G s.ae w v y):
  m7 P w0 aR O G0 G {s with tmps:=l} a w:=by
 refine⟨h.inv,by rw[h.size];exact c.symm,fun t v y e b=>?_,h.defers,h.nO⟩
 have b:l[t]?=some y:=b;have g:t<s.tmps.length:=by rw[<-c];exact(aE.1 b).1
 have d:=bo g;exact f t v _ y d b (h.rep t v _ e d)
def iA.Qe(h:iA P w0 aR O G0 s a w):iA P w0 aR O G0 {s with tmps:=s.tmps.map pD} a w:=by
 obtain⟨G,h⟩:=h;refine⟨G,h.X5 (by simp) fun t v x y c b d=>?_⟩
 rw[bu,c]at b;obtain rfl:=ax b;unfold pD;split
 .exact .none _
 .exact d
def iA.extend(h:iA P w0 aR O G0 s a w)(m:Nat):iA P w0 aR O G0 {s with heap:=s.heap++List.replicate m .free} a w:=by
 obtain⟨G,h⟩:=h;obtain⟨e,i,c⟩:=h.inv.extend (ae:=s.ae) m;exact⟨e,i,h.size,fun t v x f g=>(h.rep t v x f g).bF c,h.defers,fun b d=>⟨c.bD _ (h.nO b d).1,(c.val _ (h.nO b d).1).trans (h.nO b d).2⟩⟩
def iA.drew(h:iA P w0 aR O G0 s a w):iA P w0 aR O G0 s a {w with drawn:=w.drawn+1}:=by
 obtain⟨G,h⟩:=h;obtain⟨g,d⟩:=h.inv.drew (ae:=s.ae);exact⟨G,g,h.size,fun t v x e f=>(h.rep t v x e f).bF d,h.defers,fun b c=>⟨d.bD _ (h.nO b c).1,(d.val _ (h.nO b c).1).trans (h.nO b c).2⟩⟩
def tB.mono(n:∀f k h r l,E f k h r l->j f k h r l)(h:tB P E ops an nb i s m):tB P j ops an nb i s m:=by
 cases h with
 |run d b e g p q=>exact .run d b e g p fun c t=>n _ _ _ _ _ (q c t)
 |skip d b u=>exact .skip d b u
 |spec d b o e g=>exact .spec d b o e g
def ib.mono(e:∀f c h r d,E f c h r d->b f c h r d):∀(j:List Nat)(s:St),ib P E ops an nb j s k->ib P b ops an nb j s k
 |[],s,h=>h
 |i::l,s,⟨g,m,n⟩=>⟨g,m.mono e,ib.mono e l g n⟩
def fu.mono(g:∀f d h r e,E f d h r e->c f d h r e):∀(n:Nat)(b:List Nat)(s:St),fu P E ops an nb n b s k->fu P c ops an nb n b s k
 |0,b,s,h=>h
 |n+1,b,s,h=>fun i o p=>by
  obtain⟨j,l,m⟩:=h i o p;exact⟨j,l.mono g,fu.mono g n _ j m⟩
def zw{ops:Array Oper}(H:∀f z h r D,E f z h r D->zj P f z h r D)(R:P.follows .mixedOrders=true)(C:iA P w0 aR O G0 s a w)(h:LM P E ops.toList A id draw s k):
  (Code.region rid ops draw).wp P (fun e a' w'=>e = .normal/\∃d,k d/\Ka ops.toList s d/\iA P w0 aR O G0 d a' w') a w:=by
 unfold LM at h;extract_lets k' sl nb s1 at h
 have M:iA P w0 aR O G0 s1 a w:=C.Qe.extend _;have kill:∀(l:List AV)(x:Nat)B,l.getD x .none = .v (.bool B)->(l.map pD).getD x .none = .v (.bool B):=by
  intro l x B g;rw[bR]at g⊢;rw[bu];cases hy:l[x]? with
  |none=>rw[hy]at g;simp at g
  |some y=>rw[hy]at g;simp at g;subst g;rfl
 have I:∀d a' w',(k' d/\Ka ops.toList s1 d)->iA P w0 aR O G0 d a' w'->Exit.normal = .normal/\∃d,k d/\Ka ops.toList s d/\iA P w0 aR O G0 d a' w':=
  fun d a' w'⟨T,Y⟩X=>⟨rfl,_,T,fun x B g Z=>kill _ _ _ (Y x B g (kill _ _ _ Z)),X.Qe⟩
 split at h
 .exact h.elim
 all_goals
  rename_i S;have v:=X4 S;have n:eF ops.toList [] [] s1:=by
   refine⟨fun j b h=>by simp at h,fun i o j w h=>by simp at h,fun t c j w x h=>?_⟩
   exfalso;have h:(s.tmps.map pD).getD t .none = .opt c j w x:=h;rw[bR,bu]at h;cases g:s.tmps[t]? with
   |none=>rw[g]at h;simp at h
   |some y=>
    rw[g]at h;simp only[de,m0,pD]at h;cases y<;>simp at h
  have u:Part ops.toList [] (List.range ops.toList.length):=⟨qV,fun j m=>dY.1 m,by simp,fun j m q=>absurd (dY.2 m) q⟩
  have K:(List.range ops.toList.length).Pairwise (· < ·):=List.pairwise_lt_range
  skip
 .refine wp_region ?_
  rw[<-mA];exact ib.GU _ _ _ _ (ib.bF _ _ (ib.mono H _ _ (Cy v _ _ _ _ h n u K))) M I
 .split at h
  .exact h.elim
  .rename_i U
   have p:=Uy U;have J:rD ops.toList (List.range ops.toList.length):=fun j m q=>absurd (dY.2 m) q
   have Q:iI ops.size (Array.replicate ops.size false)=List.range ops.size:=by
    unfold iI;rw[yg];intro k F;have:=dY.1 F;simp[jG,this]
   have L:fu P (zj P) ops.toList (A.an id) nb (List.range ops.toList.length).length (List.range ops.toList.length) s1 k':=by
    refine fu.mono H _ _ _ ?_;split at h
    .rename_i N
     exact Cw v p N _ _ _ _ h n u J K
    .exact zu v p _ _ _ _ _ h n u J
   refine wp_region_any R (Uz (k:=fun d=>k' d/\Ka ops.toList s1 d) (an:=A.an id) (nb:=nb) p _ _ s1 a _ (by simp) (by rw[Q];simp) M.drew ?_ I)
   rw[Q];simpa using L.bF
end
section
variable {P:Program} {w0:World} {aR:Nat->Nat} {O:Nat->Prop} {G0 G:Gh} {s:St} {a:Act} {w:World}
def na{l:List α}{b y:α}(h:(l.set i b)[t]?=some y):(t=i/\y=b)\/(l[t]?=some y):=by
 by_cases e:t=i
 .subst e
  have c:t<l.length:=by have:=(aE.1 h).1;simpa using this
  rw[bU c]at h;exact .inl ⟨rfl,(ax h).symm⟩
 .rw[bT (Ne.symm e)]at h
  exact .inr h
def m7.slot(h:m7 P w0 aR O G0 G s a w)(b:a.tmps[t]?=some v)(c:s.tmps.getD t .none=x):aS G s.ae w v x:=by
 have:=h.at t;rw[c]at this;rw[jG,b]at this;exact this
def pN:∀(c:List (Nat×Nat))(s:St)(l:List AV)(bz:List (Option Nat)),iA P w0 aR O G0 s a w->oR c s.tmps s.ae=(l,bz)->iA P w0 aR O G0 {s with tmps:=l,ae:=bz} a w
 |[],s,l,bz,h,b=>by
  simp only[oR,aA]at b;obtain⟨rfl,rfl⟩:=b;exact h
 |(i,n)::c,s,l,bz,h,b=>by
  simp only[oR]at b;split at b
  .rename_i p
   obtain⟨G,h⟩:=h;refine pN c {s with tmps:=s.tmps.set i (.own s.ae.length 0 n []),ae:=s.ae++[some 0]} l bz ⟨G,h.inv,by simp[h.size],fun t v x e d=>?_,h.defers,h.nO⟩ b
   have k:cq G s.ae w G (s.ae++[some 0]) w:=⟨Grow.refl _ _,fun _ h=>h,fun _ _=>rfl,by simp,fun t m f j=>by
    rw[cj j]at f;exact⟨m,f,.inr ⟨rfl,fun _ g=>⟨g,rfl,rfl⟩⟩⟩⟩
   rcases na d with⟨rfl,rfl⟩|d
   .have o:v = .slice none 0 0:=by
     have:=h.slot e p;cases this with|v h=>cases h;rfl
    subst o;exact .own (by simp) (fun m _=>dV _) (.m3 n) fun _ q=>by omega
   .exact(h.rep t v x e d).bF k
  .exact pN c s l bz h b
def rE:∀(q:List (Nat×Nat))(s:St)(l:List AV)(k:List Bx),iA P w0 aR O G0 s a w->sH q s.tmps s.heap=(l,k)->iA P w0 aR O G0 {s with tmps:=l,heap:=k} a w
 |[],s,l,k,h,f=>by
  simp only[sH,aA]at f;obtain⟨rfl,rfl⟩:=f;exact h
 |(i,n)::q,s,l,k,h,f=>by
  simp only[sH]at f;split at f
  .rename_i M
   obtain⟨G,h⟩:=h;have K:¬G.bD s.heap.length:=fun j=>by have:=h.inv.nb _ j;omega
   let d:Nat->Value:=fun x=>if x=s.heap.length then .slice none 0 0 else G.val x
   let D:Nat->Prop:=fun x=>G.bD x\/x=s.heap.length
   have u:∀b,G.bD b->d b=G.val b:=fun b c=>by
    have:b≠s.heap.length:=fun e=>K (e▸c)
    simp[d,this]
   have Q:∀x:Hd,(fun x:Hd=>some x) x=some x:=fun _=>rfl
   have H:Inv P w0 aR O ⟨G.bX,(G.dM some).h,d,D⟩ (s.heap++[.bn n []]) w:=by
    refine h.inv.ghost some (fun x y z p o=>by cases p;cases o;rfl) (fun b c=>?_) (fun b bx c=>?_) (fun b m c r=>?_)
    .rcases c with c|rfl
     .have:=h.inv.nb b c;simp;omega
     .simp
    .rcases bY b s.heap.length with g|g
     .rw[cj g]at c
      refine(h.inv.box b bx c).dM (fun _ h=>.inl h) u (fun e j=>?_) fun x _=>rfl
      subst e;rcases j with j|j
      .exact h.inv.box b _ c j
      .omega
     .rw[eN g]at c
      have:b-s.heap.length=0:=by
       have:=(aE.1 c).1;simp at this;omega
      have J:b=s.heap.length:=by omega
      rw[this]at c;simp at c;subst c J;exact⟨.inr rfl,by simp,.inr ⟨rfl,none,by simp[d]⟩⟩
    .rcases bY b s.heap.length with g|g
     .rw[cj g]at c
      simp only[Gh.dM,gu]at r;exact h.inv.dead b m c r
     .rw[eN g]at c
      have:=aK c;simp at this
   have I:cq G s.ae w ⟨G.bX,(G.dM some).h,d,D⟩ s.ae w:=cq.ghost some (fun _ h=>.inl h) u (ar _) fun t m h _=>⟨m,h,.inr ⟨rfl,rfl⟩⟩
   refine rE q {s with tmps:=s.tmps.set i (.bA s.heap.length),heap:=s.heap++[.bn n []]} l k ⟨_,H,by simp[h.size],fun t v x p o=>?_,h.defers,fun b c=>⟨.inl (h.nO b c).1,(u b (h.nO b c).1).trans (h.nO b c).2⟩⟩ f
   rcases na o with⟨rfl,rfl⟩|o
   .have E:v = .slice none 0 0:=by
     have:=h.slot p M;cases this with|v h=>cases h;rfl
    subst E;have:d s.heap.length = .slice none 0 0:=by simp[d]
    rw[<-this];exact .bA (.inr rfl) (by show(d s.heap.length).oneCell'=true;rw[this];rfl)
   .exact(h.rep t v x p o).bF I
  .exact rE q s l k h f
def rF(d:List Bx):∀(n:Nat)(l c:List Nat),c.Nodup->(reach d n l c).Nodup
 |0,l,c,h=>by cases l<;>exact h
 |n+1,[],c,h=>h
 |n+1,b::l,c,h=>by
  simp only[reach];split
  .exact rF d n l c h
  .rename_i g
   refine rF d n _ _ ?_;rw[uz];refine⟨h,by simp,fun x i y f=>?_⟩
   simp at f;subst f;intro e;subst e;have:c.contains x=true:=by simpa using i
   rw[g]at this;simp at this
def wu(d:List Bx):∀(n:Nat)(l c:List Nat),∃m,reach d n l c=c++m
 |0,l,c=>⟨[],by cases l<;>simp[reach]⟩
 |n+1,[],c=>⟨[],by simp[reach]⟩
 |n+1,b::l,c=>by
  simp only[reach];split
  .exact wu d n l c
  .obtain⟨m,e⟩:=wu d n ((d.getD b .dead).refs++l) (c++[b])
   exact⟨b::m,by rw[e];simp⟩
def xy:∀(c:List Nat)(e:List Nat),Eg f ae c=some e->∀(j i:Nat),c[j]?=some i->∃t d n aj,f.getD i .none = .own t d n aj/\ae[t]?=some (some d)/\e[j]?=some t
 |[],e,h,j,i,b=>by simp at b
 |x::c,e,h,j,i,b=>by
  simp only[Eg]at h;split at h<;>try(simp at h;done)
  rename_i t d n aj q;split at h<;>try(simp at h;done)
  rename_i o;obtain⟨l,p,rfl⟩:=bc.1 h;cases j with
  |zero=>
   simp at b;subst b;exact⟨t,d,n,aj,q,aU o,rfl⟩
  |succ j=>
   obtain⟨y,z,u,v,g,k,m⟩:=xy c l p j i (by simpa using b)
   exact⟨y,z,u,v,g,k,by simpa using m⟩
def rG:∀(l:List Nat)(t i:Nat),l.idxOf? t=some i->l[i]?=some t
 |[],t,i,h=>by simp[List.idxOf?]at h
 |x::l,t,i,h=>by
  rw[List.idxOf?_cons]at h;split at h
  .rename_i b
   simp at h;subst h;simp at b;simp[b]
  .obtain⟨j,c,rfl⟩:=bc.1 h
   simpa using rG l t j c
def tE(f:Nat->α->β):∀(l:List α)(i j:Nat),(iW f i l)[j]?=(l[j]?).map (f (i+j))
 |[],i,j=>by simp[iW]
 |a::l,i,0=>by simp[iW]
 |a::l,i,j+1=>by
  simp only[iW,sF];rw[tE f l (i+1) j,show i+1+j=i+(j+1) by omega]
def tF(f:Nat->α->β):∀(l:List α)(i:Nat),(iW f i l).length=l.length
 |[],i=>rfl
 |a::l,i=>by simp[iW,tF f l]
def zx(c:List (Nat×Nat)):∀(h:List Bx)(k b:Nat)(y:Bx),(la c k h)[b]?=some y->∃x,h[b]?=some x/\(y=x\/∃cs,x = .cells cs/\y = .cells (iW (fun i a=>match c.contains (k+b,i)with|true=>a.view|false=>a) 0 cs))
 |[],k,b,y,h=>by simp[la]at h
 |x::h,k,b,y,d=>by
  cases b with
  |zero=>
   refine⟨x,rfl,?_⟩;cases x<;>simp only[la,yq,ay]at d<;>subst d
   .exact .inr ⟨_,rfl,rfl⟩
   all_goals exact .inl rfl
  |succ b=>
   have:(la c (k+1) h)[b]?=some y:=by cases x<;>simpa[la]using d
   obtain⟨z,f,e⟩:=zx c h (k+1) b y this;rw[show k+1+b=k+(b+1) by omega]at e
   exact⟨z,f,e⟩
def G6(b:List (Nat×Nat)):∀(h:List Bx)(k:Nat),(la b k h).length=h.length
 |[],k=>rfl
 |x::h,k=>by cases x<;>simp[la,G6 b h]
def eO.less(h:eO G w x v c):eO G w x v c.view:=by
 cases c<;>first|exact h|skip
 obtain⟨b,A,len,cap,e,d,-⟩:=h;exact⟨b,.v (e▸d)⟩
def gH.wc{p:Nat->Bool}(h:gH P G w b x)(t:y=x\/∃cs,x = .cells cs/\y = .cells (iW (fun i a=>match p i with|true=>a.view|false=>a) 0 cs)):gH P G w b y:=by
 rcases t with rfl|⟨cs,rfl,rfl⟩
 .exact h
 .obtain⟨u,X,elem,f,g,k,l,m,n,o⟩:=h
  refine⟨u,X,elem,f,g,k,l,by rw[tF];exact m,n,fun j v c q d=>?_⟩
  rw[tE]at d;obtain⟨e,z,rfl⟩:=bc.1 d;have:=o j v e q z;split
  .exact this.less
  .exact this
def Inv.select(u:Inv P w0 aR O G g w){d:List Nat}{dv:List (Option Nat)}(I:d.Nodup)(A:∀k H t:Nat,dv[k]?=some (some t)->dv[H]?=some (some t)->k=H)(Y:∀b∈d,∀b'∈(g.getD b .dead).refs,b'∈d)(Z:∀b∈d,(g.getD b .dead).simple=true):
  ∃p,lS G p (fun b=>d.idxOf b) (· ∈ d)/\(∀q t:Nat,dv[q]?=some (some t)->p.h (.tok q)=G.h (.tok t))/\Inv P w0 aR O p ((d.map fun b=>g.getD b .dead).map (Bx.dM fun b=>d.idxOf b)) w /\
   ∀i b:Nat,d[i]?=some b->G.bD b->p.bD i/\p.val i=G.val b:=by
 let σ:Hd->Option Hd:=lf d dv
 have X:∀x y z,σ x=some z->σ y=some z->x=y:=zk I A;let E:Nat->Value:=fun i=>G.val (d.getD i 0)
 let B:Nat->Prop:=fun i=>∃b,d[i]?=some b/\g.getD b .dead≠.free
 have K:∀b,G.bD b->g.getD b .dead≠.free:=by
  intro b c e;have M:=u.nb b c;have l:=bo M;rw[bR,l]at e;simp at e;rw[e]at l;exact u.box b _ l c
 have J:∀i b:Nat,d[i]?=some b->E i=G.val b:=fun i b h=>by simp[E,bR,h]
 have R:lS G ⟨G.bX,(G.dM σ).h,E,B⟩ (fun b=>d.idxOf b) (· ∈ d):=by
  refine⟨rfl,fun b c m=>⟨b,mF c,K b m⟩,fun b c=>J _ _ (mF c),fun b c=>?_,fun b j c=>?_,fun b k c=>?_⟩
  all_goals
   show(σ _).bind G.h=_
   simp[σ,lf,mF c]
 refine⟨_,R,fun q t T=>?_,u.ghost σ X (fun i F=>?_) (fun i y v=>?_) fun i n v m=>?_,fun i b c m=>⟨⟨b,c,K b m⟩,J i b c⟩⟩
 .show(σ _).bind G.h=_
  simp[σ,lf,T]
 .obtain⟨b,c,-⟩:=F
  simp;exact(aE.1 c).1
 .simp only[dW,bu]at v
  obtain⟨b,c,rfl⟩:=bc.1 v;have D:=aK c;simp only[DS];cases o:g[b]? with
  |none=>
   have:g.getD b .dead = .dead:=by rw[bR,o];rfl
   rw[this];exact⟨b,c,by rw[this];simp⟩
  |some x=>
   have l:g.getD b .dead=x:=by rw[bR,o];rfl
   by_cases f:x = .free
   .rw[l,f]
    rintro⟨b',r,Q⟩;rw[c]at r;obtain rfl:=ax r;exact Q (l.trans f)
   .have:=(u.box b x o).Uq (by rw[<-l];exact Z b D) (by cases x<;>simp[Bx.there]at f⊢) R D fun b' r=>Y b D b' (by rw[l];exact r)
    rw[wk I c]at this;rw[l];exact this
 .simp only[dW,bu]at v
  obtain⟨b,c,f⟩:=bc.1 v;have f:g.getD b .dead = .free:=zm f;have o:g[b]?=some .free:=by
   rw[bR]at f;cases o:g[b]? with
   |none=>rw[o]at f;simp at f
   |some x=>rw[o]at f;simp at f;rw[f]
  have m:(σ (.box i)).bind G.h=some n:=m;simp only[σ,lf,c,de,gu]at m;exact u.dead b n o m
def Inv.wc{i:List Bx}(c:Inv P w0 aR O G i w)(g:List (Nat×Nat)):Inv P w0 aR O G (la g 0 i) w where
 frame:=c.frame
 nb:=fun b k=>by rw[G6];exact c.nb b k
 box:=fun b y e=>by
  obtain⟨x,d,f⟩:=zx _ _ _ _ _ e;exact gH.wc (p:=fun j=>g.contains (0+b,j)) (c.box b x d) f
 inj:=c.inj
 nO:=c.nO
 dead:=fun b n e l=>by
  obtain⟨x,d,f⟩:=zx _ _ _ _ _ e;rcases f with rfl|⟨cs,-,h⟩
  .exact c.dead b n d l
  .simp at h
def LV{c:Cut}(W:∀b,G0.bD b->b<o)(h:iA P w0 aR O G0 s a w)(g:c.app o s=some H):iA P w0 aR O G0 H a w:=by
 unfold Cut.app at g;split at g
 rename_i tmps ae e;split at g
 rename_i i l d;split at g<;>try(simp at g;done)
 rename_i b0 a8;simp only at g;split at g<;>try(simp at g;done)
 rename_i M;obtain rfl:=ax g;simp only[cd]at M;obtain⟨⟨⟨L,N⟩,S⟩,U⟩:=M;have q:=pN _ s _ _ h e;have T:=rE _ {s with tmps:=tmps,ae:=ae} _ _ q d;clear q e d h;obtain⟨G,h⟩:=T;have a4:=rq _ L;have a1:=rF l 100 (c.refs i) (List.range o) qV;obtain⟨m,a7⟩:=wu l 100 (c.refs i) (List.range o);generalize a6:reach l 100 (c.refs i) (List.range o)=ids at*;clear a6;have B:Inv P w0 aR O G l w:=h.inv;have mem:∀b∈ids,l.getD b .dead∈ids.map fun b=>l.getD b .dead:=fun b f=>bh.2 ⟨b,f,rfl⟩
 obtain⟨Q,R,a9,hinv,a0⟩:=B.select (dv:=b0.map some) a1 (fun k k' t e d=>by
  simp only[bu,bc,ay,exists_eq_right]at e d;exact(List.getElem?_inj (aE.1 e).1 a4).1 (e.trans d.symm)) (fun b f b' V=>by
   have:=bf.1 S b' (eW.2 ⟨_,mem b f,V⟩);simpa using this) fun b f=>bf.1 U _ (mem b f)
 refine⟨Q,hinv.wc _,?_,fun t v x e d=>?_,h.defers,fun b f=>?_⟩
 .show a.tmps.size=(iW _ 0 i).length
  rw[tF];exact h.size
 .have d:(iW (c.slot fun b=>ids.idxOf b) 0 i)[t]?=some x:=d
  rw[tE,cv]at d;obtain⟨y,E,rfl⟩:=bc.1 d;have D:=h.rep t v y e E;have I:i.getD t .none=y:=by rw[bR,E];rfl
  unfold Cut.slot;split
  .exact .none _
  .rename_i p
   have p:t∈c.bl:=by simpa using p
   split
   .rename_i tk b2 n aj
    cases D with
    |@own _ _ _ _ A len cap ht b1 r a3=>
     split
     .rename_i j z
      obtain⟨t',N3,n',b3,u,X,Y⟩:=xy _ _ a8 j t (rG _ _ _ z);rw[I]at u;obtain⟨rfl,rfl,rfl,rfl⟩:=AV.own.inj u;have a2:j<c.owns.length:=(aE.1 (rG _ _ _ z)).1;exact .own (by simpa using a2) (fun _ _=>dV _) (r.jV R.bX) fun _=>(a3 X).eq R.bX (a9 j _ (by simp[Y]))
     .exact .v (r.jV R.bX)
   .split
    .rename_i K
     refine D.dM K R fun b f=>?_
     have C:b∈c.refs i:=by
      unfold Cut.refs;refine eW.2 ⟨t,p,?_⟩;rw[I];cases y<;>first|exact f|simp[AV.simple]at K
     have:=bf.1 N b C;simpa using this
    .exact .none _
 .have J:=W b f
  have a5:ids[b]?=some b:=by
   rw[a7,cj (by simpa using J),mz J]
  obtain⟨e,d⟩:=h.nO b f;obtain⟨Z,F⟩:=a0 b b a5 e;exact⟨Z,F.trans d⟩
def Kb(h:m7 P w0 aR O G0 G s a w)(d:Eh P s f=some x):
  ∃v,(match f with|.tmp t=>(pure (a.tmps.getD t undef):Sem Value)|.cell c t=>do loadVar t (<-asAddr (a.tmps.getD c undef))).run P w = .ok v w/\aS G s.ae w v x:=by
 cases f with
 |tmp t=>
  simp only[Eh,ay]at d;subst d;exact⟨_,rfl,h.at t⟩
 |cell c t=>
  simp only[Eh]at d;split at d<;>try(simp at d;done)
  rename_i b off m;split at d<;>try(simp at d;done)
  rename_i cs l;have e:=h.at c;rw[m]at e;show∃v,(do loadVar t (<-asAddr (a.tmps.getD c undef)):Sem Value).run P w = .ok v w/\aS G s.ae w v x
  generalize a.tmps.getD c undef=V at e⊢;cases e with
  |@az _ _ o D q=>
   obtain⟨p,X,elem,y,z,g,i,j,r,k⟩:=h.inv.box b _ l;rw[q]at g;obtain rfl:o=p:=by simpa using g
   obtain⟨v,n,u⟩:=Cg (P:=P) (ae:=s.ae) i j k d;exact⟨v,by simp[asAddr,n],u⟩
def G7(h:m7 P w0 aR O G0 G s a w)(q:wi P s fn.results.toList=some l):
  ∃b:List Value,(results fn a.tmps).run P w = .ok (uZ b) w/\lT G s.ae w b l:=by
 let f:ResultVar->Sem Value:=fun n=>match n with|.tmp t=>(pure (a.tmps.getD t undef):Sem Value)|.cell c t=>do loadVar t (<-asAddr (a.tmps.getD c undef))
 have key:∀(e:List ResultVar)(l:List AV),wi P s e=some l->∃b:List Value,(e.mapM f).run P w = .ok b w/\lT G s.ae w b l:=by
  intro e;induction e with
  |nil=>
   intro l d;simp only[wi,ay]at d;subst d;exact⟨[],by simp,rfl,fun i v a m=>by simp at m⟩
  |cons n e r=>
   intro l d;unfold wi at d;split at d<;>try(simp at d;done)
   rename_i x D z E;simp only[ay]at d;subst d;obtain⟨v,m,J⟩:=Kb h z;obtain⟨b,o,k⟩:=r D E;refine⟨v::b,?_,by simp[k.1],fun i u y g j=>?_⟩
   .have I:(f n).run P w = .ok v w:=m
    simp[List.mapM_cons,I,o]
   .cases i with
    |zero=>simp at g j;subst g;subst j;exact J
    |succ i=>simp at g j;exact k.2 i u y g j
 obtain⟨b,o,k⟩:=key _ _ q;refine⟨b,?_,k⟩;have p:(fn.results.mapM f).run P w = .ok b.toArray w:=by
  rw[<-DV (xs:=fn.results)];rw[List.mapM_toArray];simp[o]
 have:results fn a.tmps=(do let b <-fn.results.mapM f;pure (if h:b.size=1 then b[0]else .tuple b)):=rfl
 rw[this];simp only[Sem.run_bind,p,Result.andThen_ok,Sem.run_pure];congr 1
 match b with
 |[]=>rfl
 |[v]=>rfl
 |v::K::b=>simp[uZ]
def Cz{x:AV}(h:∀b∈x.nQ,f b=b):x.uM f=x:=by
 cases x<;>simp[AV.nQ,AV.uM]at h⊢ <;> exact h
def rH:∀{l:List α},(∀x∈l,f x=x)->l.map f=l
 |[],_=>rfl
 |a::l,h=>by rw[bG,h a (aW ..),rH fun x b=>h x (aV _ b)]
def G8{x:AV}(e:x.simple=true)(h:∀b∈x.refs,f b=b):x.dM f=x:=by
 by_cases d:∃g l m,x = .fn g l m
 .obtain⟨g,first,cap,rfl⟩:=d
  have key:∀a∈first++cap,a.uM f=a:=fun a c=>Cz fun b k=>h b (by simp only[AV.refs,eW];exact⟨a,c,k⟩)
  simp only[AV.dM];rw[rH fun a c=>key a (ef _ c),rH fun a c=>key a (fD _ c)]
 .have i:x.dM f=x.uM f:=by cases x<;>first|rfl|exact absurd ⟨_,_,_,rfl⟩ d|simp[AV.simple]at e
  have j:x.refs=x.nQ:=by cases x<;>first|rfl|exact absurd ⟨_,_,_,rfl⟩ d|simp[AV.simple]at e
  rw[i];exact Cz (j▸h)
def CA{x:Bx}(e:x.simple=true)(h:∀b∈x.refs,f b=b):x.dM f=x:=by
 cases x with
 |cells cs=>
  simp only[Bx.dM];rw[rH fun a c=>G8 (bf.1 e a c) fun b d=>h b (by simp only[Bx.refs,eW];exact⟨a,c,d⟩)]
 |_=>rfl
def gH.bD(h:gH P G w b x)(c:x≠.free):G.bD b:=by
 cases x with
 |cells cs=>obtain⟨_,_,_,h,_⟩:=h;exact h
 |bn n aj=>exact h.1
 |uK n aj=>exact h.1
 |map t d=>obtain⟨_,_,_,h,_⟩:=h;exact h
 |dead=>exact h
 |free=>exact absurd rfl c
def Inv.move(o:Inv P w0 aR O G heap w)(I:heap[b]?=some x)(J:x≠.free)(Y:x.simple=true)(K:∀c∈x.refs,c≠b/\c≠heap.length):
  ∃r,Inv P w0 aR O r (heap.set b .dead++[x]) w/\cq G ae w r ae w/\r.bD heap.length/\r.val heap.length=G.val b:=by
 have Q:=(aE.1 I).1;let N:=heap.length
 have S:b≠N:=Nat.ne_of_lt Q;have W:¬G.bD N:=fun h=>Nat.lt_irrefl _ (o.nb _ h)
 let g:Nat->Option Nat:=fun i=>if i=b then none else if i=N then some b else some i
 have T:∀i j c,g i=some c->g j=some c->i=j:=by
  intro i j c f m;simp only[g]at f m;split at f<;>try(simp at f;done)
  split at m<;>try(simp at m;done)
  split at f<;>split at m<;>simp only[ay]at f m<;>omega
 let σ:Hd->Option Hd:=fun x=>match x with
  |.box i=>(g i).map .box
  |.cell i j=>(g i).map fun c=>.cell c j
  |.ov i k=>(g i).map fun c=>.ov c k
  |.tok t=>some (.tok t)
 have L:∀x y z,σ x=some z->σ y=some z->x=y:=by
  intro x y z f m;cases x<;>cases y<;>simp only[σ,bc]at f m
  .obtain⟨c,f,rfl⟩:=f;obtain⟨d,m,e⟩:=m;cases e;rw[T _ _ _ f m]
  .obtain⟨c,f,rfl⟩:=f;obtain⟨d,m,e⟩:=m;cases e
  .obtain⟨c,f,rfl⟩:=f;obtain⟨d,m,e⟩:=m;cases e
  .obtain⟨c,f,rfl⟩:=f;cases m
  .obtain⟨c,f,rfl⟩:=f;obtain⟨d,m,e⟩:=m;cases e
  .obtain⟨c,f,rfl⟩:=f;obtain⟨d,m,e⟩:=m;cases e;rw[T _ _ _ f m]
  .obtain⟨c,f,rfl⟩:=f;obtain⟨d,m,e⟩:=m;cases e
  .obtain⟨c,f,rfl⟩:=f;cases m
  .obtain⟨c,f,rfl⟩:=f;obtain⟨d,m,e⟩:=m;cases e
  .obtain⟨c,f,rfl⟩:=f;obtain⟨d,m,e⟩:=m;cases e
  .obtain⟨c,f,rfl⟩:=f;obtain⟨d,m,e⟩:=m;cases e;rw[T _ _ _ f m]
  .obtain⟨c,f,rfl⟩:=f;cases m
  .cases f;obtain⟨d,m,e⟩:=m;cases e
  .cases f;obtain⟨d,m,e⟩:=m;cases e
  .cases f;obtain⟨d,m,e⟩:=m;cases e
  .cases f;cases m;rfl
 let q:Nat->Value:=fun c=>if c=N then G.val b else G.val c
 let A:Nat->Prop:=fun c=>G.bD c\/c=N
 have F:∀c,G.bD c->q c=G.val c:=fun c l=>by
  have:c≠N:=fun e=>W (e▸l)
  simp[q,this]
 have B:∀c,c≠b->c≠N->∀x:Hd,x.on c->σ x=some x:=by
  intro c f m x M;have C:g c=some c:=by simp[g,f,m]
  cases x<;>simp only[Hd.on]at M<;>first|exact M.elim|(subst M;simp only[σ,C,de])
 have V:g N=some b:=by simp[g,Ne.symm S]
 refine⟨⟨G.bX,(G.dM σ).h,q,A⟩,o.ghost σ L (fun c l=>?_) (fun c y l=>?_) (fun c n l u=>?_),cq.ghost σ (fun _ h=>.inl h) F (ar _) fun t n h _=>⟨n,h,.inr ⟨rfl,rfl⟩⟩,.inr rfl,by simp[q,N]⟩
 .rcases l with l|rfl
  .have:=o.nb c l;simp;omega
  .simp[N]
 .rcases bY c N with p|p
  .rw[cj (by simpa using p)]at l
   by_cases v:c=b
   .subst v
    rw[bU Q]at l;obtain rfl:=ax l;exact .inl ((o.box c x I).bD J)
   .rw[bT (Ne.symm v)]at l
    refine(o.box c y l).dM (fun _ h=>.inl h) F (fun e D=>?_) (B c v (Nat.ne_of_lt p))
    subst e;rcases D with D|D
    .exact o.box c _ l D
    .omega
  .rw[eN (by simpa using p)]at l
   have X:c-(heap.set b .dead).length=0:=by
    have:=(aE.1 l).1;simp at this⊢;omega
   have U:c=N:=by simp at X;omega
   rw[X]at l;simp at l;subst l U;have R:lS G ⟨G.bX,(G.dM σ).h,q,A⟩ (fun c=>if c=b then N else c) (fun c=>c=b\/c∈x.refs):=by
    have other:∀c,c∈x.refs->c≠b/\g c=some c:=fun c l=>by
     obtain⟨f,m⟩:=K c l;exact⟨f,by simp[g,f,show c≠N from m]⟩
    have E:∀c,(c=b\/c∈x.refs)->g (if c=b then N else c)=some c:=by
     rintro c (rfl|l)
     .simp[V]
     .obtain⟨f,m⟩:=other c l;simp[f,m]
    refine⟨rfl,fun c l u=>?_,fun c l=>?_,fun c l=>?_,fun c j l=>?_,fun c k l=>?_⟩
    .rcases l with rfl|l
     .exact .inr (by simp)
     .exact .inl (by simpa[(other c l).1]using u)
    .rcases l with rfl|l
     .simp[q]
     .obtain⟨f,m⟩:=K c l;simp[q,f,show c≠N from m]
    .show(σ (.box _)).bind G.h=_
     simp only[σ,E c l,de,gu]
    .show(σ (.cell _ j)).bind G.h=_
     simp only[σ,E c l,de,gu]
    .show(σ (.ov _ k)).bind G.h=_
     simp only[σ,E c l,de,gu]
   have:=(o.box b x I).Uq Y (by cases x<;>simp[Bx.there]at J⊢) R (.inl rfl) fun c l=>.inr l
   rw[CA Y fun c l=>by simp[(K c l).1]]at this
   simpa using this
 .have Z:c<N:=by
   rcases bY c N with p|p
   .exact p
   .exfalso
    rw[eN (by simpa using p)]at l
    have:=aK l;simp at this;exact J this.symm
  rw[cj (by simpa using Z)]at l
  have v:c≠b:=by
   intro e;subst e;rw[bU Q]at l;simp at l
  rw[bT (Ne.symm v)]at l;have u:(σ (.box c)).bind G.h=some n:=u;rw[B c v (Nat.ne_of_lt Z) (.box c) rfl]at u;exact o.dead c n l u
def wx(base H b:Nat):Nat:=if b<base then b else base+(b-H)
structure rI (G Gf:Gh) (base H m:Nat) (dv:List (Option Nat)):Prop where
 dM:lS G Gf (wx base H) (fun b=>b<base\/(H<=b/\b<H+m))
 tok:∀q t:Nat,dv[q]?=some (some t)->Gf.h (.tok q)=G.h (.tok t)
structure te (P:Program) (w0:World) (aR:Nat->Nat) (O:Nat->Prop) (G:Gh) (w:World) (base H:Nat) (bV ae dv:List (Option Nat)) (heap bx:List Bx):Prop where
 inv:Inv P w0 aR O G (heap++bx) w
 len:heap.length=H
 Om:rp bV ae dv
 ok:∀x∈bx,x.simple=true/\x.under base=true
def AV.nf{x:AV}(h:x.under n=true)(c:b∈x.refs):b<n:=aU (bf.1 h b c)
def vb{x:AV}(d:x.simple=true)(h:x.under base=true):x.dM (wx base H)=x:=G8 d fun b c=>by simp[wx,AV.nf h c]
section
variable {base H:Nat} {bV ae dv:List (Option Nat)} {heap bx:List Bx}
def te.move(g:te P w0 aR O G w base H bV ae dv heap bx)(i:heap[b]?=some x)(p:x≠.free)(k:x.simple=true)(l:x.under base=true)(q:∀c∈x.refs,c≠b)(v:base<=H):
  ∃d,te P w0 aR O d w base H bV ae dv (heap.set b .dead) (bx++[x])/\cq G bV w d bV w/\d.bD (H+bx.length)/\d.val (H+bx.length)=G.val b:=by
 have o:=(aE.1 i).1;have u:(heap++bx)[b]?=some x:=by rw[cj o];exact i
 have hlen:(heap++bx).length=H+bx.length:=by rw[dC,g.len]
 obtain⟨d,m,t,f,n⟩:=g.inv.move (ae:=bV) u p k fun c j=>⟨q c j,by
  have:c<base:=aU (bf.1 l c j);rw[hlen];omega⟩
 rw[hlen]at f n;refine⟨d,⟨?_,by simpa using g.len,g.Om,fun y e=>?_⟩,t,f,n⟩
 .rw[List.set_append_left _ _ o,bq]at m
  exact m
 .rcases bp.1 e with e|e
  .exact g.ok y e
  .simp at e;subst e;exact⟨k,l⟩
def vc(g:te P w0 aR O G w base H bV ae dv heap bx)(h:uQ base b heap bx=some (b',k,j))(o:G.bD b)(y:base<=b)(n:base<=H):
  ∃d x,b'=base+bx.length/\j=bx++[x]/\te P w0 aR O d w base H bV ae dv k j/\cq G bV w d bV w/\d.bD (H+bx.length)/\d.val (H+bx.length)=G.val b:=by
 unfold uQ at h;split at h<;>try(simp at h;done)
 rename_i x i;split at h<;>try(simp at h;done)
 rename_i f;simp only[cd]at f;simp only[ay,aA]at h;obtain⟨rfl,rfl,rfl⟩:=h;have p:x≠.free:=by
  intro e;subst e;have u:=(aE.1 i).1;exact g.inv.box b .free (by rw[cj u];exact i) o
 obtain⟨d,m,q,l,t⟩:=g.move i p f.1 f.2 (fun c v=>by
  have:c<base:=aU (bf.1 f.2 c v);omega) n
 exact⟨d,x,rfl,rfl,m,q,l,t⟩
def UA(o:aS G bV w v (.az b off))(f:c.bD (H+j))(p:c.val (H+j)=G.val b)(k:cq c bV w d bV w)(x:j<m)(t:base<=H)(L:rI d e base H m q):
  aS e T w v (.az (base+j) off):=by
 have n:wx base H (H+j)=base+j:=by simp[wx];omega
 have i:(H+j)<base\/(H<=H+j/\H+j<H+m):=.inr ⟨by omega,by omega⟩
 cases o with
 |@az _ _ y u h=>
  have g:=L.dM.bD _ i (k.bD _ f);have l:=L.dM.val _ i;rw[n]at g l;exact .az g (l.trans ((k.val _ f).trans (p.trans h)))
def vd(R:base<=H):∀(l:List AV)(heap bx:List Bx)(m:List AV)(t d:List Bx)(G:Gh)(I:List Value),lG base l heap bx=some (m,t,d)->te P w0 aR O G w base H bV ae dv heap bx->(∀a∈l,a.simple=true)->(∀a∈l,∀g f c,a≠.fn g f c)->
  I.length=l.length->(∀(j:Nat)v a,I[j]?=some v->l[j]?=some a->aS G bV w v a)->
  ∃q,te P w0 aR O q w base H bV ae dv t d/\cq G bV w q bV w/\(∃e,d=bx++e)/\m.length=l.length/\(∀a∈m,∀b∈a.nQ,b<base+d.length)/\
   ∀(o p:Gh)(T y:List (Option Nat))(n:Nat),cq q bV w o bV w->d.length<=n->rI o p base H n y->∀(j:Nat)v b,I[j]?=some v->m[j]?=some b->aS p T w v b
 |[],heap,bx,m,t,d,G,I,h,g,_,_,Y,E=>by
  simp only[lG,ay,aA]at h;obtain⟨rfl,rfl,rfl⟩:=h;exact⟨G,g,cq.refl _ _ _,⟨[],by simp⟩,rfl,by simp,fun _ _ _ _ _ _ _ _ j v b _ i=>by simp at i⟩
 |a::l,heap,bx,m,t,d,G,[],h,g,N,C,Y,E=>by simp at Y
 |a::l,heap,bx,m,t,d,G,v::I,h,g,N,C,Y,E=>by
  have step:∀(c:AV)(Q D:List Bx)(k:List AV)(J:Gh),lG base l Q D=some (k,t,d)->te P w0 aR O J w base H bV ae dv Q D->cq G bV w J bV w->(∃e,D=bx++e)->(∀b∈c.nQ,b<base+D.length)->
    (∀(o p:Gh)(T y:List (Option Nat))(n:Nat),cq J bV w o bV w->D.length<=n->rI o p base H n y->aS p T w v c)->
    ∃q,te P w0 aR O q w base H bV ae dv t d/\cq G bV w q bV w/\(∃e,d=bx++e)/\(c::k).length=(a::l).length/\(∀a∈c::k,∀b∈a.nQ,b<base+d.length)/\
     ∀(o p:Gh)(T y:List (Option Nat))(n:Nat),cq q bV w o bV w->d.length<=n->rI o p base H n y->∀(j:Nat)u b,(v::I)[j]?=some u->(c::k)[j]?=some b->aS p T w u b:=by
   intro c Q D k J X gA F ⟨e,B⟩ hc hr;obtain⟨q,g2,W,⟨e',a0⟩,l2,b2,r2⟩:=vd R l Q D k t d J I X gA (fun a E=>N a (aV _ E)) (fun a E=>C a (aV _ E)) (by simpa using Y)
    fun j u a t h2=>(E (j+1) u a (by simpa using t) (by simpa using h2)).bF F
   have a4:D.length<=d.length:=by rw[a0];simp
   refine⟨q,g2,F.trans W,⟨e++e',by rw[a0,B];simp⟩,by simp[l2],fun x S b i=>?_,fun o p T y n M Z L j u b z i=>?_⟩
   .rcases aY.1 S with rfl|S
    .have:=hc b i;omega
    .exact b2 x S b i
   .cases j with
    |zero=>simp at z i;subst z;subst i;exact hr o p T y n (W.trans M) (by omega) L
    |succ j=>exact r2 o p T y n M Z L j u b (by simpa using z) (by simpa using i)
  have A:=E 0 v a rfl rfl;have U:=N a (aW ..);have a2:=C a (aW ..);have same:∀(x:AV),x=a->a.under base=true->∀k,lG base l heap bx=some (k,t,d)->m=a::k->∃q,te P w0 aR O q w base H bV ae dv t d/\cq G bV w q bV w/\(∃e,d=bx++e)/\m.length=(a::l).length/\(∀a∈m,∀b∈a.nQ,b<base+d.length)/\
     ∀(o p:Gh)(T y:List (Option Nat))(n:Nat),cq q bV w o bV w->d.length<=n->rI o p base H n y->∀(j:Nat)u b,(v::I)[j]?=some u->m[j]?=some b->aS p T w u b:=by
   intro x _ z k K hm;subst hm;have e2:a.refs=a.nQ:=by cases a<;>first|rfl|exact absurd rfl (a2 _ _ _)|simp[AV.simple]at U
   refine step a heap bx k G K g (cq.refl _ _ _) ⟨[],by simp⟩ (fun b i=>by have:=AV.nf z (e2▸i);omega) fun o p T y n M Z L=>?_
   have:=(A.bF M).dM (bz:=T) U L.dM fun b i=>.inl (AV.nf z i)
   rw[vb U z]at this;exact this
  by_cases V:∃b off,a = .az b off
  .obtain⟨b,off,rfl⟩:=V
   simp only[lG]at h;split at h
   .rename_i i
    obtain⟨⟨k,r'⟩,K,e⟩:=bc.1 h;simp only[aA]at e;obtain⟨rfl,rfl⟩:=e;exact same _ rfl (by simp[AV.under,AV.refs,AV.nQ,aU i]) k K rfl
   .rename_i i
    split at h<;>try(simp at h;done)
    rename_i b' Q D a3;obtain⟨⟨k,r'⟩,K,e⟩:=bc.1 h;simp only[aA]at e;obtain⟨rfl,rfl⟩:=e;have a1:G.bD b:=by cases A with|az B _=>exact B
    obtain⟨J,x,rfl,rfl,g1,F,e1,v1⟩:=vc g a3 a1 (by simpa using bI i) R
    refine step _ Q _ k J K g1 F ⟨_,rfl⟩ (fun b i=>by simp[AV.nQ]at i;subst i;simp) fun o p T y n M Z L=>?_
    exact UA A e1 v1 M (by simp at Z;omega) R L
  .have X:(match a.under base with
    |true=>(lG base l heap bx).map fun(m,r)=>(a::m,r)
    |false=>none)=some (m,t,d):=by
    cases a<;>first|exact h|exact absurd ⟨_,_,rfl⟩ V
   split at X<;>try(simp at X;done)
   rename_i z;obtain⟨⟨k,r'⟩,K,e⟩:=bc.1 X;simp only[aA]at e;obtain⟨rfl,rfl⟩:=e;exact same _ rfl z k K rfl
end
end
section
variable {P:Program} {w0:World} {aR:Nat->Nat} {O:Nat->Prop} {G0 G:Gh} {s:St} {a:Act} {w:World}
variable {base H:Nat} {bV ae dv:List (Option Nat)} {heap bx:List Bx}
def Kc(P:Program)(w0:World)(aR:Nat->Nat)(O:Nat->Prop)(G:Gh)(w:World)(base H:Nat)(bV dv:List (Option Nat))(bx:List Bx)(k:List Value)(r:List AV)(m f:List Bx):Prop:=
 ∃d bz c,te P w0 aR O d w base H bV bz c m f/\cq G bV w d bV w/\(∃e,f=bx++e)/\(∃e,c=dv++e)/\r.length=k.length/\cD r=List.replicate (c.length-dv.length) (some 0)/\
  ∀(g i:Gh)(T l:List (Option Nat))(n:Nat),cq d bV w g bV w->f.length<=n->rI g i base H n l->(∀(q:Nat)x,c[q]?=some x->l[q]?=some x)->(∀q:Nat,q<c.length->T[q]?=some (some 0))->
   ∀(j:Nat)v b,k[j]?=some v->r[j]?=some b->aS i T w v b
def Kc.cons(h:Kc P w0 aR O o w base H bV d m K r y t)(U:cq G bV w o bV w)(k:∃e,m=bx++e)(S:∃e,d=dv++e)(R:cD [c]=List.replicate (d.length-dv.length) (some 0))(N:∀(f i:Gh)(T l:List (Option Nat))(n:Nat),cq o bV w f bV w->m.length<=n->rI f i base H n l->(∀(q:Nat)x,d[q]?=some x->l[q]?=some x)->(∀q:Nat,q<d.length->T[q]?=some (some 0))->aS i T w v c):
  Kc P w0 aR O G w base H bV dv bx (v::K) (c::r) y t:=by
 obtain⟨Q,bz,M,g,I,⟨X,f1⟩,⟨Y,f2⟩,B,A,V⟩:=h;obtain⟨Z,f3⟩:=k;obtain⟨F,f4⟩:=S;have W:d.length<=M.length:=by rw[f2];simp
 have l2:m.length<=t.length:=by rw[f1];simp
 have l3:dv.length<=d.length:=by rw[f4];simp
 refine⟨Q,bz,M,g,U.trans I,⟨Z++X,by rw[f1,f3];simp⟩,⟨F++Y,by rw[f2,f4];simp⟩,by simp[B],?_,fun f i T l n J C L D z j u b p k=>?_⟩
 .rw[u3,R,A,List.replicate_append_replicate]
  congr 1
  omega
 .cases j with
  |zero=>
   simp at p k;subst p;subst k;exact N f i T l n (I.trans J) (by omega) L (fun q x E=>D q x (by rw[f2,cj (aE.1 E).1];exact E)) fun q a0=>z q (by omega)
  |succ j=>exact V f i T l n J C L D z j u b (by simpa using p) (by simpa using k)
def sK(S:base<=H):∀(Y:List AV)(C:List TypeId)(ae dv:List (Option Nat))(heap bx:List Bx)(r:List AV)(D J:List Bx)(G:Gh)(B:List Value),
  kU P rf base C Y ae heap bx dv.length=some (r,D,J)->te P w0 aR O G w base H bV ae dv heap bx->B.length=Y.length->(∀(j:Nat)v a,B[j]?=some v->Y[j]?=some a->aS G bV w v a)->
  Kc P w0 aR O G w base H bV dv bx B r D J
 |[],C,ae,dv,heap,bx,r,D,J,G,B,h,g,N,X=>by
  simp only[kU,ay,aA]at h;obtain⟨rfl,rfl,rfl⟩:=h;exact⟨G,ae,dv,g,cq.refl _ _ _,⟨[],by simp⟩,⟨[],by simp⟩,N.symm,by simp[cD],fun _ _ _ _ _ _ _ _ _ _ j v b _ p=>by simp at p⟩
 |a::Y,C,ae,dv,heap,bx,r,D,J,G,[],h,g,N,X=>by simp at N
 |a::Y,C,ae,dv,heap,bx,r,D,J,G,v::B,h,g,N,X=>by
  have F:=X 0 v a rfl rfl;have plain:∀(c:AV)(Q K:List Bx)(M:Gh),(kU P rf base C.tail Y ae Q K dv.length).map (fun(l,h)=>(c::l,h))=some (r,D,J)->te P w0 aR O M w base H bV ae dv Q K->cq G bV w M bV w->(∃e,K=bx++e)->c.rr=false ->
    (∀(d i:Gh)(T o:List (Option Nat))(n:Nat),cq M bV w d bV w->K.length<=n->rI d i base H n o->aS i T w v c)->Kc P w0 aR O G w base H bV dv bx (v::B) r D J:=by
   intro c Q K M I Z R p V hr;obtain⟨⟨l,hh⟩,I,e⟩:=bc.1 I;simp only[aA]at e;obtain⟨rfl,rfl⟩:=e;exact(sK S Y C.tail ae dv Q K l D J M B I Z (by simpa using N) fun j u b z y=>(X (j+1) u b (by simpa using z) (by simpa using y)).bF R).cons R p ⟨[],by simp⟩ (by rw[ru V];simp) fun d i T o n k q L _ _=>hr d i T o n k q L
  have self:∀(c:AV),(kU P rf base C.tail Y ae heap bx dv.length).map (fun(l,h)=>(c::l,h))=some (r,D,J)->c.rr=false->(∀(d i:Gh)(T o:List (Option Nat))(n:Nat),cq G bV w d bV w->bx.length<=n->rI d i base H n o->aS i T w v c)->Kc P w0 aR O G w base H bV dv bx (v::B) r D J:=
   fun c I V hr=>plain c heap bx G I g (cq.refl _ _ _) ⟨[],by simp⟩ V hr
  have b7:∀{b b':Nat}{Q K:List Bx}{u:AV}(_:u = .mp b),uQ base b heap bx=some (b',Q,K)->¬b<base->aS G bV w v u->(kU P rf base C.tail Y ae Q K dv.length).map (fun(l,h)=>(.mp b'::l,h))=some (r,D,J)->Kc P w0 aR O G w base H bV dv bx (v::B) r D J:=by
   intro b b' Q K u hu a2 p F I;subst hu;cases F with
   |mp he ho=>
    obtain⟨M,x,rfl,rfl,Z,R,z,v1⟩:=vc g a2 he (Nat.le_of_not_lt p) S;refine plain _ Q _ M I Z R ⟨_,rfl⟩ rfl fun d i T o n k q L=>?_
    have a3:wx base H (H+bx.length)=base+bx.length:=by simp[wx];omega
    have W:(H+bx.length)<base\/(H<=H+bx.length/\H+bx.length<H+n):=.inr ⟨by omega,by simp at q;omega⟩
    have y:=L.dM.bD _ W (k.bD _ z);have v2:=(L.dM.val _ W).trans ((k.val _ z).trans v1);rw[a3]at y v2;rw[<-v2]at ho⊢;exact .mp y ho
  unfold kU at h;simp only at h;split at h
  .have hv:v = .slice none 0 0:=by cases F with|v h=>cases h;rfl
   split at h
   .rename_i n q
    obtain⟨⟨l,hh⟩,I,e⟩:=bc.1 h;simp only[aA]at e;obtain⟨rfl,rfl⟩:=e;have Z:te P w0 aR O G w base H bV ae (dv++[none]) heap bx:=⟨g.inv,g.len,g.Om.cN,g.ok⟩;refine(sK S Y C.tail _ _ heap bx l D J G B (by simpa using I) Z (by simpa using N) fun j u b z y=>X (j+1) u b (by simpa using z) (by simpa using y)).cons (cq.refl _ _ _) ⟨[],by simp⟩ ⟨_,rfl⟩ (by simp[cD]) fun d i T o n k q L I hT=>?_
    subst hv;exact .own (aE.1 (hT dv.length (by simp))).1 (fun _ _=>dV _) (.m3 _) fun _ c1=>by omega
   .have key:∀(d i:Gh)(T o:List (Option Nat))(n:Nat),cq G bV w d bV w->bx.length<=n->rI d i base H n o->aS i T w v (.v .nil):=by
     intro d i T o n k q L;have:=(F.bF k).dM (bz:=T) rfl L.dM fun b p=>by simp[AV.refs,AV.nQ]at p
     exact this
    split at h
    .exact self _ h (tz rfl) fun d i T o n k q L=>(key d i T o n k q L).norm
    .exact self _ h rfl key
  .rename_i t c2 n aj
   split at h
   .rename_i hd
    have a8:=aU hd;obtain⟨⟨l,hh⟩,I,e⟩:=bc.1 h;simp only[aA]at e;obtain⟨rfl,rfl⟩:=e;have Z:te P w0 aR O G w base H bV (ae.set t none) (dv++[some t]) heap bx:=⟨g.inv,g.len,g.Om.snoc a8,g.ok⟩;refine(sK S Y C.tail _ _ heap bx l D J G B (by simpa using I) Z (by simpa using N) fun j u b z y=>X (j+1) u b (by simpa using z) (by simpa using y)).cons (cq.refl _ _ _) ⟨[],by simp⟩ ⟨_,rfl⟩ (by simp[cD]) fun d i T o n k q L I hT=>?_
    have h2:=F.bF k;cases h2 with
    |@own _ _ _ _ A len cap ht b4 hp a6=>
     have b6:=hT dv.length (by simp)
     refine .own (aE.1 b6).1 (fun _ _=>dV _) (hp.jV L.dM.bX) fun _=>?_
     exact(a6 (g.Om.bl _ _ a8)).eq L.dM.bX (L.tok _ _ (I _ _ (by simp)))
   .refine self _ h rfl fun d i T o n k q L=>?_
    cases F.bF k with
    |own ht b4 hp a6=>exact .v (hp.jV L.dM.bX)
  .rename_i b
   have c0:v=G.val b/\G.bD b/\v.oneCell'=true:=by cases F with|bA he ho=>exact⟨rfl,he,ho⟩
   obtain⟨rfl,he,a7⟩:=c0;split at h<;>try(simp at h;done)
   .rename_i n aj U
    have a0:=(aE.1 U).1;have a4:(heap++bx)[b]?=some (.bn n aj):=by rw[cj a0];exact U
    split at h
    .obtain⟨M,i1,R,p1⟩:=g.inv.freeze (ae:=bV) (.inl a4)
     rw[List.set_append_left _ _ a0]at i1;refine plain _ _ bx M h ⟨i1,by simpa using g.len,g.Om,g.ok⟩ R ⟨[],by simp⟩ rfl fun d i T o n k q L=>?_
     exact .v ((p1.grow k.grow).jV L.dM.bX)
    .obtain⟨M,Z,R,z,v1⟩:=g.move U (by simp) rfl rfl (fun c E=>by simp[Bx.refs]at E) S
     refine plain _ _ _ M h Z R ⟨_,rfl⟩ rfl fun d i T o n k q L=>?_
     have a3:wx base H (H+bx.length)=base+bx.length:=by simp[wx];omega
     have W:(H+bx.length)<base\/(H<=H+bx.length/\H+bx.length<H+n):=.inr ⟨by omega,by simp at q;omega⟩
     have y:=L.dM.bD _ W (k.bD _ z);have v2:=(L.dM.val _ W).trans ((k.val _ z).trans v1);rw[a3]at y v2;rw[<-v2]at a7⊢;exact .bA y a7
   .rename_i n aj U
    have a0:=(aE.1 U).1;have a4:(heap++bx)[b]?=some (.uK n aj):=by rw[cj a0];exact U
    have b2:=g.inv.box b _ a4;refine self _ h rfl fun d i T o n k q L=>?_
    exact .v ((b2.2.grow k.grow).jV L.dM.bX)
  .rename_i b
   split at h
   .rename_i p
    have p:=aU p;refine self _ h rfl fun d i T o n k q L=>?_
    have:=(F.bF k).dM (bz:=T) (f:=wx base H) rfl L.dM fun c E=>by simp[AV.refs,AV.nQ]at E;subst E;exact .inl p
    rw[vb rfl (by simp[AV.under,AV.refs,AV.nQ,p])]at this
    exact this
   .rename_i p
    split at h<;>try(simp at h;done)
    rename_i b' Q K a2;exact b7 rfl a2 (by simpa using bI p) F h
  .rename_i gf first cap
   split at h<;>try(simp at h;done)
   rename_i b8 Q K E b5;simp only[cd]at E;obtain⟨b9,b3⟩:=E;have a1:∀a∈first++cap,a.simple=true/\∀g l m,a≠.fn g l m:=by
    intro a X;have:=bf.1 (by simpa[AV.simple]using b9) a X
    cases a<;>simp at this<;>exact⟨rfl,by simp⟩
   cases F with
   |@fn _ fi ca _ _ a9 a5 b0 b1=>
    obtain⟨M,Z,R,p,lm,bm,rm⟩:=vd S cap heap bx b8 Q K G ca.toList b5 g (fun a X=>(a1 a (fD _ X)).1) (fun a X=>(a1 a (fD _ X)).2) (by simpa using a5) fun j v a z y=>b1 j v a (by simpa using z) y
    refine plain _ Q K M h Z R p rfl fun d i T o n k q L=>?_
    refine .fn a9 (by rw[lm];exact a5) (fun j v a z y=>?_) fun j v a z y=>rm d i T o n k q L j v a (by simpa using z) y
    have hm:=aK y;have hu:a.under base=true:=bf.1 b3 a hm;have:=((b0 j v a z y).bF (R.trans k)).dM (bz:=T) (a1 a (ef _ hm)).1 L.dM fun b p=>.inl (AV.nf hu p)
    rw[vb (a1 a (ef _ hm)).1 hu]at this;exact this
  .split at h<;>try(simp at h;done)
   rename_i E;simp only[cd]at E;have key:∀(d i:Gh)(T o:List (Option Nat))(n:Nat),cq G bV w d bV w->bx.length<=n->rI d i base H n o->aS i T w v a:=by
    intro d i T o n k q L;have:=(F.bF k).dM (bz:=T) E.1 L.dM fun b p=>.inl (AV.nf E.2 p)
    rw[vb E.1 E.2]at this;exact this
   have V:a.rr=false:=by cases a<;>first|rfl|simp[AV.simple]at E
   split at h
   .exact self _ h (tz V) fun d i T o n k q L=>(key d i T o n k q L).norm
   .exact self _ h V key
def lS.congr{G d:Gh}{f g:Nat->Nat}{S e:Nat->Prop}(R:lS G d f S)(h:∀b,e b->S b/\f b=g b):lS G d g e where
 bX:=R.bX
 bD:=fun b c i=>(h b c).2▸R.bD b (h b c).1 i
 val:=fun b c=>(h b c).2▸R.val b (h b c).1
 box:=fun b c=>(h b c).2▸R.box b (h b c).1
 cell:=fun b j c=>(h b c).2▸R.cell b j (h b c).1
 ov:=fun b k c=>(h b c).2▸R.ov b k (h b c).1
def Ret(P:Program)(w0:World)(aR:Nat->Nat)(O:Nat->Prop)(G0:Gh)(r:List AV)(e:List Bx)(v:Value)(w':World):Prop:=
 ∃c d,Inv P w0 aR O c e w'/\lT c (cD r) w' d r/\v=uZ d/\∀b,G0.bD b->c.bD b/\c.val b=G0.val b
def UB(a2:∀b,G0.bD b->b<base)(h:iA P w0 aR O G0 s a w)(o:fin P fn rf base s=some (r,Z)):
  ∃v,(results fn a.tmps).run P w = .ok v w/\Ret P w0 aR O G0 r Z v w:=by
 obtain⟨G,h⟩:=h;unfold fin at o;split at o<;>try(simp at o;done)
 rename_i l hl;split at o<;>try(simp at o;done)
 rename_i T m f hg;split at o<;>try(simp at o;done)
 rename_i I;simp only[ay,aA]at o;obtain⟨rfl,rfl⟩:=o;simp only[cd,fM]at I;obtain⟨t,a5⟩:=I;obtain⟨A,a8,S⟩:=G7 h hl;refine⟨_,a8,?_⟩;have g0:te P w0 aR O G w base s.heap.length s.ae s.ae [] s.heap []:=⟨by simpa using h.inv,rfl,rp.refl _,by simp⟩
 obtain⟨Y,bz,N,g,k,-,⟨e,he⟩,hlen,a0,a7⟩:=sK t l _ s.ae [] s.heap [] T m f G A hg g0 S.1 S.2;let H:=s.heap.length
 have D:m.length=H:=g.len;let u:=List.range base++(List.range f.length).map (H + ·)
 have J:u.Nodup:=by
  refine uz.2 ⟨qV,?_,fun x Q y hy=>?_⟩
  .exact List.Pairwise.map (H + ·) (fun a b h e=>h (Nat.add_left_cancel e)) qV
  .have:=dY.1 Q
   obtain⟨z,-,rfl⟩:=bh.1 hy;show x≠H+z
   have:base<=H:=t;omega
 have E:∀i,i<base->u[i]?=some i:=fun i p=>by
  show(List.range base++_)[i]?=_
  rw[cj (by simpa using p),mz p]
 have L:∀j,j<f.length->u[base+j]?=some (H+j):=fun j n=>by
  show(List.range base++_)[base+j]?=_
  rw[eN (by simp),List.length_range,D3,bu,mz n]
  rfl
 have B:∀i,i<base->(m++f).getD i .dead=m.getD i .dead:=fun i p=>by
  have:i<m.length:=by rw[D];have:base<=H:=t;omega
  rw[bR,cj this,<-bR]
 have C:∀j,(m++f).getD (H+j) .dead=f.getD j .dead:=fun j=>by
  rw[bR,eN (by rw[D];omega),D,D3,<-bR]
 have ok:∀b∈u,((m++f).getD b .dead).simple=true/\((m++f).getD b .dead).under base=true:=by
  intro b d;rcases bp.1 d with d|d
  .have d:=dY.1 d
   have X:b<m.length:=by rw[D];have:base<=H:=t;omega
   have M:m.getD b .dead∈m.take base:=by
    rw[bR,bo X];exact List.mem_take_iff_getElem.2 ⟨b,by omega,rfl⟩
   have:=bf.1 a5 _ M;simp only[cd]at this;rw[B b d];exact this
  .obtain⟨j,n,rfl⟩:=bh.1 d
   have n:=dY.1 n;show((m++f).getD (H+j) .dead).simple=true/\_
   rw[C j];have M:f.getD j .dead∈f:=by
    rw[bR,bo n];exact fL n
   exact g.ok _ M
 obtain⟨K,R,a9,hinv,a3⟩:=g.inv.select J g.Om.inj (fun b d b' a1=>ef _ (dY.2 (aU (bf.1 (ok b d).2 b' a1)))) fun b d=>(ok b d).1
 have U:lS Y K (wx base H) (fun b=>b<base\/(H<=b/\b<H+f.length)):=R.congr fun b d=>by
  rcases d with d|⟨b1,b2⟩
  .exact⟨aK (E b d),(wk J (E b d)).trans (by simp[wx,d])⟩
  .have:=L (b-H) (by omega)
   rw[show H+(b-H)=b by omega]at this
   refine⟨aK this,(wk J this).trans ?_⟩;have:¬b<base:=by have:base<=H:=t;omega
   simp[wx,this]
 have b0:((u.map fun b=>(m++f).getD b .dead).map (Bx.dM fun b=>u.idxOf b))=m.take base++f:=by
  rw[rH fun x Q=>?_]
  .refine fe fun i=>?_
   rw[bu];have a4:(m.take base).length=base:=by rw[oO,D];have:base<=H:=t;omega
   rcases bY i base with p|p
   .rw[E i p,cj (by omega),ff,aG p,de,B i p]
    have:i<m.length:=by rw[D];have:base<=H:=t;omega
    rw[bR,bo this];rfl
   .have hr:(m.take base++f)[i]?=f[i-base]?:=by rw[eN (by omega),a4]
    rw[hr];rcases bY (i-base) f.length with n|n
    .have:=L (i-base) n
     rw[show base+(i-base)=i by omega]at this
     rw[this,de,C,bR,bo n];rfl
    .rw[eJ n,eJ (by simp[u];omega)]
     rfl
  .obtain⟨b,d,rfl⟩:=bh.1 Q
   refine CA (ok b d).1 fun c I=>?_
   have:c<base:=aU (bf.1 (ok b d).2 c I);exact wk J (E c this)
 rw[b0]at hinv;have a6:cD T=List.replicate N.length (some 0):=by simpa using a0
 refine⟨K,A,hinv,⟨hlen.symm,a7 Y K (cD T) N f.length (cq.refl _ _ _) (ar _) ⟨U,a9⟩ (fun _ _ h=>h) fun q hq=>by rw[a6];simp[hq]⟩,rfl,fun b d=>?_⟩
 have X:=a2 b d;obtain⟨F,o2⟩:=h.nO b d;obtain⟨V,W⟩:=a3 b b (E b X) (k.bD _ F);exact⟨V,W.trans ((k.val _ F).trans o2)⟩
def Ends(P:Program)(w0:World)(aR:Nat->Nat)(O:Nat->Prop)(G0:Gh)(b:Frame)(cs:List Frame)(m:Machine)(r:List AV)(h:List Bx):Prop:=
 ∃v w' c,Ret P w0 aR O G0 r h v w'/\Steps P m (lone c cs w')/\c.fn=b.fn/\c.leaving P w' (.returned v)
def Ends.of_steps(j:Steps P m c)(k:Ends P w0 aR O G0 b cs c r h):Ends P w0 aR O G0 b cs m r h:=by
 obtain⟨v,w',d,e,f,g,i⟩:=k;exact⟨v,w',d,e,j.trans f,g,i⟩
structure mN (P:Program) (fn:Func) (Ol:List Item) (s:St) (base:Nat) (r:List AV) (h:List Bx):Prop where
 GU:∀(w0:World)(aR:Nat->Nat)(O:Nat->Prop)(G0:Gh)(b:Frame)(cs:List Frame)(a:Act)(w:World),(∀x,G0.bD x->x<base)->b.kind = .normal->P.funcs[b.fn]?=some fn->iA P w0 aR O G0 s a w ->
  Ends P w0 aR O G0 b cs (lone (b.at a Ol) cs w) r h
structure ak (P:Program) (f:FuncId) (args:List AV) (heap:List Bx) (r:List AV) (h:List Bx):Prop where
 GU:zj P f args heap r h
def G9(l:∀b,G0.bD b->b<base)(i:b.kind = .normal)(g:P.funcs[b.fn]?=some fn)(h:iA P w0 aR O G0 s a w)(c:match fin P fn k base s with|some (f,d)=>Fi r e f d|none=>False)(j:Steps P m (lone {b.at a q with mode:=.returning} cs w)):Ends P w0 aR O G0 b cs m r e:=by
 split at c
 .rename_i f d n
  obtain⟨rfl,rfl⟩:=c;obtain⟨v,p,o⟩:=UB l h n;obtain⟨G,h⟩:=h;exact⟨v,w,_,o,j,rfl,rfl,h.defers,i,fn,g,p⟩
 .exact c.elim
def xz{l:List (Tmp×Bool)}(h:l.lookup x=some b):(x,b)∈l:=by
 induction l with
 |nil=>simp at h
 |cons y l f=>
  obtain⟨c,d⟩:=y;rw[List.lookup_cons]at h;split at h
  .rename_i e
   simp at h e;subst h;subst e;exact aW ..
  .exact aV _ (f h)
def zy(N:P.follows .mixedOrders=true)(m:∀b,G0.bD b->b<base)(D:b.kind = .normal)(v:P.funcs[b.fn]?=some fn):
  ∀(n:Nat)(i:List Item)(s:St)(j:List (Tmp×Bool))(a:Act)(w:World),wp P (ak P) (mN P) fn base A K r h n i s j->(∀x B,(x,B)∈j->s.tmps.getD x .none = .v (.bool B))->iA P w0 aR O G0 s a w ->
   Ends P w0 aR O G0 b cs (lone (b.at a i) cs w) r h:=by
 intro n;induction n with
 |zero=>intro i s j a w d;exact d.elim
 |succ n I=>
  intro i s j a w d u f;have g:∀{R:List Item}{a':Act}{w':World},wp P (ak P) (mN P) fn base A K r h n R s j->iA P w0 aR O G0 s a' w'->Steps P (lone (b.at a i) cs w) (lone (b.at a' R) cs w')->Ends P w0 aR O G0 b cs (lone (b.at a i) cs w) r h:=
   fun M Q T=>Ends.of_steps T (I _ _ _ _ _ M u Q)
  have head:∀(c:Code)(k:List Item),(match(m2 c).bind K with
    |some L=>match L.app base s with
     |some J=>mN P fn (.code c :: .inLoop c::k) J base r h
     |none=>False
    |none=>wp P (ak P) (mN P) fn base A K r h n (.code c :: .inLoop c::k) s j)->Steps P (lone (b.at a i) cs w) (lone (b.at a (.code c :: .inLoop c::k)) cs w)->Ends P w0 aR O G0 b cs (lone (b.at a i) cs w) r h:=by
   intro c k q Z;split at q
   .split at q
    .rename_i J Y
     exact Ends.of_steps Z (q.GU w0 aR O G0 b cs a w m D v (LV m f Y))
    .exact q.elim
   .exact g q f Z
  unfold wp at d;cases i with
  |nil=>exact G9 m D v f d (.one step_end)
  |cons U k=>
   cases U with
   |code c=>
    cases c with
    |skip=>exact g d f (.one step_skip)
    |label l=>exact g d f (.one step_label)
    |seq x y=>exact g d f (.one step_seq)
    |block id c=>exact g d f (.one step_block)
    |ret=>exact G9 m D v f d (.one step_ret)
    |exit id=>
     simp only at d;split at d
     .rename_i k' V
      exact g d f (.one (step_exit V))
     .exact d.elim
    |loop c=>exact head c k d (.one step_loop)
    |cond x y z=>
     cases x with
     |tmp t=>
      have val:∀B,s.tmps.getD t .none = .v (.bool B)->a.eval (.tmp t)=.bool B:=by
       intro B p;obtain⟨G,h⟩:=f;have:=h.ev (.tmp t);simp only[fJ,p]at this;exact this.nV
      simp only at d;split at d
      .rename_i X
       exact g d f (.one (by simpa using step_cond (val _ (u _ _ (xz X)))))
      .rename_i X
       exact g d f (.one (by simpa using step_cond (val _ (u _ _ (xz X)))))
      .split at d
       .rename_i B p
        have F:∀x C,(x,C)∈(t,B)::j->s.tmps.getD x .none = .v (.bool C):=fun x C E=>(aY.1 E).elim (fun e=>by cases e;exact p) (u x C)
        cases B with
        |true=>exact Ends.of_steps (.one (by simpa using step_cond (val _ p))) (I _ _ _ _ _ d F f)
        |false=>exact Ends.of_steps (.one (by simpa using step_cond (val _ p))) (I _ _ _ _ _ d F f)
       .exact d.elim
     |_=>exact d.elim
    |region id ops draw=>
     simp only at d;split at d
     .split at d
      .rename_i J Y
       exact d.GU w0 aR O G0 b cs a w m D v (LV m f Y)
      .exact d.elim
     obtain⟨e,a',w',⟨rfl,J,M,Q,T⟩,a1⟩:=zw (rid:=id) (fun _ _ _ _ _ h=>h.GU) N f d b k cs
     refine Ends.of_steps a1 (I _ _ _ _ _ M (fun x B E=>?_) T)
     unfold PJ at E;obtain⟨W,a0⟩:=eD.1 E;exact Q x B (fun o S=>by simpa using bf.1 a0 o S) (u x B W)
    |_=>exact d.elim
   |inBlock id=>exact g d f (.one step_inBlock)
   |inLoop c=>exact head c k d (.one step_inLoop)
   |_=>exact d.elim
def Qf(g:Inv P w G0.bX O G0 f w)(e:lT G0 (cD args) w oY.toList args):
  iA P w G0.bX O G0 (Ei fn args f) {tmps:=oY++Array.replicate (fn.ntmps-oY.size) undef,defers:=[]} w:=by
 have i:oY.size=args.length:=by simpa using e.1
 refine⟨G0,g,by simp[Ei,i],fun t v x d c=>?_,rfl,fun b h=>⟨h,rfl⟩⟩
 have c:(args++List.replicate (fn.ntmps-args.length) .none)[t]?=some x:=c;rcases bY t args.length with h|h
 .rw[cj h]at c
  have d:(oY++Array.replicate (fn.ntmps-oY.size) undef)[t]?=some v:=d;rw[Array.getElem?_append_left (by omega)]at d
  exact e.2 t v x (by simpa using d) c
 .rw[eN h,D4]at c
  split at c<;>try(simp at c;done)
  obtain rfl:=ax c;exact .none _
def mN.of_wp(e:P.follows .mixedOrders=true)(H:wp P (ak P) (mN P) fn base A g r h n b s []):mN P fn b s base r h:=.mk fun _ _ _ _ _ _ a w i d c f=>zy e i d c n b s [] a w H (by simp) f
def mN.X6(c:P.follows .mixedOrders=true)(H:wpJ P (ak P) (mN P) fn base A m r h n d s):mN P fn d s base r h:=by
 constructor
 intro w0 aR O G0 b cs a w o j i k;unfold wpJ at H;split at H
 .obtain⟨e,a',w',⟨rfl,l,f,-,g⟩,p⟩:=zw (fun _ _ _ _ _ h=>h.GU) c k H b _ cs
  exact Ends.of_steps p (zy c o j i n _ l [] a' w' f (by simp) g)
 .exact H.elim
def ak.of_wp(p:P.follows .mixedOrders=true)(e:P.funcs[f]?=some fn)(d:uO P f=true)(H:wp P (ak P) (mN P) fn heap.length A y r h n [.code (fn.body.getD .skip)] (Ei fn args heap) []):ak P f args heap r h:=by
 constructor
 intro w G0 O c i t;unfold uO at d;rw[e]at d;simp only[cd,uH]at d;obtain⟨⟨b,g⟩,D⟩:=d;have q:¬fn.name = "runtime.NumGoroutine" := by simpa using D
 have z:(callFunc f c.toArray).run P w = .ok (.enter f c.toArray) w:=by
  simp[callFunc,e,q,g]
 refine .GJ z fun cs=>?_
 let b':Frame:={(default:Frame)with fn:=f,kind:=.normal}
 rw[g]at H;obtain⟨v,w',j,k,l,m,o⟩:=zy (b:=b') (cs:=cs) p (fun x u=>i.nb x u) rfl e n _ _ [] _ w H (by simp) (Qf i (oY:=c.toArray) (by simpa using t))
 refine⟨.returned v,w',j,⟨v,rfl,k⟩,?_,m,o⟩;have E:Frame.enter P f c.toArray .normal=b'.at {tmps:=c.toArray++Array.replicate (fn.ntmps-c.toArray.size) undef,defers:=[]} [.code b]:=by
  simp[Frame.enter,Frame.at,e,g,b']
 rw[E];exact l
def ak.soft(H:ak P f args heap r h)(u:r.all (fun a=>a.simple||a.rr)=true):ak P f args heap (r.map AV.soft) h:=by
 constructor
 intro w G0 O z t j;refine(H.GU w G0 O z t j).mono fun v w'⟨l,y,m,⟨n,o⟩,p,q⟩=>⟨l,y,m,⟨by simpa using n,fun i v a x g=>?_⟩,p,q⟩
 rw[bu]at g;obtain⟨b,k,rfl⟩:=bc.1 g;have d:=o i v b x k;have:=bf.1 u b (aK k);by_cases c:b.simple=true
 .have e:b.soft=b:=by cases b<;>first|rfl|simp[AV.simple]at c
  rw[e];exact d.bare c
 .have D:b.rr=true:=by simpa[c]using this
  cases b<;>simp[AV.rr]at D
  cases d with
  |own E I h j=>exact .v h
def ak.wc(H:ak P f args heap r h)(b:List (Nat×Nat)):ak P f args heap r (la b 0 h):=
 ⟨fun w G0 O k g i=>(H.GU w G0 O k g i).mono fun _ _⟨c,j,d,e⟩=>⟨c,j,d.wc b,e⟩⟩
def mN.wc(H:mN P fn d s base r h)(c:List (Nat×Nat)):mN P fn d s base r (la c 0 h):=
 ⟨fun w0 aR O G0 b cs a w j k l m=>by
  obtain⟨v,w',f,⟨e,o,g,i⟩,n⟩:=H.GU w0 aR O G0 b cs a w j k l m;exact⟨v,w',f,⟨e,o,g.wc c,i⟩,n⟩⟩
end
section
open Go.RowKit
def oZ(W:World)(b:Nat):Nat:=
 match W.heap[b]? with
 |some (.cells c _ _)=>c.size
 |_=>0
def mO(h:W.cell? a=some v):a.off<oZ W a.block/\a.spot=none:=by
 unfold World.cell? at h;unfold oZ;split at h
 .rename_i c t e b
  rw[b];split at h
  .simp at h
  .rename_i d
   exact⟨(ia.1 h).1,by simpa using d⟩
 .simp at h
def X7(W:World):Gh:=⟨oZ W,fun _=>none,fun _=>undef,fun _=>False⟩
section
variable {P:Program}
def On(W:World)(c:Laid (oZ W) W):Inv P W (oZ W) (fun _=>False) (X7 W) [] W:=
 ⟨m4.refl _ _ _ (fun b a=>by simp[oZ,sE a]) c,fun b h=>h.elim,fun b bx h=>by simp at h,fun x y n h=>by simp[X7]at h,fun x n h=>by simp[X7]at h,fun b n h=>by simp at h⟩
def Oo(c:uO P f=true)(j:cD args=[])(h:ak P f args [] [.v (.bool true)] [])(o:Laid (oZ W) W)(q:lT (X7 W) [] W oY.toList args):Calls P f oY W fun e w'=>e = .returned (.bool true)/\Below W.heap.size W w':=by
 have d:=h.GU W (X7 W) (fun _=>False) oY.toList (On W o) (by rw[j];exact q)
 unfold uO at c;split at c<;>try(simp at c;done)
 rename_i fn m;simp only[cd,uH]at c;obtain⟨⟨b,x⟩,z⟩:=c;have p:¬fn.name = "runtime.NumGoroutine" := by simpa using z
 have y:(callFunc f oY.toList.toArray).run P W = .ok (.enter f oY) W:=by
  simp[callFunc,m,p,x]
 unfold dH at d;rw[y]at d;refine Calls.mono d fun e w'⟨v,l,r,w,a,⟨g,i⟩,t,_⟩=>?_
 subst l t;match w,g with
 |[u],_=>
  have s:=(i 0 u _ rfl rfl).nV;subst s;exact⟨rfl,a.frame.os,a.frame.tape,a.frame.output,a.frame.size,fun k n=>(a.frame.Ej k n id).1⟩
end
end
def o0(P:Program)(t:TypeId){H:Type}(d:DataW H):Prop:=∀n∈d.weights P t,n<=reachBytes
def CB(h:∀n∈DataW.weightsAll P e l,n<=reachBytes):∀d∈l,o0 P e d:=by
 induction l with
 |nil=>intro d b;simp at b
 |cons a l g=>
  intro d b n c;unfold DataW.weightsAll at h;rcases aY.1 b with rfl|b
  .exact h n (ef _ c)
  .exact g (fun m f=>h m (fD _ f)) d b n c
def lh:∀{e:List TypeId}{l:List (DataW H)},(∀n∈DataW.weightsEach P e l,n<=reachBytes)->∀(i:Nat)t d,e[i]?=some t->l[i]?=some d->o0 P t d
 |[],l,h,i,t,d,b,c=>by simp at b
 |t::e,[],h,i,u,d,b,c=>by simp at c
 |t::e,a::l,h,i,u,d,b,c=>by
  unfold DataW.weightsEach at h;cases i with
  |zero=>
   simp at b c;subst b;subst c;exact fun n f=>h n (ef _ f)
  |succ i=>
   simp at b c;exact lh (fun n f=>h n (fD _ f)) i u d b c
def bH(P:Program)(W:World)(fuel:Nat)(t:TypeId)(Q:List PV->Prop):Prop:=
 ∀(H:Type)(enc:TypeId×Value->H)(held:Bool)(cs:List Value)(x:DataW H×List MemPlace),
  DataW.trod enc P W 0 (fun _=>true) held fuel t cs=some x->o0 P t x.1->∃p,Q p/\mE (oZ W) W cs.toArray p
section
variable {P:Program} {W:World} {fuel:Nat} {t:TypeId}
def ei(h:cm c W v p):mE c W [v].toArray [p]:=
 ⟨rfl,fun i u q a b=>by
  cases i with
  |zero=>simp at a b;subst a;subst b;exact h
  |succ i=>simp at a⟩
def bH.mono(h:bH P W fuel t Q)(k:∀p,Q p->a p):bH P W fuel t a:=fun H enc held cs x c b=>
 let ⟨p,hp,hr⟩:=h H enc held cs x c b
 ⟨p,k p hp,hr⟩
def bH.int(b:P.underlying t=some (.int k)):bH P W fuel t fun p=>∃n,Wc k n/\p=[.int k n]:=by
 intro H enc held cs x c d;obtain⟨n,rfl,-,a⟩:=DataW.trod_int b c;simp only[Lit.wf,cd,fM]at a;exact⟨_,⟨n,a,rfl⟩,ei (.int k n)⟩
def bH.string(a:P.underlying t=some .string):bH P W fuel t fun p=>∃s:List UInt8,p=[.str s]:=by
 intro H enc held cs x b c;obtain⟨s,rfl,-,_⟩:=DataW.trod_string a b;exact⟨_,⟨_,rfl⟩,ei (.str s)⟩
def Qg{a:Addr}(h:a.spot=none):a.add n=⟨a.block,a.off+n,none⟩:=by
 unfold Addr.add;split
 .rename_i b
  subst b;cases a;simp_all
 .rfl
def wy{w:World}(h:w.cells? 0 a n=some cs):cs.length=n/\∀j,j<n->w.cell? (a.add j)=cs[j]?:=by
 unfold World.cells? at h;rw[aG (dV _)]at h;refine⟨by simpa using mapM_some_length h,fun j b=>mapM_some_get h j j (by simp[b])⟩
def bH.slice(Z:P.underlying t=some (.slice e))(w:P.cellsOf e=n)(X:0<n)(d:∀m,m<fuel->bH P W m e Q)(Y:∀p,Q p->p.length=n):
  bH P W fuel t fun p=>∃aj:List (List PV),p=[.sl n aj]/\(∀r∈aj,Q r)/\aj.length<2^63/\aj.length*P.bytesOf e<=reachBytes:=by
 intro H enc held cs x O z;rcases DataW.trod_slice Z O with⟨rfl,-⟩|⟨a,len,cap,elems,B,m,hm,rfl,a9,-,A,a2,a3,R,b2,-⟩
 .exact⟨_,⟨[],rfl,by simp,by decide,by simp⟩,ei (.m3 n)⟩
 .rw[w]at R
  have F:∀n∈((elems.map (·.1)).length+(B.map (·.1)).length)*P.bytesOf e::(DataW.weightsAll P e (elems.map (·.1))++DataW.weightsAll P e (B.map (·.1))),n<=reachBytes:=by
   rw[a9]at z;unfold o0 DataW.weights at z;rw[Z]at z;simpa using z
  have a6:∀y∈elems,o0 P e y.1:=fun y S=>CB (fun n w=>F n (aV _ (ef _ w))) y.1 (bh.2 ⟨y,S,rfl⟩)
  have a8:len*P.bytesOf e<=reachBytes:=by
   have k:=F _ (aW ..);simp only[al,a3]at k;exact dX (dD _ (Nat.le_add_right ..)) k
  have each:∀i,i<len->∃r,Q r/\∃cs,W.cells? 0 (a.add (i*n)) n=some cs/\mE (oZ W) W cs.toArray r:=by
   intro i c;have k:=R i c;rw[bo (by omega)]at k
   obtain⟨cs,u,a7⟩:=cV.1 k;obtain⟨r,o,D⟩:=d m (by omega) H enc held cs _ a7 (a6 _ (fL _))
   exact⟨r,o,cs,u,D⟩
  have hlen:len<2^63:=by
   have:cap<=2^63-1:=a2;omega
  rcases DP len with U|b0
  .subst U
   have D:cm (oZ W) W (.slice (some a) 0 cap) (.sl n []):=by
    by_cases K:a.spot=none
    .obtain⟨b,off,b3⟩:=a
     simp only at K;subst K;exact .sl b off 0 cap n [] (fun _ _=>undef) rfl A (by simp) (fun i j p d=>by simp[kf]at d) fun i j p d=>by simp[kf]at d
    .by_cases a1:cap=0
     .subst a1;exact .Jo a n
     .exfalso
      obtain⟨r1,V⟩:=b2 rfl;have k:=V 0 (by omega)
      rw[bo (by omega),w]at k
      obtain⟨cs,u,-⟩:=cV.1 k;obtain⟨C,G⟩:=wy u;have q:=G 0 X;rw[bo (by omega)]at q
      simp only[iC,Nat.zero_mul]at q;have s:=(mO q).2;exact K (by simpa[Addr.add]using s)
   exact⟨_,⟨[],rfl,by simp,by decide,by simp⟩,ei D⟩
  .have E:a.spot=none:=by
    obtain⟨r,o,cs,u,D⟩:=each 0 b0;obtain⟨k,q⟩:=wy u;have:=q 0 X;rw[bo (by omega)]at this
    simp only[Nat.zero_mul]at this;have s:=(mO this).2;simpa[Addr.add]using s
   let f:Nat->List PV:=fun i=>if h:i<len then(each i h).choose else[]
   have T:∀i(h:i<len),f i=(each i h).choose:=fun i h=>by simp[f,h]
   let g:Nat->List Value:=fun i=>if h:i<len then(each i h).choose_spec.2.choose else[]
   have L:∀i(h:i<len),g i=(each i h).choose_spec.2.choose:=fun i h=>by simp[g,h]
   have row:∀i,i<len->((List.range len).map f)[i]?=some (f i):=fun i c=>by simp[c]
   have M:∀i,i<len->Q (f i):=fun i c=>by rw[T i c];exact(each i c).choose_spec.1
   have b1:∀i,i<len->W.cells? 0 (a.add (i*n)) n=some (g i)/\mE (oZ W) W (g i).toArray (f i):=fun i c=>by
    rw[T i c,L i c];exact(each i c).choose_spec.2.choose_spec
   have a0:∀i j p,kf ((List.range len).map f) i j=some p->i<len/\(f i)[j]?=some p:=by
    intro i j p d;unfold kf at d;obtain⟨r,o,v⟩:=cV.1 d;have c:i<len:=by have:=(aE.1 o).1;simpa using this
    rw[row i c]at o;obtain rfl:=ax o;exact⟨c,v⟩
   have cellAt:∀i j p,kf ((List.range len).map f) i j=some p->W.cell? ⟨a.block,a.off+i*n+j,none⟩=some ((g i).getD j undef)/\cm (oZ W) W ((g i).getD j undef) p:=by
    intro i j p d;obtain⟨c,v⟩:=a0 i j p d;obtain⟨k,q,s⟩:=b1 i c;obtain⟨C,G⟩:=wy k;have a5:j<n:=by rw[<-Y _ (M i c)];exact(aE.1 v).1
    have I:=G j a5;have J:=bo (l:=g i) (i:=j) (by omega)
    rw[Qg E,Qg (by rfl)]at I
    rw[J]at I;have a4:(g i).getD j undef=(g i)[j]'(by omega):=by rw[bR,J];rfl
    rw[a4];exact⟨I,s j _ p (by rw[uG];exact J) v⟩
   refine⟨_,⟨(List.range len).map f,rfl,fun r o=>?_,by rw[al,List.length_range];exact⟨hlen,a8⟩⟩,ei ?_⟩
   .obtain⟨i,c,rfl⟩:=bh.1 o
    exact M i (dY.1 c)
   .have N:a=⟨a.block,a.off,none⟩:=by
     obtain⟨b,off,sp⟩:=a;have E:sp=none:=E;rw[E]
    rw[N];refine .sl a.block a.off len cap n _ (fun i j=>(g i).getD j undef) (by simp) A (fun r o=>?_) (fun i j p d=>?_) fun i j p d=>(cellAt i j p d).2
    .obtain⟨i,c,rfl⟩:=bh.1 o
     exact Y _ (M i (dY.1 c))
    .have:=(cellAt i j p d).1
     exact⟨this,(mO this).1⟩
def wz:List (List PV->Prop)->List PV->Prop
 |[],p=>p=[]
 |Q::Qs,p=>∃a b,p=a++b/\Q a/\wz Qs b
def Ha{X Y:List Value}(h:mE e W X.toArray p)(k:mE e W Y.toArray q):mE e W (X++Y).toArray (p++q):=by
 obtain⟨c,g⟩:=h;obtain⟨f,j⟩:=k;simp only[sy]at c f;refine⟨by simp[c,f],fun i v x a b=>?_⟩
 simp only[uG]at a;rcases bY i X.length with d|d
 .rw[cj d]at a
  rw[cj (by omega)]at b
  exact g i v x (by simpa using a) b
 .rw[eN d]at a
  rw[eN (by omega),<-c]at b
  exact j _ v x (by simpa using a) b
def tG{cs:List Value}:∀(l:List (Nat×Nat×(List PV->Prop)))(off:Nat),(∀(i o n:Nat)(Q:List PV->Prop),l[i]?=some (o,n,Q)->∃p,Q p/\mE (oZ W) W ((cs.drop o).take n).toArray p)->
  (∀(i o n:Nat)(Q:List PV->Prop),l[i]?=some (o,n,Q)->o=off+((l.take i).map (·.2.1)).sum)->∃p,wz (l.map (·.2.2)) p/\mE (oZ W) W ((cs.drop off).take ((l.map (·.2.1)).sum)).toArray p
 |[],off,_,_=>⟨[],rfl,by simp,by simp⟩
 |(o,n,Q)::l,off,h,e=>by
  obtain⟨p,f,j⟩:=h 0 o n Q rfl;have d:=e 0 o n Q rfl;simp at d;subst d;obtain⟨q,g,k⟩:=tG l (o+n) (fun i o' c a b=>h (i+1) o' c a (by simpa using b)) (fun i o' c a b=>by
   have:=e (i+1) o' c a (by simpa using b)
   simp only[yf,bG,eV]at this;omega)
  refine⟨p++q,⟨p,q,rfl,f,g⟩,?_⟩;have:=Ha j k;simp only[bG,eV];rw[List.take_add,eC];exact this
def bH.struct(u:P.underlying t=some (.struct a))(l:Qs.length=a.size)(z:∀m,m<fuel->∀(i:Nat)f Q,a[i]?=some f->Qs[i]?=some Q->bH P W m f.type Q)(y:∀(i:Nat)f,a[i]?=some f->f.offset=((a.toList.take i).map fun f=>P.cellsOf f.type).sum)(r:(a.toList.map fun f=>P.cellsOf f.type).sum=P.cellsOf t):bH P W fuel t (wz Qs):=by
 intro H enc held cs x E c;obtain⟨xs,m,X,J,G,K,M⟩:=DataW.trod_struct u E;have D:∀n∈DataW.weightsEach P (a.toList.map (·.type)) (xs.map (·.1)),n<=reachBytes:=by
  rw[J]at c;unfold o0 DataW.weights at c;rw[u]at c;exact c
 have v:∀(i o n:Nat)(Q:List PV->Prop),((a.toList.zip Qs).map fun(f,Q)=>(f.offset,P.cellsOf f.type,Q))[i]?=some (o,n,Q)->∃f,a[i]?=some f/\Qs[i]?=some Q/\o=f.offset/\n=P.cellsOf f.type:=by
  intro i o n Q h;rw[bu]at h;obtain⟨⟨f,T⟩,d,j⟩:=bc.1 h;simp only[aA]at j;obtain⟨rfl,rfl,rfl⟩:=j;rw[List.getElem?_zip_eq_some]at d;exact⟨f,by simpa using d.1,d.2,rfl,rfl⟩
 have w:(((a.toList.zip Qs).map fun(f,Q)=>((f.offset,P.cellsOf f.type,Q):Nat×Nat×(List PV->Prop))).map (·.2.1))=a.toList.map fun f=>P.cellsOf f.type:=by
  rw[dW];have:(fun x:Nat×Nat×(List PV->Prop)=>x.2.1)∘(fun x:Field×(List PV->Prop)=>(x.1.offset,P.cellsOf x.1.type,x.2))=(fun f:Field=>P.cellsOf f.type)∘Prod.fst:=rfl
  show List.map ((fun x:Nat×Nat×(List PV->Prop)=>x.2.1)∘(fun x:Field×(List PV->Prop)=>(x.1.offset,P.cellsOf x.1.type,x.2))) _=_
  rw[this,<-dW,List.map_fst_zip (by simp[l])]
 have I:(((a.toList.zip Qs).map fun(f,Q)=>((f.offset,P.cellsOf f.type,Q):Nat×Nat×(List PV->Prop))).map (·.2.2))=Qs:=by
  rw[dW];show List.map Prod.snd _=_
  rw[List.map_snd_zip (by simp[l])]
 obtain⟨p,q,s⟩:=tG (W:=W) (cs:=cs) ((a.toList.zip Qs).map fun(f,Q)=>(f.offset,P.cellsOf f.type,Q)) 0 (fun i o n Q h=>by
  obtain⟨f,b,g,rfl,rfl⟩:=v i o n Q h;have e:=M i f b;have k:i<xs.length:=by rw[K];exact(ia.1 b).1
  rw[bo k]at e;exact z m (by omega) i f Q b g H enc held _ _ e (lh D i f.type _ (by simp[b]) (by rw[bu,bo k];rfl))) (fun i o n Q h=>by
  obtain⟨f,b,g,rfl,rfl⟩:=v i o n Q h;rw[cv,iD,w,<-iD];exact y i f b)
 rw[I]at q;refine⟨p,q,?_⟩;rw[w,r,fK,<-G,List.take_length]at s;exact s
def Qh(P:Program)(t:TypeId)(a:Array Field):Bool:=
 (List.range a.size).all (fun i=>match a[i]? with|some f=>f.offset==((a.toList.take i).map fun f=>P.cellsOf f.type).sum|none=>true)&&(a.toList.map fun f=>P.cellsOf f.type).sum==P.cellsOf t
def bH.n3(k:P.underlying t=some (.struct a))(e:Qs.length=a.size)(c:Qh P t a=true)(j:∀m,m<fuel->∀(i:Nat)f Q,a.toList[i]?=some f->Qs[i]?=some Q->bH P W m f.type Q):bH P W fuel t (wz Qs):=by
 simp only[Qh,cd,bf,dY,beq_iff_eq]at c;refine bH.struct k e (fun m g i f Q b d=>j m g i f Q (by simpa using b) d) (fun i f b=>?_) c.2
 have:=c.1 i (ia.1 b).1;rw[b]at this;simpa using this
def trod_array{enc:TypeId×Value->H}{x:DataW H×List MemPlace}(d:P.underlying t=some (.array n e))(h:DataW.trod enc P W 0 spare held fuel t cs=some x):
  ∃(xs:List (DataW H×List MemPlace))(m:Nat),fuel=m+1/\x.1 = .agg (xs.map (·.1))/\cs.length=P.cellsOf t/\∀(i:Nat),i<n->∃y∈xs,DataW.trod enc P W 0 spare held m e ((cs.drop (i*P.cellsOf e)).take (P.cellsOf e))=some y:=by
 cases fuel with
 |zero=>simp[DataW.trod]at h
 |succ m=>
  unfold DataW.trod at h;rw[d]at h;split at h<;>simp_all
  obtain⟨f,xs,a,b⟩:=h;refine⟨xs,by rw[<-b],fun i c=>?_⟩
  have:=mapM_some_get a i i (by simp[c])
  have hlen:=mapM_some_length a;rw[List.length_range]at hlen;rw[bo (by omega)]at this
  exact⟨_,_,fL _,this⟩
def bH.array(q:P.underlying t=some (.array n e))(v:∀m,m<fuel->bH P W m e Q)(w:n*P.cellsOf e=P.cellsOf t):bH P W fuel t (wz (List.replicate n Q)):=by
 intro H enc held cs x r c;obtain⟨xs,m,M,I,E,K⟩:=trod_array q r;have z:∀n∈DataW.weightsAll P e (xs.map (·.1)),n<=reachBytes:=by
  unfold o0 at c;rw[I]at c;unfold DataW.weights at c;rw[q]at c;exact c
 have s:∀(i o k:Nat)(a:List PV->Prop),((List.range n).map fun i=>(i*P.cellsOf e,P.cellsOf e,Q))[i]?=some (o,k,a)->i<n/\o=i*P.cellsOf e/\k=P.cellsOf e/\a=Q:=by
  intro i o k a h;rw[bu]at h;obtain⟨j,f,d⟩:=bc.1 h;simp only[aA]at d;have b:i<n:=by have:=(aE.1 f).1;simpa using this
  rw[mz b]at f;obtain rfl:=ax f;exact⟨b,d.1.symm,d.2.1.symm,d.2.2.symm⟩
 have u:(((List.range n).map fun i=>((i*P.cellsOf e,P.cellsOf e,Q):Nat×Nat×(List PV->Prop))).map (·.2.1))=List.replicate n (P.cellsOf e):=by
  rw[dW];apply List.ext_getElem<;>simp
 have G:(((List.range n).map fun i=>((i*P.cellsOf e,P.cellsOf e,Q):Nat×Nat×(List PV->Prop))).map (·.2.2))=List.replicate n Q:=by
  rw[dW];apply List.ext_getElem<;>simp
 obtain⟨p,g,l⟩:=tG (W:=W) (cs:=cs) ((List.range n).map fun i=>(i*P.cellsOf e,P.cellsOf e,Q)) 0 (fun i o k a h=>by
  obtain⟨b,rfl,rfl,rfl⟩:=s i o k a h;obtain⟨y,J,D⟩:=K i b;exact v m (by omega) H enc held _ _ D (CB z y.1 (bh.2 ⟨y,J,rfl⟩))) (fun i o k a h=>by
  obtain⟨b,rfl,rfl,rfl⟩:=s i o k a h;rw[cv,iD,u,List.take_replicate,Nat.min_eq_left (by omega),List.sum_replicate_nat])
 rw[G]at g;refine⟨p,g,?_⟩;rw[u,List.sum_replicate_nat,w,fK,<-E,List.take_length]at l;exact l
def LW{H:Type}{enc:TypeId×Value->H}{d:DataW H}(h:DataW.Trod enc P W 0 (fun _=>true) held t v d ps)(i:o0 P t d)(f:∀m,bH P W m t Q)(g:v.cells = #[v])(c:∀p,Q p->∃x,p=[x]):
  ∃x,Q [x]/\aS (X7 W) [] W v (.v x):=by
 obtain⟨m,e⟩:=h;obtain⟨p,a,b⟩:=f m H enc held _ _ e i;obtain⟨x,rfl⟩:=c p a;rw[DV,g]at b;exact⟨x,a,.v (b.2 0 v x rfl rfl)⟩
def LX{H:Type}{enc:TypeId×Value->H}{d:DataW H}(h:DataW.Trod enc P W 0 (fun _=>true) held t (.agg X) d ps)(f:o0 P t d)(e:∀m,bH P W m t Q):
  ∃p,Q p/\aS (X7 W) [] W (.agg X) (.agg p):=by
 obtain⟨m,b⟩:=h;obtain⟨p,c,a⟩:=e m H enc held _ _ b f;rw[DV]at a;exact⟨p,c,.agg a.1 a.2⟩
def okWide_struct(c:P.underlying t=some (.struct a))(h:Value.okWide P W r d t v):∃X,v = .agg X:=by
 unfold Value.okWide at h;rw[c]at h;obtain⟨X,b,_⟩:=h;exact⟨X,b⟩
def okWide_int(a:P.underlying t=some (.int k))(h:Value.okWide P W r b t v):v.cells = #[v]:=by
 cases v with
 |agg cs=>exact absurd h (by simp[Value.okWide,Cell.okWide,Cell.ok,a])
 |_=>rfl
def okWide_string(a:P.underlying t=some .string)(h:Value.okWide P W r b t v):v.cells = #[v]:=by
 cases v with
 |agg cs=>exact absurd h (by simp[Value.okWide,Cell.okWide,Cell.ok,a])
 |_=>rfl
def Oq:lT G ae W [] []:=⟨rfl,fun i v a h=>by simp at h⟩
def pO(h:aS G ae W v a)(k:lT G ae W e l):lT G ae W (v::e) (a::l):=
 ⟨by simp[k.1],fun i u b d c=>by
  cases i with
  |zero=>simp at d c;subst d;subst c;exact h
  |succ i=>simp at d c;exact k.2 i u b d c⟩
end
end Go.Ac
end
section
namespace Go.Ac.S4
open Go Go.Proofs Go.Proofs.Tryz Go.Ac
open Go.IntKind (wrap)
open Int (toNat tdiv tmod fdiv)
open List (drop take replicate)
set_option maxRecDepth 100000
abbrev By:=List UInt8
abbrev Rw:=List (List PV)
abbrev Cx:=Option (Nat×Nat)
abbrev B(b:Bool):PV:=.bool b
abbrev N(n:Int):PV:=.int .i64 n
abbrev U(n:Int):PV:=.int .u64 n
abbrev W(n:Int):PV:=.int .u32 n
abbrev Y(n:Int):PV:=.int .u8 n
abbrev S(s:By):PV:=.str s
abbrev C(o:Cx):PV:=.nP .f64 o
abbrev L(n:Nat)(r:Rw):PV:=.sl n r
abbrev vB(b:Bool):AV:=.v (.bool b)
abbrev vN(n:Int):AV:=.v (.int .i64 n)
abbrev vU(n:Int):AV:=.v (.int .u64 n)
abbrev vW(n:Int):AV:=.v (.int .u32 n)
abbrev vY(n:Int):AV:=.v (.int .u8 n)
abbrev vS(s:By):AV:=.v (.str s)
abbrev vC(o:Cx):AV:=.v (.nP .f64 o)
abbrev vL(n:Nat)(r:Rw):AV:=.v (.sl n r)
abbrev O(n:Nat)(r:Rw):AV:=.ke n r
def cf(op:BinOp)(k:IntKind)(x y:Int):Int:=(Gp op k x y).getD 0
structure df where
 an:List (Nat×Nat×An):=[]
 mod:List (Nat×Nat×List (Nat×List Nat)):=[]
 cut:List (Nat×Cut):=[]
 rf:Bool:=false
 join:List (Nat×Cut):=[]
def Qi{α:Type}(d:α):List (Nat×Nat×α)->Nat->Nat->α
 |[],_,_=>d
 |(a,b,x)::l,i,j=>match a==i&&b==j with
  |true=>x
  |false=>Qi d l i j
def df.X8(A:df):td:={an:=Qi {} A.an,mod:=Qi [] A.mod,rf:=A.rf,join:=fun n=>A.join.lookup n}
def df.X9(A:df)(n:Nat):Option Cut:=A.cut.lookup n
abbrev ak:=Go.Ac.ak prog
abbrev mN:=Go.Ac.mN prog
def mixed:prog.follows .mixedOrders=true:=by kernel_rfl
def fuel:Nat:=100000
def wpF(n:Nat)(g:Func)(args:List AV)(a:List Bx)(A:df)(r:List AV)(h:List Bx):Prop:=
 aI (g.body.isSome && !(g.name == "runtime.NumGoroutine")) (wp prog ak mN g a.length A.X8 A.X9 r h n [.code (g.body.getD .skip)] (Ei g args a) []) False
def wpK(n:Nat)(g:Func)(b:List Item)(s:St)(a:Nat)(A:df)(r:List AV)(h:List Bx):Prop:=wp prog ak mN g a A.X8 A.X9 r h n b s []
def wpG(n:Nat)(g:Func)(b:List Item)(s:St)(a:Nat)(A:df)(r:List AV)(h:List Bx):Prop:=wpJ prog ak mN g a A.X8 A.X9 r h n b s
def UC(h:aI b x False):b=true/\x:=by
 cases b
 .exact h.elim
 .exact⟨rfl,h⟩
def ak.x6(b:prog.funcs[f]?=some g)(A:df)(H:wpF n g args c A r a):ak f args c r a:=by
 obtain⟨d,e⟩:=UC H;exact Go.Ac.ak.of_wp mixed b (by unfold uO;rw[b];exact d) e
def mN.x6(A:df)(H:wpK n g c s b A r a):mN g c s b r a:=Go.Ac.mN.of_wp mixed H
def x7.x6(A:df)(H:wpG n g c s b A r a):mN g c s b r a:=Go.Ac.mN.X6 mixed H
def ak.of{f:FuncId}{g:Func}{args:List AV}{b:List Bx}{r:List AV}{a:List Bx}(c:prog.funcs[f]?=some g)(A:df){Q:Prop}(H:Q)(h:wpF fuel g args b A r a=Q:=by kernel_rfl):ak f args b r a:=ak.x6 c A (Eq.mpr h H)
def mN.of{g:Func}{c:List Item}{s:St}{b:Nat}{r:List AV}{a:List Bx}(A:df){Q:Prop}(H:Q)(h:wpK fuel g c s b A r a=Q:=by kernel_rfl):mN g c s b r a:=mN.x6 A (Eq.mpr h H)
def x7.of{g:Func}{c:List Item}{s:St}{b:Nat}{r:List AV}{a:List Bx}(A:df){Q:Prop}(H:Q)(h:wpG fuel g c s b A r a=Q:=by kernel_rfl):mN g c s b r a:=x7.x6 A (Eq.mpr h H)
def ad(a:b=true->x)(c:b=false->y):aI b x y:=by cases b;exact c rfl;exact a rfl
def bj(h:b=true)(a:x):aI b x y:=by subst h;exact a
def aw(h:b=false)(a:y):aI b x y:=by subst h;exact a
abbrev Lp(g:Func)(i:Nat):=mN g (XX g i)
abbrev Rp(g:Func)(i:Nat):=mN g (aaa g i)
def aa:An:={spec:=true}
def ah:An:={fz:=true}
def aX:An:={vec:=true}
def fv:An:={fb:=some [0]}
def eP:An:={fb:=some [1]}
def gw:An:={fb:=some [2]}
def jj:An:={take:=true,fb:=some [0]}
abbrev aq(n:Int):Prop:=Wc .i64 n
abbrev _root_.Go.Ac.Bx.aH(l:List AV):Bx:=.cells l
abbrev cb(k:Nat)(x:List AV)(y:List Bx)(P:Bool->Prop):Prop:=∃a,ak k x y [vB a] y/\P a
abbrev kQ(k:Nat)(x:List AV)(y:List Bx)(P:Int->Prop):Prop:=∃a,ak k x y [vN a] y/\P a
abbrev x8(k:Nat)(x:List AV)(y:List Bx)(P:By->Prop):Prop:=∃a,ak k x y [vS a] y/\P a
abbrev Jq(k:Nat)(x:List AV)(y:List Bx)(P:Int->Bool->Prop):Prop:=∃a b,ak k x y [vW a,vB b] y/\P a b
abbrev Hb(k:Nat)(x:List AV)(y:List Bx)(P:Rw->Prop):Prop:=∃a,ak k x y [vL 1 a] y/\P a
abbrev LY(k:Nat)(x:List AV)(y:List Bx)(P:Int->Bool->Prop):Prop:=∃a b,ak k x y [vN a,vB b] y/\P a b
abbrev Ud(k:Nat)(x:List AV)(y:List Bx)(P:Int->Int->Prop):Prop:=∃a b,ak k x y [vU a,vN b] y/\P a b
abbrev qZ8(k:Nat)(x:List AV)(y:List Bx)(P:Rw->Bool->Prop):Prop:=∃a b,ak k x y [vL 1 a,vB b] y/\P a b
abbrev Wi(k:Nat)(x:List AV)(y:List Bx)(P:By->Bool->Prop):Prop:=∃a b,ak k x y [vS a,vB b] y/\P a b
abbrev Ke(k:Nat)(x:List AV)(y:List Bx)(P:Int->Prop):Prop:=∃a,ak k x y [vU a] y/\P a
abbrev Kf(k:Nat)(x:List AV)(y:List Bx)(P:Rw->Prop):Prop:=∃a,ak k x y [vL 5 a] y/\P a
abbrev Kg(k:Nat)(x:List AV)(y:List Bx)(P:Int->Int->Prop):Prop:=∃a b,ak k x y [.agg [U a,N b]] y/\P a b
abbrev Kh(k:Nat)(x:List AV)(y:List Bx)(P:Int->Int->Bool->Int->Int->Prop):Prop:=∃a b c d e,ak k x y [.agg [N a,N b,B c,W d,W e]] y/\P a b c d e
abbrev Ot(k:Nat)(x:List AV)(y:List Bx)(P:Rw->Int->Prop):Prop:=∃a b,ak k x y [vL 4 a,vN b] y/\P a b
abbrev Ou(k:Nat)(x:List AV)(y:List Bx)(P:Int->Int->Prop):Prop:=∃a b,ak k x y [.agg [N a,N b]] y/\P a b
def bZ{α:Type u}[BEq α][LawfulBEq α]{a b:α}(h:(a==b)=true):a=b:=eq_of_beq h
abbrev bP(p:Prop)[Decidable p](x y:Prop):Prop:=aI (decide p) x y
abbrev K1(a b c d e f g i j:Int):Bx:=.aH [vW a,vW b,vU c,vU d,vU e,vU f,vU g,vU i,vU j]
abbrev K3(a b c d e f g i j k l m n o p q s t:Int):Bx:=.aH [vW a,vW b,vW c,vW d,vW e,vW f,vW g,vW i,vW j,vW k,vW l,vW m,vW n,vW o,vW p,vW q,vW s,vW t]
abbrev K4(a b c d e f g i:Int)(j:Rw):Bx:=.aH [vW a,vN b,vN c,vN d,vN e,vN f,vU g,vU i,O 6 j]
abbrev K5(a b c d e f g i j k l m n o p q s t u v w x y z h r D E:Int):Bx:=.aH [vW a,vW b,vW c,vW d,vW e,vW f,vW g,vW i,vW j,vW k,vW l,vW m,vW n,vW o,vW p,vW q,vW s,vW t,vN u,vW v,vW w,vU x,vU y,vU z,vU h,vU r,vU D,vU E]
abbrev K6(a b c d e:Int)(f:Rw):Bx:=.aH [vN a,vN b,vN c,vU d,vU e,O 6 f]
abbrev K7(a:Rw)(b c:Int)(d:Cx)(e f g:Rw)(i j k l:Int)(m:Cx):Bx:=.aH [vL 4 a,vN b,vN c,vC d,O 6 e,O 2 f,vL 1 g,vN i,vN j,vN k,vN l,vC m]
abbrev K8(a:Rw)(b c:Int)(d:Cx)(e f g:Rw)(i j k l:Int)(m:Cx):Bx:=.aH [vL 4 a,vN b,vN c,vC d,vL 6 e,O 2 f,vL 1 g,vN i,vN j,vN k,vN l,vC m]
abbrev K9(a b c d e f g i:Int)(j:Rw):Bx:=.aH [vW a,vN b,vN c,vN d,vN e,vN f,vU g,vU i,vL 6 j]
abbrev K10(a b c d e:Int)(f:Rw):Bx:=.aH [vN a,vN b,vN c,vU d,vU e,vL 6 f]
abbrev EG(l:Rw)(i:Int)(k:By->Int->Rw->Prop):Prop:=∃a b c,0<=i/\l[i.toNat]?=some [S a,W b,L 1 c]/\k a b c
abbrev ky(l:Rw)(i:Int)(k:Int->Int->Int->Int->Int->Int->Int->Int->Rw->Prop):Prop:=∃a b c d e f g j m,0<=i/\l[i.toNat]?=some [W a,N b,N c,N d,N e,N f,U g,U j,L 6 m]/\k a b c d e f g j m
abbrev Rdw(l:Rw)(i:Int)(k:Int->Prop):Prop:=∃a,0<=i/\l[i.toNat]?=some [W a]/\k a
abbrev rJ(l:Rw)(i:Int)(k:By->Rw->Int->Int->Int->Prop):Prop:=∃a b c d e,0<=i/\l[i.toNat]?=some [S a,L 1 b,N c,N d,N e]/\k a b c d e
abbrev gO(l:Rw)(i:Int)(k:By->Int->Int->Rw->Prop):Prop:=∃a b c d,0<=i/\l[i.toNat]?=some [S a,N b,N c,L 3 d]/\k a b c d
abbrev pP(l:Rw)(i:Int)(k:By->Rw->Rw->Prop):Prop:=∃a b c,0<=i/\l[i.toNat]?=some [S a,L 1 b,L 5 c]/\k a b c
abbrev Pv(l:Rw)(i:Int)(k:Int->Prop):Prop:=∃a,0<=i/\l[i.toNat]?=some [Y a]/\k a
abbrev zz(l:Rw)(i:Int)(k:Int->Int->Int->Int->Prop):Prop:=∃a b c d,0<=i/\l[i.toNat]?=some [N a,N b,N c,W d]/\k a b c d
abbrev ej(l:Rw)(i:Int)(k:By->Int->By->By->Int->Rw->Prop):Prop:=∃a b c d e f,0<=i/\l[i.toNat]?=some [S a,N b,S c,S d,U e,L 5 f]/\k a b c d e f
abbrev lV(l:Rw)(i:Int)(k:By->Rw->Prop):Prop:=∃a b,0<=i/\l[i.toNat]?=some [S a,L 4 b]/\k a b
abbrev Hc(l:Rw)(i:Int)(k:By->Prop):Prop:=∃a,0<=i/\l[i.toNat]?=some [S a]/\k a
abbrev br(l:Rw)(i:Int)(k:Int->By->By->Int->Rw->Prop):Prop:=∃a b c d e,0<=i/\l[i.toNat]?=some [N a,S b,S c,U d,L 5 e]/\k a b c d e
abbrev Qj(l:Rw)(i:Int)(k:By->By->Prop):Prop:=∃a b,0<=i/\l[i.toNat]?=some [S a,S b]/\k a b
abbrev Rdn(l:Rw)(i:Int)(k:Int->Prop):Prop:=∃a,0<=i/\l[i.toNat]?=some [N a]/\k a
abbrev aag(l:Rw)(i:Int)(k:Int->Rw->Prop):Prop:=∃a b,0<=i/\l[i.toNat]?=some [W a,L 3 b]/\k a b
abbrev di(l:Rw)(i:Int)(k:Int->By->Int->Cx->Prop):Prop:=∃a b c d,0<=i/\l[i.toNat]?=some [N a,S b,N c,C d]/\k a b c d
abbrev Qk(l:Rw)(i:Int)(k:Rw->Prop):Prop:=∃a,0<=i/\l[i.toNat]?=some [L 4 a]/\k a
abbrev rK(l:Rw)(i:Int)(k:Rw->Int->Int->Prop):Prop:=∃a b c,0<=i/\l[i.toNat]?=some [L 1 a,N b,N c]/\k a b c
abbrev zA(l:Rw)(i:Int)(k:Int->Int->Rw->Int->Int->Prop):Prop:=∃a b c d e,0<=i/\l[i.toNat]?=some [W a,W b,L 3 c,N d,N e]/\k a b c d e
abbrev pQ(l:Rw)(i:Int)(k:Int->Int->Int->Int->Int->Prop):Prop:=∃a b c d e,0<=i/\l[i.toNat]?=some [N a,N b,N c,N d,W e]/\k a b c d e
abbrev aah(l:Rw)(i:Int)(k:Int->By->Prop):Prop:=∃a b,0<=i/\l[i.toNat]?=some [N a,S b]/\k a b
abbrev Ya(l:Rw)(i:Int)(k:Int->Int->Int->Int->Prop):Prop:=∃a b c d,0<=i/\l[i.toNat]?=some [N a,N b,U c,U d]/\k a b c d
abbrev wA(l:Rw)(i:Int)(k:Rw->Prop):Prop:=∃a,0<=i/\l[i.toNat]?=some [L 5 a]/\k a
abbrev UD(l:Rw)(i:Int)(k:By->By->Int->Int->Int->Prop):Prop:=∃a b c d e,0<=i/\l[i.toNat]?=some [S a,S b,N c,N d,N e]/\k a b c d e
abbrev sL(l:Rw)(i:Int)(k:Int->Int->Int->Int->Int->Rw->Prop):Prop:=∃a b c d e f,0<=i/\l[i.toNat]?=some [N a,N b,N c,U d,U e,L 6 f]/\k a b c d e f
abbrev n5(l:Rw)(i:Int)(k:Int->Int->Bool->Int->Int->Prop):Prop:=∃a b c d e,0<=i/\l[i.toNat]?=some [N a,N b,B c,W d,W e]/\k a b c d e
abbrev adn(l:Rw)(i:Int)(k:Bool->Bool->Prop):Prop:=∃a b,l[i.toNat]?=some [B a,B b]/\k a b
abbrev Ql(l:Rw)(i:Int)(k:Int->Int->Rw->Int->Int->Prop):Prop:=∃a b c d e,l[i.toNat]?=some [W a,W b,L 3 c,N d,N e]/\k a b c d e
def fi:Fi r h r h:=⟨rfl,rfl⟩
def aZ{r a:List AV}{h:List Bx}(b:a=r):Fi r h a h:=⟨b,rfl⟩
def bE(c:b=r)(d:a=h):Fi r h b a:=⟨c,d⟩
def au{n:Int}(a : -9223372036854775808<=n:=by omega)(b:n<=9223372036854775807:=by omega):aq n:=⟨a,b⟩
@[simp] theorem toNat_cast(n:Nat):toNat (n:Int)=n:=rfl
def bM{l:List α}{x:α}{t:List α}(h:l.drop i=x::t):l[i]?=some x/\l.drop (i+1)=t/\i<l.length:=by
 have a:l[i]?=some x:=by rw[<-List.head?_drop,h];rfl
 refine⟨a,?_,(aE.1 a).1⟩;rw[<-eC,h];rfl
def lj{l:List α}(h:l.drop i=[]):l.length<=i:=List.drop_eq_nil_iff.1 h
def fg{l:List α}{i:Nat}{n:Int}(b:n=l.length)(c:∀a,l[i]?=some a->x)(d:l[i]?=none->y):aI (decide ((i:Int)<n)) x y:=by
 subst b;rcases bY i l.length with h|h
 .exact bj (bw (by omega)) (c _ (bo h))
 .exact aw (bB (by omega)) (d (eJ h))
def aL{l:List α}{n:Int}{a:α}{t:List α}(c:n=l.length)(h:l.drop i=a::t)(b:x):aI (decide ((i:Int)<n)) x y:=
 bj (bw (by have:=(bM h).2.2;omega)) b
def aQ{l:List α}{n:Int}(b:n=l.length)(h:l.drop i=[])(a:y):aI (decide ((i:Int)<n)) x y:=
 aw (bB (by have:=lj h;omega)) a
def idx{α:Type}(p:α->Bool):List α->Int
 |[]=> -1
 |x::l=>bif p x then 0 else bif decide (idx p l<0)then -1 else idx p l+1
def wB(p:α->Bool):∀l,-1<=idx p l
 |[]=>by simp[idx]
 |x::l=>by
  have:=wB p l;unfold idx;cases p x<;>simp only[ai,af]<;>try omega
  cases h:decide (idx p l<0)<;>simp only[ai,af]<;>omega
def mG(p:α->Bool):∀l,decide (idx p l>=0)=l.any p
 |[]=>rfl
 |x::l=>by
  have a:=mG p l;have:=wB p l;unfold idx;rw[kj,<-a];cases p x<;>simp only[ai,af,Bool.true_or,mW]
  .cases h:decide (idx p l<0)<;>simp only[ai,af]
   .have:=bI h
    rw[bw (by omega),bw (by omega)]
   .have:=aU h
    rw[bB (by omega),bB (by omega)]
  .rfl
def ve:∀{l:List α},0<=idx p l->∃x,l[(idx p l).toNat]?=some x/\p x=true/\l.find? p=some x
 |[],h=>by simp[idx]at h
 |x::l,h=>by
  unfold idx at h⊢;cases hp:p x<;>simp only[hp,ai,af]at h⊢
  .cases h2:decide (idx p l<0)<;>simp only[h2,ai,af]at h⊢
   .have d:=bI h2
    obtain⟨y,a,b,c⟩:=ve (p:=p) (l:=l) (by omega)
    refine⟨y,?_,b,by rw[cp,hp];exact c⟩
    have:(idx p l+1).toNat=(idx p l).toNat+1:=by omega
    rw[this];simpa using a
   .omega
  .exact⟨x,by simp,hp,by rw[cp,hp]⟩
def zB:∀{l:List α},idx p l<0->l.find? p=none
 |[],h=>rfl
 |x::l,h=>by
  unfold idx at h;cases hp:p x<;>simp only[hp,ai,af]at h
  .cases h2:decide (idx p l<0)<;>simp only[h2,ai,af]at h
   .have:=bI h2;omega
   .rw[cp,hp];exact zB (aU h2)
  .omega
def eZ{Hd:Int->St}{p:α->Bool}{l:List α}(q:l.length<=2^40)(step:∀(i:Nat)(r:List AV)(h:List Bx),(∀x,l[i]?=some x->aI (p x) (Fi r h [vN i] a) (aq ((i:Int)+1)/\mN fn f (Hd ((i:Int)+1)) d r h))->(l[i]?=none->Fi r h [vN (-1)] a)->mN fn f (Hd i) d r h):
  mN fn f (Hd 0) d [vN (idx p l)] a:=by
 have key:∀(t:List α)(i:Nat),l.drop i=t->mN fn f (Hd i) d [vN (bif decide (idx p t<0)then -1 else i+idx p t)] a:=by
  intro t;induction t with
  |nil=>
   intro i g;have:=lj g;exact step i _ _ (fun x c=>by rw[eJ this]at c;simp at c) fun _=>fi
  |cons y t o=>
   intro i g;obtain⟨k,b,n⟩:=bM g;have lb:=wB p t;refine step i _ _ (fun x c=>?_) fun m=>by rw[k]at m;simp at m
   rw[k]at c;obtain rfl:=ax c;unfold idx;refine ad (fun a=>?_) fun a=>⟨au,?_⟩
   .rw[a]
    exact aZ (by simp)
   .rw[a]
    have:=o (i+1) b;have e:(bif decide (idx p t<0)then(-1:Int)else((i+1:Nat):Int)+idx p t)=bif decide ((bif false then(0:Int)else bif decide (idx p t<0)then -1 else idx p t+1)<0)then -1 else(i:Int)+(bif false then(0:Int)else bif decide (idx p t<0)then -1 else idx p t+1):=by
     cases b:decide (idx p t<0)with
     |true=>simp
     |false=>
      have n:=bI b;simp only[af];rw[show decide (idx p t+1<0)=false from bB (by omega)]
      simp only[af];omega
    rw[e]at this;exact this
 have j:=key l 0 rfl;have lb:=wB p l;have e:(bif decide (idx p l<0)then(-1:Int)else((0:Nat):Int)+idx p l)=idx p l:=by
  cases b:decide (idx p l<0)with
  |true=>have:=aU b;simp;omega
  |false=>simp
 rw[e]at j;exact j
def aP{f:α->List PV}{l:List α}{i:Nat}{x:α}(h:l[i]?=some x):(l.map f)[toNat (i:Int)]?=some (f x):=by simp[h]
structure Tok where
 kind:Int
 text:By
 file:Int
 spot:Cx
def Tok.row(t:Tok):List PV:=[N t.kind,S t.text,N t.file,C t.spot]
structure Act where
 kind:Int
 data:Int
 deriving DecidableEq,Inhabited
inductive Ex where
 |mk (kind:Int) (op name:By) (num:Int) (kids:List Ex)
mutual
def Ex.row:Ex->List PV
 |.mk k o m n l=>[N k,S o,S m,U n,L 5 (bt l)]
def bt:List Ex->Rw
 |[]=>[]
 |e::l=>e.row::bt l
end
def dw:∀(l:List Ex),bt l=l.map Ex.row
 |[]=>rfl
 |e::l=>by rw[bt,dw l];rfl
def Ex.kind:Ex->Int|.mk k _ _ _ _=>k
def Ex.op:Ex->By|.mk _ o _ _ _=>o
def Ex.name:Ex->By|.mk _ _ m _ _=>m
def Ex.num:Ex->Int|.mk _ _ _ n _=>n
def Ex.kids:Ex->List Ex|.mk _ _ _ _ l=>l
def Ex.cu(e:Ex):e.row=[N e.kind,S e.op,S e.name,U e.num,L 5 (bt e.kids)]:=by cases e;rfl
def He(s:By):List PV:=[S s]
def aJ(l:List By):Rw:=l.map He
structure gP where
 call:By
 params:List By
 cond:List Ex
def gP.row(r:gP):List PV:=[S r.call,L 1 (aJ r.params),L 5 (r.cond.map Ex.row)]
structure cQ where
 use:By
 act:Act
 bk:List gP
def cQ.row(p:cQ):List PV:=[S p.use,N p.act.kind,N p.act.data,L 3 (p.bk.map gP.row)]
structure cW where
 name:By
 aT:List cQ
def cW.row(p:cW):List PV:=[S p.name,L 4 (p.aT.map cQ.row)]
structure cZ where
 name:By
 ex:Ex
def cZ.row(d:cZ):List PV:=S d.name::d.ex.row
structure fT where
 aF:List cZ
 aB:List cW
 main:List By
 ch:Act
def o1(G:Gh)(w:World)(g m:Nat)(own:Bool):Gh:=⟨fun b=>if b<w.heap.size then G.bX b else if b=g then m else 0,
 fun x=>match x with|.tok 0=>bif own then some g else none|.tok _=>none|x=>G.h x,G.val,G.bD⟩
def zC{O:Nat->Prop}(a:Inv P d f O G e w)(c:RowKit.Below w.heap.size w w')(g m:Nat)(own:Bool):Grow G.bX w (o1 G w g m own).bX w':=by
 refine⟨fun b=>?_,fun b o h=>?_⟩
 .rcases bY b w.heap.size with h|h
  .simp[o1,h]
  .rw[a.frame.xr b h];exact dV _
 .exact World.cell?_of_block (w:=w) (c.block b (a.JI h))
def pR{O:Nat->Prop}(a:Inv P s z O G v w)(c:RowKit.Below w.heap.size w w')(q:w.heap.size<=g/\(g<w'.heap.size\/(m=0/\own=false))):
  Inv P s z O (o1 G w g m own) v w':=by
 have p:=zC a c g m own;have k:cq G [] w (o1 G w g m own) [] w':=⟨p,fun _ h=>h,fun _ _=>rfl,ar _,fun t n h _=>by simp at h⟩
 have H:∀x n b,Hd.on b x->G.h x=some n->(o1 G w g m own).h x=some n/\(o1 G w g m own).bX n=G.bX n/\w'.heap[n]?=w.heap[n]?:=fun x n b d l=>by
  have u:=(a.nO x n l).1;refine⟨?_,by simp[o1,u],c.block n u⟩
  cases x with
  |tok t=>simp[Hd.on]at d
  |_=>exact l
 refine⟨⟨?_,c.os.trans a.frame.os,c.tape.trans a.frame.tape,c.output.trans a.frame.output,fun b i f=>?_,a.frame.grow.trans p,fun b h=>?_,a.frame.laid⟩,a.nb,fun b bx h=>?_,fun x y n i f=>?_,fun x n h=>?_,fun b n i f=>?_⟩
 .have:=a.frame.size;have:=c.size;omega
 .have:=a.frame.size
  obtain⟨o,j⟩:=a.frame.Ej b i f;exact⟨(c.block b (by omega)).trans o,by rw[<-j];simp[o1,show b<w.heap.size by omega]⟩
 .have:=c.size
  show(if b<w.heap.size then G.bX b else if b=g then m else 0)=0
  rw[aN (by omega)]
  split
  .rcases q.2 with e|e
   .omega
   .exact e.1
  .rfl
 .exact(a.box b bx h).bF k (fun E=>by subst E;exact a.box b _ h) fun x n d l=>H x n b d l
 .have key:∀x,(o1 G w g m own).h x=some n->(x = .tok 0/\n=g)\/(G.h x=some n/\n<w.heap.size):=fun x d=>by
   cases x with
   |tok t=>
    cases t with
    |zero=>cases own<;>simp[o1]at d;exact .inl ⟨rfl,d.symm⟩
    |succ t=>simp[o1]at d
   |_=>exact .inr ⟨d,(a.nO _ _ d).1⟩
  rcases key x i with⟨rfl,o⟩|⟨r,J⟩<;>rcases key y f with⟨rfl,j⟩|⟨D,K⟩
  .rfl
  .omega
  .omega
  .exact a.inj _ _ _ r D
 .have I:=c.size
  have:=a.frame.size;cases x with
  |tok t=>
   cases t with
   |zero=>
    cases ho:own<;>simp[o1,ho]at h
    subst h;rcases q.2 with e|e
    .exact⟨e,fun f=>by omega⟩
    .rw[ho]at e;simp at e
   |succ t=>simp[o1]at h
  |_=>obtain⟨o,j⟩:=a.nO _ _ h;exact⟨by omega,j⟩
 .exact a.dead b n i f
def yy{O:Nat->Prop}(f:Inv P x H O G D w)(d:RowKit.Below w.heap.size w w')(M:w'.ownsRow w.heap.size e n v len xs)(s:aj.length=len)(K:∀r∈aj,r.length=n)(t:∀i j p,kf aj i j=some p->∃u,xs[i*n+j]?=some u/\cm G.bX w u p):
  ∃a,Inv P x H O a D w'/\Grow G.bX w a.bX w'/\aS a [some 0] w' v (.own 0 0 n aj)/\∀b,G.bD b->a.bD b/\a.val b=G.val b:=by
 obtain⟨z,⟨rfl,rfl⟩|⟨g,cap,y,rfl,J,l,T,F,X,Y⟩⟩:=M
 .obtain rfl:aj=[]:=ir.1 s
  exact⟨o1 G w w'.heap.size 0 false,pR f d ⟨d.size,.inr ⟨rfl,rfl⟩⟩,zC f d _ _ _,.own (by simp) (fun m _=>dV m) (.m3 n) (fun _ h=>absurd h (Nat.lt_irrefl 0)),fun b h=>⟨h,rfl⟩⟩
 .have Q:g<w'.heap.size:=by
   rcases bY g w'.heap.size with h|h
   .exact h
   .rw[sE h]at l;simp at l
  have o:=zC f d g (len*n) true;have E:(o1 G w g (len*n) true).bX g=len*n:=by
   show(if g<w.heap.size then G.bX g else if g=g then len*n else 0)=len*n
   rw[aN (by omega),aG rfl]
  have Z:∀k u,xs[k]?=some u->w'.cell? ⟨g,0+k,none⟩=some u:=fun k u h=>by
   have q:k<len*n:=by rw[<-z];exact(aE.1 h).1
   have:y[k]?=some u:=by
    rw[<-Y,ff]at h;rw[aG q]at h;rw[<-iq];exact h
   rw[cv];simp only[World.cell?,l];simpa using this
  refine⟨o1 G w g (len*n) true,pR f d ⟨J,.inl Q⟩,o,?_,fun b h=>⟨h,rfl⟩⟩
  refine .own (by simp) (fun m _=>dV m) ?_ fun _ _=>⟨g,0,y,e,rfl,rfl,by rw[E];omega,l,by rw[X];omega⟩
  refine .sl g 0 len cap n aj (fun i j=>(xs[i*n+j]?).getD undef) s T K (fun i j p h=>?_) fun i j p h=>?_
  .obtain⟨u,c,-⟩:=t i j p h
   have q:i*n+j<len*n:=by rw[<-z];exact(aE.1 c).1
   refine⟨?_,by rw[E];omega⟩
   have:=Z _ u c;rw[c];simp only[m0];rw[gU];exact this
  .obtain⟨u,c,I⟩:=t i j p h
   simp only[c,m0];exact I.grow o
def LZ(h:lT G ae w b [a]):∃v,b=[v]/\aS G ae w v a:=by
 obtain⟨c,d⟩:=h;match b,c with
 |[v],_=>exact⟨v,rfl,d 0 v a rfl rfl⟩
def L0(h:lT G ae w c [a,b]):∃v u,c=[v,u]/\aS G ae w v a/\aS G ae w u b:=by
 obtain⟨e,d⟩:=h;match c,e with
 |[v,u],_=>exact⟨v,u,rfl,d 0 v a rfl rfl,d 1 u b rfl rfl⟩
def aai(h:lT G ae w e [a,b,c]):∃v u x,e=[v,u,x]/\aS G ae w v a/\aS G ae w u b/\aS G ae w x c:=by
 obtain⟨f,d⟩:=h;match e,f with
 |[v,u,x],_=>exact⟨v,u,x,rfl,d 0 v a rfl rfl,d 1 u b rfl rfl,d 2 x c rfl rfl⟩
def L1(h:aS G ae w v (vS s)):v = .string ⟨s.toArray⟩:=by
 cases h with
 |v h=>
  generalize a:S s=p at h;cases h with
  |str b=>simp only[S,PV.str.injEq]at a;subst a;simp
  |_=>simp[S]at a
def L2(h:aS G ae w v (.v (.int k n))):v = .int k n:=by
 cases h with
 |v h=>cases h;rfl
def ei(h:aS G ae w v a):lT G ae w [v] [a]:=⟨rfl,fun i d a' b c=>by
 match i with
 |0=>simp at b c;subst b;subst c;exact h
 |i+1=>simp at b⟩
def Qm(h:aS G ae w v a)(e:aS G ae w u b):lT G ae w [v,u] [a,b]:=⟨rfl,fun i f a' c d=>by
 match i with
 |0=>simp at c d;subst c;subst d;exact h
 |1=>simp at c d;subst c;subst d;exact e
 |i+2=>simp at c⟩
abbrev ZR(k:FuncId):Prop:=∀a w,(callFunc k a).run prog w = .ok (.enter k a) w
def eQ(b:ZR k)(h:Calls prog k a w Q)(c:∀e w',Q e w'->∃v,e = .returned v/\K v w'):dH prog (callFunc k a) w K:=
 .GJ (b a w) (h.mono c)
def ev1(s:ZR k){r:List PV}(H:∀v w(g:Nat->Nat),Laid g w->cm g w v a->∃d:List Value,d.length=r.length/\(∀(i:Nat)u p,d[i]?=some u->r[i]?=some p->cm g w u p)/\Calls prog k #[v] w fun e w'=>e = .returned (uZ d)/\w'=w):
  ak k [.v a] [] (r.map .v) []:=⟨fun w j O z l x=>by
 obtain⟨v,rfl,f⟩:=LZ x;cases f with
 |v f=>
  obtain⟨d,m,n,o⟩:=H v w j.bX l.frame.Ca f;refine eQ s o ?_;rintro e w' ⟨rfl,rfl⟩;exact⟨_,rfl,j,d,l,⟨by simp[m],fun i u a y c=>by
   obtain⟨p,t,rfl⟩:∃p,r[i]?=some p/\a = .v p:=by
    rw[bu]at c;cases hq:r[i]? with
    |none=>rw[hq]at c;simp at c
    |some p=>rw[hq]at c;exact⟨p,rfl,by simpa using c.symm⟩
   exact .v (n i u p y t)⟩,rfl,fun b q=>⟨q,rfl⟩⟩⟩
def Yb(t:ZR k){r:List PV}(H:∀v u w(g:Nat->Nat),Laid g w->cm g w v a->cm g w u b->∃f:List Value,f.length=r.length/\(∀(i:Nat)u p,f[i]?=some u->r[i]?=some p->cm g w u p)/\Calls prog k #[v,u] w fun e w'=>e = .returned (uZ f)/\w'=w):
  ak k [.v a,.v b] [] (r.map .v) []:=⟨fun w l O z m y=>by
 obtain⟨v,u,rfl,j,d⟩:=L0 y;cases j with
 |v j=>
 cases d with
 |v d=>
  obtain⟨f,n,o,q⟩:=H v u w l.bX m.frame.Ca j d;refine eQ t q ?_;rintro e w' ⟨rfl,rfl⟩;exact⟨_,rfl,l,f,m,⟨by simp[n],fun i u a d c=>by
   obtain⟨p,x,rfl⟩:∃p,r[i]?=some p/\a = .v p:=by
    rw[bu]at c;cases hq:r[i]? with
    |none=>rw[hq]at c;simp at c
    |some p=>rw[hq]at c;exact⟨p,rfl,by simpa using c.symm⟩
   exact .v (o i u p d x)⟩,rfl,fun b s=>⟨s,rfl⟩⟩⟩
def mf(h:cm c w v (S s)):v = .string ⟨s.toArray⟩:=by
 generalize a:S s=p at h;cases h with
 |str b=>simp only[S,PV.str.injEq]at a;subst a;simp
 |_=>simp[S]at a
def wC(h:cm a w v (.int k n)):v = .int k n:=by cases h;rfl
def Ki(s:By):cm a w (.string ⟨s.toArray⟩) (S s):=.str ⟨s.toArray⟩
def sM(h:cm c w v p):∀(i:Nat)u q,[v][i]?=some u->[p][i]?=some q->cm c w u q:=fun i u q a b=>by
 match i with
 |0=>simp at a b;subst a;subst b;exact h
 |i+1=>simp at a
def L3(h:cm c w v p)(f:cm c w e d):∀(i:Nat)u q,[v,e][i]?=some u->[p,d][i]?=some q->cm c w u q:=fun i u q a b=>by
 match i with
 |0=>simp at a b;subst a;subst b;exact h
 |1=>simp at a b;subst a;subst b;exact f
 |i+2=>simp at a
section
open Go.RowKit Go.Maps
abbrev kz:Int->Value:=Value.int .u32
abbrev FW:Fence:=Fence.wide
def u29:prog.underlying 29=some (.int .u32):=underlying29
def L4(h:keyOf prog 29 key=some kl):∃x:Int,key=kz x/\kl = .int .u32 x:=by
 cases key<;>simp[keyOf,u29,mapKey]at h
 rename_i q a;obtain⟨⟨rfl,_⟩,rfl⟩:=h;exact⟨a,rfl,rfl⟩
def EH(ks:List Int)(left:Lit->Bool)(ss:List Int):Prop:=ss.Nodup/\∀x,x∈ss<->(x∈ks/\left (.int .u32 x)=false)
structure sN (D0:DataW Unit) (ks:List Int):Prop where
 has:∀x,Maps.has D0 (.int .u32 x)=true<->x∈ks
 nd:ks.Nodup
 sz:Maps.size D0=ks.length
def EH.start(h:sN D0 ks):EH ks (Maps.has D0) []:=
 ⟨List.nodup_nil,fun x=>⟨fun hx=>by simp at hx,fun⟨h1,h2⟩=>by rw[(h.has x).2 h1]at h2;simp at h2⟩⟩
def EH.step(hk:sN D0 ks)(h:EH ks left ss)(hlk:left (.int .u32 x)=true)(hat:∀zd,D0.atKey (.int .u32 x) zd=y):
  EH ks (fun z=>left z && !z.sameKey (.int .u32 x)) (ss++[x]):=by
 have adq:x∈ks:=(hk.has x).1 (has_true_of_atKey hat);have adr:x∉ss:=fun hx=>by have:=((h.2 x).1 hx).2;rw[hlk]at this;cases this
 refine⟨uz.2 ⟨h.1,by simp,fun a ha b hb=>by simp at hb;subst hb;exact fun e=>adr (e▸ha)⟩,fun y=>?_⟩
 by_cases hy:y=x
 .subst hy;simp[adq,Lit.sameKey]
 .simp[h.2 y,hy,Lit.sameKey]
def EH.perm(hk:sN D0 ks)(h:EH ks left ss)(hl:∀kl,left kl=false):ss.Perm ks:=
 (List.perm_ext_iff_of_nodup h.1 hk.nd).2 fun x=>by rw[h.2 x,hl];simp
set_option maxHeartbeats 1000000 in
theorem UE(n:Nat)(hn:1<=n)(l Bm b nn:Nat)(D0:DataW Unit){ks:List Int}(ZS:sN D0 ks){R:Value->Option (DataW Unit×List MemPlace)}(J:List Int->World->Prop)
  (hY:∀pre x W,J pre W->pre.length<ks.length->YieldAt FW (n-1) prog l #[kz x] W fun e W'=>e = .returned (.bool true)/\J (pre++[x]) W'/\KeepsWalks W W')
  (W:World)(hJ:AbidesFrom W.heap.size J)(hm:W.cell? ⟨Bm,0,none⟩=some (.map (some b)))(UF:W.ownsMap prog 29 R b nn D0)(h0:J [] W):
  CallsIn FW n prog 165 #[.func (.yield l) #[] #[],.pointer (some ⟨Bm,0,none⟩)] W fun e W'=>(∃v,e = .returned v)/\∃ss:List Int,ss.Perm ks/\J ss W':=by
 have mixed:=mixed;have t0:=underlying0;have a0:=isAgg0;have z0:=sizeOf0;have v0:=zeroValue0;have t4:=underlying4;have a4:=isAgg4;have z4:=sizeOf4;have v4:=zeroValue4;have t23:=underlying209;have a23:=isAgg209;have z23:=sizeOf209;have v23:=zeroValue209;have t26:=underlying29;have a26:=isAgg29;have z26:=sizeOf29;have v26:=zeroValue29;have t33:=underlying297;have a33:=isAgg297;have z33:=sizeOf297;have v33:=zeroValue297;have u0:=run_underlying t0;have u4:=run_underlying t4;have u23:=run_underlying t23;have u26:=run_underlying t26;have u33:=run_underlying t33;refine callsIn_of_wp func165 rfl trivial ?_ rfl;simp only[show f165.ntmps=14 from rfl,sy,aD,cS,Nat.reduceAdd,Nat.reduceSub,yl,yk,uy,ye,dP,dt]
 gi_wp2_with (first
  |(gi_at_range;refine wpListIn_range_own _ rfl _ 209 rfl 29 213 (int_keyed u29) t23 _ b nn _ rfl UF ?_;intro w0 adt hg0 hs0)
  |gi_in)
 go_frame
 gi_loopw [3] (fun _ wr=>∃(left:Lit->Bool)(cnt:Nat)(ss:List Int),wr.ranges prog 29 R b W.heap.size nn D0 left cnt/\ss.length+cnt<=Maps.size D0/\EH ks left ss/\J ss wr)
  (fun _ wr=>wr.rangeLeft b W.heap.size)
 case atStart=>
  exact⟨_,_,[],adt,by simp,EH.start ZS,hJ [] W w0 none h0 hg0 (fun r e=>by cases e)⟩
 case round=>
  obtain⟨left,cnt,ss,hrg,hcs,hC,hJs⟩:=hrel;gi_wp2_with (first
   |(gi_at_next;refine wpListIn_next_ranges _ rfl _ rfl 29 (int_keyed u29) R kz id (fun key kl hk=>by obtain⟨x,hx,_⟩:=L4 hk;exact⟨x,hx⟩) (fun v _ _=>⟨v,rfl⟩) b W.heap.size nn _ _ _ rfl hrg ?_ ?_)
   |gi_in)
  .intro hc0 hl0
   gi_wp2
   go_end0
   exact⟨⟨_,rfl⟩,ss,hC.perm ZS hl0,hJs⟩
  .intro x c kl yd yp w2 adw adx hlk hv hat ady hlt hg2 hs2 hen
   obtain⟨x',ex,rfl⟩:=L4 adx;obtain rfl:x=x':=by simpa[kz]using ex
   have hJ2:J ss w2:=hJ ss wr w2 (some W.heap.size) hJs hg2 (fun r e=>by cases e;exact⟨ar _,hrg.iter_walk⟩)
   obtain⟨fn,tmps,assign,body,hy,hR⟩:=hY ss x w2 hJ2 (by have:=ZS.sz;omega)
   clear hs2;gi_wp2
   refine hR.mono ?_;rintro e W3 ⟨rfl,hJ3,hk3⟩;gi_wp2
   have aaj:=ady.of_walks hk3;go_roundw
   case rel=>exact⟨_,adw,ss++[x],aaj,by simp;omega,hC.step ZS hlk hat,hJ3⟩
   case measure=>rw[aaj.left_eq,hrg.left_eq];exact hlt
def BZ(n:Nat)(hn:1<=n)(Bm b nn:Nat)(D0:DataW Unit)(ZS:sN D0 ks)(w:World)(hBm:Bm<w.heap.size)(hm:w.cell? ⟨Bm,0,none⟩=some (.map (some b)))(UF:w.ownsMap prog 29 R b nn D0):
  SeqGives FW n prog 165 #[.pointer (some ⟨Bm,0,none⟩)] kz (fun ss=>ss.Perm ks) ks.length w:=fun l J W hW hJ hY h0=>by
 have Hg:W.ownsMap prog 29 R b nn D0:=by
  have hbl:=UF.lt;obtain⟨es,clock,hb,Ft,hs,hD⟩:=UF;exact⟨es,clock,(hW.block b hbl).trans hb,Ft,hs,hD⟩
 exact UE n hn l Bm b nn D0 ZS J hY W hJ ((hW.cell (p:=⟨Bm,0,none⟩) hBm).trans hm) Hg h0
end
section
open Go.RowKit Go.Maps
def apAssign:Code:=(Code.region 2 #[{dst:=some 5,op:=Op.assign (Operand.tmp 7),type:=29,pos := "iter.go:51",after := #[],guard:=none}] false)
def apBody:Code:=(Code.block 1 (Code.region 3 #[{dst:=some 8,op:=Op.load 60 (Operand.tmp 2),type:=60,pos := "iter.go:52",after := #[],guard:=none},{dst:=some 9,op:=Op.move (Operand.tmp 5),type:=29,pos := "iter.go:52",after := #[],guard:=none},{dst:=some 10,op:=Op.buildSlice 60 1 #[(0,Operand.tmp 9)],type:=60,pos := "iter.go:52",after := #[{on:=1,ground:=Ground.data}],guard:=none},{dst:=some 11,op:=Op.call {callee:=Callee.builtin Builtin.append,args := #[Operand.tmp 8,Operand.tmp 10],argTypes := #[60,60]},type:=60,pos := "iter.go:52",after := #[{on:=0,ground:=Ground.data},{on:=2,ground:=Ground.data}],guard:=none},{dst:=none,op:=Op.store 60 (Operand.tmp 2) (Operand.tmp 11),type:=0,pos := "iter.go:52",after := #[{on:=3,ground:=Ground.data},{on:=3,ground:=Ground.chain},{on:=0,ground:=Ground.phase},{on:=1,ground:=Ground.phase},{on:=2,ground:=Ground.phase},{on:=3,ground:=Ground.phase}],guard:=none}] false))
def apRec(fn:FuncId)(sv:Value)(Bs D:Nat)(st:LoopState)(wD:Option Code):Loop:=
 {state:=st,pending:=wD,fn,tmps := #[.slice none 0 0,sv,.pointer (some ⟨Bs,0,none⟩),undef,.slice none 0 0,undef,sv,undef,undef,undef,undef,undef,undef],params := #[7],assign:=apAssign,body:=apBody,defers:=D}
structure ApAt (w0:World) (fn:FuncId) (sv:Value) (Bs l D:Nat) (ss:List Int) (W:World):Prop where
 box:∃v,W.heap[Bs]?=some (.cells #[v] 60 (0,0))/\W.ownsRow w0.heap.size 29 1 v ss.length (ss.map kz)/\(v = .slice none 0 0<->ss=[])
 L:W.heap[l]?=some (.loop (apRec fn sv Bs D .ready none))
 K:W.heap[D]?=some (.deferred (some []))
 below:Below w0.heap.size w0 W
def ap_abides(w0:World)(fn:FuncId)(sv:Value)(Bs l D B:Nat)(hB:w0.heap.size<=B):AbidesFrom B (ApAt w0 fn sv Bs l D):=fun s W W' row h hg x9=>by
 have L5:∀r,row=some r->∃o:Obj,W.heap[r]?=some o/\o.isWalk=true:=fun r e=>(x9 r e).2
 obtain⟨v,hv,hr,hn⟩:=h.box;exact⟨⟨v,(grownBy_keeps hg L5 hv rfl).trans hv,ownsRow_abides_a hr hg L5,hn⟩,(grownBy_keeps hg L5 h.L rfl).trans h.L,(grownBy_keeps hg L5 h.K rfl).trans h.K,
  h.below.grown hg h.below.size (fun k e=>dX hB (x9 k e).1)⟩
def i29:(prog.info? 29).map (fun i=>(i.zero,i.size,i.bytes))=some (some (.int .u32 0),1,4):=by kernel_rfl
set_option maxHeartbeats 2000000 in
theorem apYield(m:Nat)(w0:World)(fn:FuncId)(sv:Value)(Bs l D:Nat)(hBl:Bs≠l)(hDl:D≠l)(hDB:D≠Bs)(h0B:w0.heap.size<=Bs)(h0l:w0.heap.size<=l)
  (N:Nat)(hN:N<=maxLen)(hNb:N*4<=140737488355328)(ss:List Int)(x:Int)(W:World)(h:ApAt w0 fn sv Bs l D ss W)(hlen:ss.length<N):
  YieldAt FW m prog l #[kz x] W fun e W'=>e = .returned (.bool true)/\ApAt w0 fn sv Bs l D (ss++[x]) W'/\KeepsWalks W W':=by
 have mixed:=mixed;have t0:=underlying0;have a0:=isAgg0;have z0:=sizeOf0;have v0:=zeroValue0;have t24:=underlying60;have a24:=isAgg60;have z24:=sizeOf60;have v24:=zeroValue60;have t26:=underlying29;have a26:=isAgg29;have z26:=sizeOf29;have v26:=zeroValue29;have t28:=underlying219;have a28:=isAgg219;have z28:=sizeOf219;have v28:=zeroValue219;have UG:(60:TypeId)≠29:=by decide
 have u0:=run_underlying t0;have u24:=run_underlying t24;have u26:=run_underlying t26;have u28:=run_underlying t28;obtain⟨i0,hi,hz0,hz1,hz2⟩:=info_parts i29;obtain⟨v,hv,x9,_⟩:=h.box;refine⟨fn, #[.slice none 0 0,sv,.pointer (some ⟨Bs,0,none⟩),undef,.slice none 0 0,undef,sv,kz x,undef,undef,undef,undef,undef],apAssign,apBody,by simpa[apRec]using run_yield (P:=prog) (args := #[kz x]) h.L rfl,roundIn_of_wpIn trivial ?_⟩
 have hl:l<W.heap.size:=(ia.1 h.L).1;have hbr:=run_beginRound (P:=prog) h.L rfl;obtain⟨W2,Yc⟩:∃W2,W.putObj l (.loop {apRec fn sv Bs D .ready none with state:=.busy})=W2:=⟨_,rfl⟩;rw[Yc]at hbr;have hg2:W.grownBy W2 (some l):=by rw[<-Yc];exact grownBy_putObj_a _ _ _
 have hk2:KeepsWalks W W2:=by rw[<-Yc];exact KeepsWalks.putObj _ h.L rfl
 have hv2:W2.heap[Bs]?=some (.cells #[v] 60 (0,0)):=by rw[<-Yc];exact(World.putObj_heap_other hBl).trans hv
 have hK2:W2.heap[D]?=some (.deferred (some [])):=by rw[<-Yc];exact(World.putObj_heap_other hDl).trans h.K
 have hL2:W2.heap[l]?=some (.loop {apRec fn sv Bs D .ready none with state:=.busy}):=by rw[<-Yc];exact World.putObj_heap_same hl
 have L6:W2.ownsRow w0.heap.size 29 1 v ss.length (ss.map kz):=x9.kept hg2 (ownsRow_ne_a x9 h.L (fun cur e=>by first|cases e|exact UG (Obj.cells.inj e).2.1))
 have ZT:Below w0.heap.size w0 W2:=h.below.grown hg2 h.below.size (fun k e=>by cases e;exact h0l)
 obtain⟨hc2,hf2⟩:=cell_of_box_a hv2;have adC:Bs<W2.heap.size:=(ia.1 hv2).1;have hl2:l<W2.heap.size:=(ia.1 hL2).1;have adD:D<W2.heap.size:=(ia.1 hK2).1;have ne_of:∀{j:Nat}{o:Obj},W2.heap[j]?=some o->(∀cur,o≠.cells cur 29 (0,0))->some j≠v.ownBlock:=fun hj hno=>by
  rcases ownsRow_ne_a L6 hj hno with e|e
  .rw[e];simp
  .exact fun e'=>e e'.symm
 clear Yc;unfold apAssign;gi_wp2_with gi_round_op_a
 unfold apBody;gi_wp2_with (first
  |(gi_at_builtin;refine wpListIn_append_own _ rfl _ _ 60 rfl w0.heap.size 29 i0 (.int .u32 0) 1 4 t24 hi hz0 hz1 hz2 rfl (by decide) _ _ _ rfl (L6.alloc _) ⟨W2.heap.size,0,none⟩ 1 1 [kz x] rfl rfl (cell_one_new _ _ _) (by simp[Value.oneCell',kz]) (by omega) (by omega) (by have:=ZT.size;simp;omega) ?_;intro v' w3 Hg hg3 aju
    have hv3:w3.heap[Bs]?=some (.cells #[v] 60 (0,0)):=(hg3.block Bs (by simp;omega) (ne_of hv2 (fun cur e=>by first|cases e|exact UG (Obj.cells.inj e).2.1))).trans ((Below.heap_alloc _ _ Bs adC).trans hv2)
    obtain⟨hc3,hf3⟩:=cell_of_box_a hv3;obtain⟨g',Kj,UH,rfl,adE,ak0,hr1,hr2,hr3,hr4⟩:∃g' Kj UH,v' = .slice (some ⟨g',0,none⟩) (ss.length+1) Kj/\w0.heap.size<=g'/\w3.heap[g']?=some (.cells UH 29 (0,0))/\ss.length+1<=Kj/\Kj<=maxLen/\UH.size=Kj*1/\UH.toList.take ((ss.length+1)*1)=ss.map kz++[kz x]:=by
     rcases Hg.2 with⟨_,h0⟩|h'
     .exact absurd h0 (by omega)
     .exact h'
    go_frame)
  |gi_round_op_a)
 have UI:(W2.alloc (.cells #[kz x] 29)).grownBy w3 v.ownBlock:=hg3;have hL3:w3.heap[l]?=some (.loop {apRec fn sv Bs D .ready none with state:=.busy}):=(UI.block l (by simp;omega) (ne_of hL2 (fun cur e=>by first|cases e|exact UG (Obj.cells.inj e).2.1))).trans ((Below.heap_alloc _ _ l hl2).trans hL2)
 have hK3:w3.heap[D]?=some (.deferred (some [])):=(UI.block D (by simp;omega) (ne_of hK2 (fun cur e=>by first|cases e|exact UG (Obj.cells.inj e).2.1))).trans ((Below.heap_alloc _ _ D adD).trans hK2)
 obtain⟨w4,hw4⟩:∃w4,w3.setCell ⟨Bs,0,none⟩ (.slice (some ⟨g',0,none⟩) (ss.length+1) Kj)=w4:=⟨_,rfl⟩;rw[hw4];have hg4:w3.grownBy w4 (some Bs):=by rw[<-hw4];exact grownBy_setCell0_a _ _ _
 have hv4:w4.heap[Bs]?=some (.cells #[.slice (some ⟨g',0,none⟩) (ss.length+1) Kj] 60 (0,0)):=by rw[<-hw4];exact heap_setCell_box_a _ hv3
 have hL4:w4.heap[l]?=some (.loop {apRec fn sv Bs D .ready none with state:=.busy}):=(hg4.block l (ia.1 hL3).1 (fun e=>hBl (by cases e;rfl))).trans hL3
 have hK4:w4.heap[D]?=some (.deferred (some [])):=(hg4.block D (ia.1 hK3).1 (fun e=>hDB (by cases e;rfl))).trans hK3
 have Wj:=Hg.kept hg4 (ownsRow_ne_a Hg hv3 (fun cur e=>by first|cases e|exact UG (Obj.cells.inj e).2.1))
 have hl4:l<w4.heap.size:=(ia.1 hL4).1;have hb3:Below w0.heap.size w0 w3:=(ZT.alloc ZT.size _).grown UI (by have:=ZT.size;simp;omega) (fun k e=>(L6.lt k e).1)
 have hb4:Below w0.heap.size w0 w4:=hb3.grown hg4 hb3.size (fun k e=>by cases e;exact h0B)
 have hk4:KeepsWalks W w4:=((hk2.trans (KeepsWalks.alloc _ _)).trans (KeepsWalks.of_grownBy UI (ownsRow_not_walk_a (L6.alloc _)))).trans (by rw[<-hw4];exact KeepsWalks.setCell _ _ _)
 clear hw4;refine⟨_,_,run_endRound none hL4,rfl,⟨⟨_,(World.putObj_heap_other hBl).trans hv4,?_,by simp⟩,World.putObj_heap_same hl4,(World.putObj_heap_other hDl).trans hK4,hb4.grown (grownBy_putObj_a _ _ _) hb4.size (fun k e=>by cases e;exact h0l)⟩,hk4.trans (KeepsWalks.putObj _ hL4 rfl)⟩
 have:=Wj.kept (grownBy_putObj_a w4 l (.loop {{apRec fn sv Bs D .ready none with state:=.busy}with state:=if(none:Option Code).isNone then .ready else .done,pending:=none})) (ownsRow_ne_a Wj hL4 (fun cur e=>by first|cases e|exact UG (Obj.cells.inj e).2.1))
 simpa using this
set_option maxHeartbeats 2000000 in
theorem EI(n:Nat)(hn:2<=n)(g:Nat)(lb:Array Value)(eg:∀args w,(callFunc g args).run prog w = .ok (.enter g args) w)
  (S:List Int->Prop)(N:Nat)(hN:N<=maxLen)(hNb:N*4<=140737488355328)(w:World)(Yd:SeqGives FW (n-1) prog g lb kz S N w):
  CallsIn FW n prog 231 #[.slice none 0 0,.func (.func g) #[] lb] w fun e w'=>∃(v:Value)(ss:List Int),e = .returned v/\S ss/\w'.ownsRow w.heap.size 29 1 v ss.length (ss.map kz)/\(v = .slice none 0 0<->ss=[])/\Below w.heap.size w w':=by
 have h1:1<=n:=by omega
 have mixed:=mixed;have t0:=underlying0;have a0:=isAgg0;have z0:=sizeOf0;have v0:=zeroValue0;have t24:=underlying60;have a24:=isAgg60;have z24:=sizeOf60;have v24:=zeroValue60;have t26:=underlying29;have a26:=isAgg29;have z26:=sizeOf29;have v26:=zeroValue29;have t28:=underlying219;have a28:=isAgg219;have z28:=sizeOf219;have v28:=zeroValue219;have UG:(60:TypeId)≠29:=by decide
 have u0:=run_underlying t0;have u24:=run_underlying t24;have u26:=run_underlying t26;have u28:=run_underlying t28;refine callsIn_of_wp_marks func231 rfl trivial ?_ rfl;simp only[show f231.ntmps=13 from rfl,sy,aD,cS,Nat.reduceAdd,Nat.reduceSub,yl,yk,uy,ye,dP,dt]
 gi_wp2
 refine wpIn_rangeFunc ?_;intro fn hfn;rw[show FW.round=none from rfl]
 obtain⟨W0,hW0⟩:∃W0,w.alloc (.cells #[.slice none 0 0] 60)=W0:=⟨_,rfl⟩;have hs0:W0.heap.size=w.heap.size+1:=by rw[<-hW0];simp
 have hv0:W0.heap[w.heap.size]?=some (.cells #[.slice none 0 0] 60 (0,0)):=by rw[<-hW0];exact World.alloc_heap_new w _
 have hb0:Below w.heap.size w W0:=by rw[<-hW0];exact(Below.refl _ w).alloc (ar _) _
 rw[hW0];obtain⟨W1,ZU⟩:∃W1,(W0.alloc (.deferred (some []))).alloc (.loop (apRec fn (.func (.func g) #[] lb) w.heap.size W0.heap.size .ready none))=W1:=⟨_,rfl⟩;have hold:∀k,k<W0.heap.size->W1.heap[k]?=W0.heap[k]?:=fun k hk=>by
  rw[<-ZU];exact(Below.heap_alloc _ _ k (by simp;omega)).trans (Below.heap_alloc _ _ k hk)
 have hb1:Below w.heap.size w W1:=by rw[<-ZU];exact(hb0.alloc hb0.size _).alloc (by have:=hb0.size;simp;omega) _
 have hs1:W1.heap.size=W0.heap.size+2:=by rw[<-ZU];simp
 have hM:ApAt w fn (.func (.func g) #[] lb) w.heap.size (W0.heap.size+1) W0.heap.size [] W1:=
  ⟨⟨_,(hold w.heap.size (by omega)).trans hv0,⟨rfl,.inl ⟨rfl,rfl⟩⟩,by simp⟩,
   by rw[<-ZU];have:=World.alloc_heap_new (W0.alloc (.deferred (some []))) (.loop (apRec fn (.func (.func g) #[] lb) w.heap.size W0.heap.size .ready none));rwa [World.size_alloc]at this,
   by rw[<-ZU];exact(Below.heap_alloc _ _ _ (by simp)).trans (World.alloc_heap_new W0 _),hb1⟩
 refine⟨W0.heap.size+1,[{target:=.collected W0.heap.size,args := #[]}],W1,{target:=.fn (.func g) lb,args := #[.func (.yield (W0.heap.size+1)) #[] #[]]},W1,g,
  #[.func (.yield (W0.heap.size+1)) #[] #[]]++lb,W1,?_,?_,?_,?_,fun _=>h1,?_⟩
 .rw[<-ZU];exact run_enterLoop_outer _ _ _ _ _
 .simp[resolve,go_sem]
 .intro f' hf';trivial
 .simp[invoke,go_sem,eg]
 .refine(Yd (W0.heap.size+1) (ApAt w fn (.func (.func g) #[] lb) w.heap.size (W0.heap.size+1) W0.heap.size) W1 hb1 (ap_abides _ _ _ _ _ _ _ hb1.size)
   (fun pre x W hJ hl=>apYield (n-1-1) w fn _ w.heap.size (W0.heap.size+1) W0.heap.size (by omega) (by omega) (by omega) (ar _) (by omega) N hN hNb pre x W hJ hl) hM).mono ?_
  rintro e W2 ⟨⟨v0,rfl⟩,ss,hS,h2⟩;obtain⟨v,hv,x9,Ye⟩:=h2.box;have aaq:=run_endLoop (P:=prog) h2.L (by simp[apRec])
  obtain⟨W3,hW3⟩:∃W3,W2.putObj (W0.heap.size+1) (.loop {apRec fn (.func (.func g) #[] lb) w.heap.size W0.heap.size .ready none with state:=.exhausted})=W3:=⟨_,rfl⟩;rw[hW3]at aaq;have hg3:W2.grownBy W3 (some (W0.heap.size+1)):=by rw[<-hW3];exact grownBy_putObj_a _ _ _
  have hv3:W3.heap[w.heap.size]?=some (.cells #[v] 60 (0,0)):=by rw[<-hW3];exact(World.putObj_heap_other (by omega)).trans hv
  have hK3:W3.heap[W0.heap.size]?=some (.deferred (some [])):=by rw[<-hW3];exact(World.putObj_heap_other (by omega)).trans h2.K
  have Wk:=x9.kept hg3 (ownsRow_ne_a x9 h2.L (fun cur e=>by first|cases e|exact UG (Obj.cells.inj e).2.1))
  have hb3:Below w.heap.size w W3:=h2.below.grown hg3 h2.below.size (fun k e=>by cases e;omega)
  obtain⟨hc3,hf3⟩:=cell_of_box_a hv3;clear hW3;refine⟨none,W3,aaq,?_⟩;gi_wp2
  rw[<-hs0];refine⟨by simp,.inl ⟨_,_,rfl,run_takeDeferred hK3,?_⟩⟩
  exact⟨_,results_tmp rfl _ _ _,v,ss,rfl,hS,Wk.kept (grownBy_putObj_a _ _ _) (ownsRow_ne_a Wk hK3 (fun cur e=>by first|cases e|exact UG (Obj.cells.inj e).2.1)),Ye,hb3.grown (grownBy_putObj_a _ _ _) hb3.size (fun k e=>by cases e;omega)⟩
set_option maxHeartbeats 1000000 in
theorem Kk(n:Nat)(hn:3<=n)(g:Nat)(lb:Array Value)(eg:∀args w,(callFunc g args).run prog w = .ok (.enter g args) w)
  (S:List Int->Prop)(N:Nat)(hN:N<=maxLen)(hNb:N*4<=140737488355328)(w:World)(Yd:SeqGives FW (n-1-1) prog g lb kz S N w):
  CallsIn FW n prog 163 #[.func (.func g) #[] lb] w fun e w'=>∃(v:Value)(ss:List Int),e = .returned v/\S ss/\w'.ownsRow w.heap.size 29 1 v ss.length (ss.map kz)/\(v = .slice none 0 0<->ss=[])/\Below w.heap.size w w':=by
 have h1:1<=n:=by omega
 have e11:∀args w,(callFunc 231 args).run prog w = .ok (.enter 231 args) w:=enters_of func231 rfl rfl;have mixed:=mixed;have t0:=underlying0;have a0:=isAgg0;have z0:=sizeOf0;have v0:=zeroValue0;have t24:=underlying60;have a24:=isAgg60;have z24:=sizeOf60;have v24:=zeroValue60;have t26:=underlying29;have a26:=isAgg29;have z26:=sizeOf29;have v26:=zeroValue29;have t28:=underlying219;have a28:=isAgg219;have z28:=sizeOf219;have v28:=zeroValue219;have u0:=run_underlying t0;have u24:=run_underlying t24;have u26:=run_underlying t26;have u28:=run_underlying t28;refine callsIn_of_wp func163 rfl trivial ?_ rfl;simp only[show f163.ntmps=5 from rfl,sy,aD,cS,Nat.reduceAdd,Nat.reduceSub,yl,yk,uy,ye,dP,dt]
 gi_wp2
 refine⟨trivial,(EI (n-1) (by omega) g lb eg S N hN hNb _ Yd).mono ?_⟩
 rintro e w' ⟨v,ss,rfl,hS,x9,Ye,hb⟩;gi_wp2
 go_ret
 exact⟨v,ss,rfl,hS,x9,Ye,hb⟩
end
def jk(a:By):By->Int
 |[]=>bif a.isEmpty then 0 else -1
 |c::t=>bif a.isPrefixOf (c::t)then 0 else(let i:=jk a t;bif decide (i<0)then -1 else i+1)
def indexB(c:Int):By->Int
 |[]=> -1
 |d::t=>bif(d.toNat:Int)==c then 0 else(let i:=indexB c t;bif decide (i<0)then -1 else i+1)
def countB(c:UInt8)(s:By):Nat:=(s.filter (· == c)).length
def jW(c:UInt8):By->Int
 |[]=> -1
 |d::t=>let i:=jW c t;bif decide (i>=0)then i+1 else bif d==c then 0 else -1
def splitB(c:UInt8):By->List By
 |[]=>[[]]
 |d::t=>bif d==c then[]::splitB c t else match splitB c t with
  |x::l=>(d::x)::l
  |[]=>[[d]]
def lW(c:UInt8):List By->By
 |[]=>[]
 |[x]=>x
 |x::l=>x++c::lW c l
def ic(l:List By):Nat:=(l.map (·.length)).sum
def jC(s:By):List By:=(splitB 32 s).filter (· != [])
def nR(n:Int):List Int->List Int
 |[]=>[n]
 |m::l=>bif decide (n<=m)then n::m::l else m::nR n l
def gx:List Int->List Int
 |[]=>[]
 |n::l=>nR n (gx l)
end Go.Ac.S4
end
section
namespace Go.Proofs
def Tryz.UJ:Go.Shelf.Ren:=⟨fun|99=>243|206=>312|n=>n,fun|9=>9|4=>4|3=>3|n=>n,fun|n=>n⟩
def Tryz.l99:Go.Proofs.Lays.n99 prog Tryz.UJ:={
 mixed:=by kernel_rfl
 f99:=Tryz.func243.trans (congrArg some (by kernel_rfl))
 f206:=Tryz.func312.trans (congrArg some (by kernel_rfl))
 t3:=underlying3
 a3:=isAgg3
 z3:=sizeOf3
 v3:=zeroValue3
 t4:=underlying4
 a4:=isAgg4
 z4:=sizeOf4
 v4:=zeroValue4
 t9:=underlying9
 a9:=isAgg9
 z9:=sizeOf9
 v9:=zeroValue9}
def Tryz.Qn:Go.Shelf.Ren:=⟨fun|103=>313|210=>351|206=>312|n=>n,fun|9=>9|4=>4|24=>193|3=>3|n=>n,fun|n=>n⟩
def Tryz.adH:Go.Proofs.Lays.n103 prog Tryz.Qn:={
 mixed:=by kernel_rfl
 f103:=Tryz.func313.trans (congrArg some (by kernel_rfl))
 f206:=Tryz.func312.trans (congrArg some (by kernel_rfl))
 f210:=Tryz.func351.trans (congrArg some (by kernel_rfl))
 t3:=underlying3
 a3:=isAgg3
 z3:=sizeOf3
 v3:=zeroValue3
 t4:=underlying4
 a4:=isAgg4
 z4:=sizeOf4
 v4:=zeroValue4
 t9:=underlying9
 a9:=isAgg9
 z9:=sizeOf9
 v9:=zeroValue9
 t24:=underlying193
 a24:=isAgg193
 z24:=sizeOf193
 v24:=zeroValue193}
def Tryz.Qo:Go.Shelf.Ren:=⟨fun|137=>318|217=>324|266=>354|n=>n,fun|9=>9|5=>5|3=>3|n=>n,fun|n=>n⟩
def Tryz.adI:Go.Proofs.Lays.n137 prog Tryz.Qo:={
 mixed:=by kernel_rfl
 f137:=Tryz.func318.trans (congrArg some (by kernel_rfl))
 f217:=Tryz.func324.trans (congrArg some (by kernel_rfl))
 f266:=Tryz.func354.trans (congrArg some (by kernel_rfl))
 t3:=underlying3
 a3:=isAgg3
 z3:=sizeOf3
 v3:=zeroValue3
 t5:=underlying5
 a5:=isAgg5
 z5:=sizeOf5
 v5:=zeroValue5
 t9:=underlying9
 a9:=isAgg9
 z9:=sizeOf9
 v9:=zeroValue9}
def Tryz.Qp:Go.Shelf.Ren:=⟨fun|138=>140|195=>195|218=>196|143=>197|219=>264|217=>324|225=>325|224=>326|267=>327|266=>354|314=>355|n=>n,fun|9=>9|3=>3|4=>4|5=>5|0=>0|46=>61|146=>375|51=>29|n=>n,fun|1=>0|n=>n⟩
def Tryz.adJ:Go.Proofs.Lays.n138 prog Tryz.Qp:={
 mixed:=by kernel_rfl
 f138:=Tryz.func140.trans (congrArg some (by kernel_rfl))
 f143:=Tryz.func197.trans (congrArg some (by kernel_rfl))
 f195:=Tryz.func195.trans (congrArg some (by kernel_rfl))
 f217:=Tryz.func324.trans (congrArg some (by kernel_rfl))
 f218:=Tryz.func196.trans (congrArg some (by kernel_rfl))
 f219:=Tryz.func264.trans (congrArg some (by kernel_rfl))
 f224:=Tryz.func326.trans (congrArg some (by kernel_rfl))
 f225:=Tryz.func325.trans (congrArg some (by kernel_rfl))
 f266:=Tryz.func354.trans (congrArg some (by kernel_rfl))
 f267:=Tryz.func327.trans (congrArg some (by kernel_rfl))
 f314:=Tryz.func355.trans (congrArg some (by kernel_rfl))
 t0:=underlying0
 a0:=isAgg0
 z0:=sizeOf0
 v0:=zeroValue0
 t3:=underlying3
 a3:=isAgg3
 z3:=sizeOf3
 v3:=zeroValue3
 t4:=underlying4
 a4:=isAgg4
 z4:=sizeOf4
 v4:=zeroValue4
 t5:=underlying5
 a5:=isAgg5
 z5:=sizeOf5
 v5:=zeroValue5
 t9:=underlying9
 a9:=isAgg9
 z9:=sizeOf9
 v9:=zeroValue9
 t46:=underlying61
 a46:=isAgg61
 z46:=sizeOf61
 v46:=zeroValue61
 t51:=underlying29
 a51:=isAgg29
 z51:=sizeOf29
 v51:=zeroValue29
 t146:=underlying375
 a146:=isAgg375
 z146:=sizeOf375
 v146:=zeroValue375
 g1:=by kernel_rfl}
def Tryz.Qq:Go.Shelf.Ren:=⟨fun|148=>141|222=>198|223=>199|269=>265|n=>n,fun|9=>9|3=>3|4=>4|5=>5|146=>375|51=>29|46=>61|n=>n,fun|n=>n⟩
def Tryz.adK:Go.Proofs.Lays.n148 prog Tryz.Qq:={
 mixed:=by kernel_rfl
 f148:=Tryz.func141.trans (congrArg some (by kernel_rfl))
 f222:=Tryz.func198.trans (congrArg some (by kernel_rfl))
 f223:=Tryz.func199.trans (congrArg some (by kernel_rfl))
 f269:=Tryz.func265.trans (congrArg some (by kernel_rfl))
 t3:=underlying3
 a3:=isAgg3
 z3:=sizeOf3
 v3:=zeroValue3
 t4:=underlying4
 a4:=isAgg4
 z4:=sizeOf4
 v4:=zeroValue4
 t5:=underlying5
 a5:=isAgg5
 z5:=sizeOf5
 v5:=zeroValue5
 t9:=underlying9
 a9:=isAgg9
 z9:=sizeOf9
 v9:=zeroValue9
 t46:=underlying61
 a46:=isAgg61
 z46:=sizeOf61
 v46:=zeroValue61
 t51:=underlying29
 a51:=isAgg29
 z51:=sizeOf29
 v51:=zeroValue29
 t146:=underlying375
 a146:=isAgg375
 z146:=sizeOf375
 v146:=zeroValue375}
def Tryz.Qr:Go.Shelf.Ren:=⟨fun|143=>197|219=>264|217=>324|225=>325|224=>326|267=>327|266=>354|314=>355|n=>n,fun|9=>9|3=>3|4=>4|5=>5|46=>61|146=>375|51=>29|n=>n,fun|1=>0|n=>n⟩
def Tryz.adL:Go.Proofs.Lays.n143 prog Tryz.Qr:={
 mixed:=by kernel_rfl
 f143:=Tryz.func197.trans (congrArg some (by kernel_rfl))
 f217:=Tryz.func324.trans (congrArg some (by kernel_rfl))
 f219:=Tryz.func264.trans (congrArg some (by kernel_rfl))
 f224:=Tryz.func326.trans (congrArg some (by kernel_rfl))
 f225:=Tryz.func325.trans (congrArg some (by kernel_rfl))
 f266:=Tryz.func354.trans (congrArg some (by kernel_rfl))
 f267:=Tryz.func327.trans (congrArg some (by kernel_rfl))
 f314:=Tryz.func355.trans (congrArg some (by kernel_rfl))
 t3:=underlying3
 a3:=isAgg3
 z3:=sizeOf3
 v3:=zeroValue3
 t4:=underlying4
 a4:=isAgg4
 z4:=sizeOf4
 v4:=zeroValue4
 t5:=underlying5
 a5:=isAgg5
 z5:=sizeOf5
 v5:=zeroValue5
 t9:=underlying9
 a9:=isAgg9
 z9:=sizeOf9
 v9:=zeroValue9
 t46:=underlying61
 a46:=isAgg61
 z46:=sizeOf61
 v46:=zeroValue61
 t51:=underlying29
 a51:=isAgg29
 z51:=sizeOf29
 v51:=zeroValue29
 t146:=underlying375
 a146:=isAgg375
 z146:=sizeOf375
 v146:=zeroValue375
 g1:=by kernel_rfl}
def Tryz.Qt:Go.Shelf.Ren:=⟨fun|264=>315|n=>n,fun|53=>30|46=>61|n=>n,fun|n=>n⟩
def Tryz.adM:Go.Proofs.Lays.n264 prog Tryz.Qt:={
 mixed:=by kernel_rfl
 f264:=Tryz.func315.trans (congrArg some (by kernel_rfl))
 t46:=underlying61
 a46:=isAgg61
 z46:=sizeOf61
 v46:=zeroValue61
 t53:=underlying30
 a53:=isAgg30
 z53:=sizeOf30
 v53:=zeroValue30}
def Tryz.Qu:Go.Shelf.Ren:=⟨fun|25=>316|n=>n,fun|22=>30|n=>n,fun|n=>n⟩
def Tryz.adN:Go.Proofs.Lays7.n25 prog Tryz.Qu:={
 mixed:=by kernel_rfl
 f25:=Tryz.func316.trans (congrArg some (by kernel_rfl))
 t22:=underlying30
 a22:=isAgg30
 z22:=sizeOf30
 v22:=zeroValue30
 i22:=by kernel_rfl}
end Go.Proofs
namespace Go.Ac.S4
open Go Go.Proofs Go.Proofs.Tryz Go.Ac
open Go.IntKind (wrap)
open Int (toNat tdiv tmod fdiv)
open List (drop take replicate)
set_option maxRecDepth 100000
def Yf(s p:By):ak 243 [vS s,vS p] [] [vB (p.isPrefixOf s)] []:=by
 refine Yb (r:=[B (p.isPrefixOf s)]) (enters_of func243 rfl rfl) fun v u w d c a b=>?_
 rw[mf a,mf b];exact⟨[.bool (p.isPrefixOf s)],rfl,sM (.bool _),Any.strings_HasPrefix Tryz.l99 ⟨s.toArray⟩ ⟨p.toArray⟩ w⟩
def adO(s p:By):ak 313 [vS s,vS p] [] [vS (bif p.isPrefixOf s then s.drop p.length else s),vB (p.isPrefixOf s)] []:=by
 refine Yb (r:=[S (bif p.isPrefixOf s then s.drop p.length else s),B (p.isPrefixOf s)]) (enters_of func313 rfl rfl) fun v u w f d a b=>?_
 rw[mf a,mf b];have e:Lib.trimPrefix s p=bif p.isPrefixOf s then s.drop p.length else s:=by
  unfold Lib.trimPrefix Lib.hasPrefix;cases p.isPrefixOf s<;>rfl
 have c:=Any.strings_CutPrefix Tryz.adH ⟨s.toArray⟩ ⟨p.toArray⟩ w;simp only[e]at c;exact⟨[.string ⟨(bif p.isPrefixOf s then s.drop p.length else s).toArray⟩,.bool (p.isPrefixOf s)],rfl,L3 (Ki _) (.bool _),c⟩
def zD(c:UInt8):∀s:By,indexB c.toNat s=Lib.indexByte s c
 |[]=>rfl
 |d::t=>by
  have a:=zD c t;have b:=Lib.indexByte_ge t c;unfold indexB Lib.indexByte;rw[a];cases h:d==c
  .have:((d.toNat:Int)==c.toNat)=false:=by
    rw[gk]at h⊢;intro e;exact h (UInt8.toNat_inj.1 (by omega))
   rw[this];cases h2:Lib.indexByte t c == -1
   .rw[gk]at h2
    simp[show¬Lib.indexByte t c<0 by omega]
   .have:=bZ h2
    simp[this]
  .have:=bZ h
   subst this;simp
def adP(s:By)(c:UInt8)(e:s.length<=2^40):ak 318 [vS s,vY c.toNat] [] [vN (indexB c.toNat s)] []:=by
 refine Yb (r:=[N (indexB c.toNat s)]) (enters_of func318 rfl rfl) fun v u w f d a b=>?_
 rw[mf a,wC b];have k:=Any.strings_IndexByte Tryz.adI ⟨s.toArray⟩ c.toNat w;rw[show(toNat (c.toNat:Int)).toUInt8=c by simp]at k
 refine⟨[.int .i64 (indexB c.toNat s)],rfl,sM (.int _ _),?_⟩;rw[zD];exact k
def adQ(s:By)(c:UInt8)(f:s.length<=2^40):ak 140 [vS s,vS [c]] [] [vN (countB c s)] []:=by
 refine Yb (r:=[N (countB c s)]) (enters_of func140 rfl rfl) fun v u w g d a b=>?_
 rw[mf a,mf b];refine⟨[.int .i64 (countB c s)],rfl,sM (.int _ _),?_⟩;have e:countB c s=Lib.countByte s c:=by unfold countB Lib.countByte;rw[List.count,List.countP_eq_length_filter]
 rw[e];exact Any.strings_Count_one Tryz.adJ ⟨s.toArray⟩ c w
def Ov(c:UInt8)(s:By):jW c s=Lib.lastIndexByte ⟨s.toArray⟩ c.toNat:=by
 have ge:∀s:By,-1<=jW c s:=by
  intro s;induction s with
  |nil=>exact eA _
  |cons d t a=>
   unfold jW;simp only;cases hd:decide (jW c t>=0)
   .cases d==c<;>simp
   .simp;omega
 have snoc:∀(s:By)(d:UInt8),jW c (s++[d])=bif d==c then(s.length:Int)else jW c s:=by
  intro s d;induction s with
  |nil=>cases hd:d==c<;>simp[jW,hd]
  |cons x t a=>
   have:=ge t;rw[dt];unfold jW;rw[a];cases hd:d==c
   .rfl
   .simp
 have key:∀k,k<=s.length->jW c (s.take k)=Lib.lastIdx ⟨s.toArray⟩ c.toNat k:=by
  intro k;induction k with
  |zero=>intro _;rfl
  |succ k a=>
   intro g;have a:=a (by omega)
   have f:s.take (k+1)=s.take k++[s[k]'(by omega)]:=by rw[List.take_succ_eq_append_getElem]
   rw[f,snoc,a];rw[show Lib.lastIdx ⟨s.toArray⟩ c.toNat (k+1)=if(((⟨s.toArray⟩:ByteArray).data[k]!).toNat:Int)=c.toNat then(k:Int)else Lib.lastIdx ⟨s.toArray⟩ c.toNat k from rfl]
   have:(⟨s.toArray⟩:ByteArray).data[k]! = s[k]'(by omega):=by simp[show k<s.length by omega]
   rw[this];have b:(s.take k).length=k:=by simp;omega
   rw[b];cases hd:s[k]'(by omega)==c
   .rw[gk]at hd
    rw[aN (fun e=>hd (UInt8.toNat_inj.1 (by omega)))]
    rfl
   .rw[bZ hd,aG rfl];rfl
 have:=key s.length (ar _);rw[List.take_length]at this;exact this
def aas(s:By)(c:UInt8)(e:s.length<=2^40):ak 141 [vS s,vS [c]] [] [vN (jW c s)] []:=by
 refine Yb (r:=[N (jW c s)]) (enters_of func141 rfl rfl) fun v u w f d a b=>?_
 rw[mf a,mf b];refine⟨[.int .i64 (jW c s)],rfl,sM (.int _ _),?_⟩;rw[Ov];exact Any.strings_LastIndex_one Tryz.adK ⟨s.toArray⟩ ⟨#[c]⟩ rfl (by show s.toArray.size<_;simp;omega) w
def zE(p:By)(a:p≠[]):∀s:By,jk p s=Lib.index s p
 |[]=>by
  unfold jk Lib.index;cases p with
  |nil=>exact(a rfl).elim
  |cons x t=>rfl
 |d::t=>by
  have b:=zE p a t;have c:=Lib.index_ge t p;unfold jk Lib.index;rw[b];cases h:p.isPrefixOf (d::t)
  .cases h2:Lib.index t p == -1
   .rw[gk]at h2
    simp[show¬Lib.index t p<0 by omega]
   .have:=bZ h2
    simp[this]
  .rfl
def adR(s p:By)(g:s.length<=2^31)(a:2<=p.length/\p.length<=8):ak 197 [vS s,vS p] [] [vN (jk p s)] []:=by
 refine Yb (r:=[N (jk p s)]) (enters_of func197 rfl rfl) fun v u w i d b c=>?_
 rw[mf b,mf c];obtain⟨m,f,-⟩:=d.num;refine⟨[.int .i64 (jk p s)],rfl,sM (.int _ _),?_⟩;rw[zE p (by intro e;rw[e]at a;simp at a)]
 exact Any.strings_Index Tryz.adL ⟨s.toArray⟩ ⟨p.toArray⟩ m w (by show s.toArray.size<_;simp;omega) f
def adS(x y:Int)(g:0<=x/\x<18446744073709551616)(i:0<=y/\y<18446744073709551616):ak 315 [vU x,vU y] [] [vU (x*y/18446744073709551616),vU (x*y%18446744073709551616)] []:=by
 refine Yb (r:=[U (x*y/18446744073709551616),U (x*y%18446744073709551616)]) (enters_of func315 rfl rfl) fun v u w l j c d=>?_
 rw[wC c,wC d];obtain⟨a,rfl⟩:=iT g.1;obtain⟨b,rfl⟩:=iT i.1;have k:=Any.bits_Mul64 Tryz.adM a b (by omega) (by omega) w
 generalize c:a*b/18446744073709551616=q at k;generalize d:a*b%18446744073709551616=r at k;refine⟨[.int .u64 (q:Int),.int .u64 (r:Int)],rfl,?_,k⟩;rw[<-c,<-d];have e:((a*b/18446744073709551616:Nat):Int)=(a:Int)*b/18446744073709551616:=by simp
 have f:((a*b%18446744073709551616:Nat):Int)=(a:Int)*b%18446744073709551616:=by simp
 rw[e,f];exact L3 (.int _ _) (.int _ _)
def adT(x y:Int)(o:0<=x/\x<18446744073709551616)(p:0<=y/\y<18446744073709551616):ak 316 [vU x,vU y,vU 0] [] [vU ((x+y)%18446744073709551616),vU ((x+y)/18446744073709551616)] []:=by
 constructor
 intro w f O s n d;obtain⟨v,u,z,rfl,g,i,j⟩:=aai d;rw[L2 g,L2 i,L2 j];obtain⟨a,rfl⟩:=iT o.1;obtain⟨b,rfl⟩:=iT p.1;have k:∀c:Nat,c<=1->(callFunc 316 #[.int .u64 (a:Int),.int .u64 (b:Int),.int .u64 (c:Int)]).run prog w = .ok (.value (.tuple #[.int .u64 (((a+b+c)%18446744073709551616:Nat):Int),.int .u64 (((a+b+c)/18446744073709551616:Nat):Int)])) w:=fun c m=>Any7.bits_Add64 Tryz.adN a b c m w
 obtain⟨q,e⟩:∃q,((a:Int)+b)%18446744073709551616=q:=⟨_,rfl⟩;obtain⟨r,d⟩:∃r,((a:Int)+b)/18446744073709551616=r:=⟨_,rfl⟩;have k:=k 0 (dV 1);rw[show(((a+b+0)%18446744073709551616:Nat):Int)=q by rw[<-e];simp,show(((a+b+0)/18446744073709551616:Nat):Int)=r by rw[<-d];simp]at k
 rw[e,d];rw[show((0:Nat):Int)=0 from rfl]at k
 unfold dH;rw[k];exact⟨f,[.int .u64 q,.int .u64 r],n,Qm (.v (.int _ _)) (.v (.int _ _)),rfl,fun b l=>⟨l,rfl⟩⟩
end Go.Ac.S4
end
section
namespace Go.Proofs
def Tryz.Qv:Go.Shelf.Ren:=⟨fun|146=>131|221=>183|268=>256|138=>140|143=>197|195=>195|197=>319|218=>196|219=>264|260=>352|217=>324|225=>325|224=>326|267=>327|266=>354|314=>355|n=>n,fun|9=>9|31=>24|3=>3|4=>4|0=>0|105=>426|21=>21|5=>5|46=>61|119=>433|139=>464|138=>463|146=>375|51=>29|n=>n,fun|1=>0|3=>3|4=>4|n=>n⟩
def Tryz.adU:Go.Proofs.Lays.n146 prog Tryz.Qv:={
 mixed:=by kernel_rfl
 f138:=Tryz.func140.trans (congrArg some (by kernel_rfl))
 f143:=Tryz.func197.trans (congrArg some (by kernel_rfl))
 f146:=Tryz.func131.trans (congrArg some (by kernel_rfl))
 f195:=Tryz.func195.trans (congrArg some (by kernel_rfl))
 f197:=Tryz.func319.trans (congrArg some (by kernel_rfl))
 f217:=Tryz.func324.trans (congrArg some (by kernel_rfl))
 f218:=Tryz.func196.trans (congrArg some (by kernel_rfl))
 f219:=Tryz.func264.trans (congrArg some (by kernel_rfl))
 f221:=Tryz.func183.trans (congrArg some (by kernel_rfl))
 f224:=Tryz.func326.trans (congrArg some (by kernel_rfl))
 f225:=Tryz.func325.trans (congrArg some (by kernel_rfl))
 f260:=Tryz.func352.trans (congrArg some (by kernel_rfl))
 f266:=Tryz.func354.trans (congrArg some (by kernel_rfl))
 f267:=Tryz.func327.trans (congrArg some (by kernel_rfl))
 f268:=Tryz.func256.trans (congrArg some (by kernel_rfl))
 f314:=Tryz.func355.trans (congrArg some (by kernel_rfl))
 t0:=underlying0
 a0:=isAgg0
 z0:=sizeOf0
 v0:=zeroValue0
 t3:=underlying3
 a3:=isAgg3
 z3:=sizeOf3
 v3:=zeroValue3
 t4:=underlying4
 a4:=isAgg4
 z4:=sizeOf4
 v4:=zeroValue4
 t5:=underlying5
 a5:=isAgg5
 z5:=sizeOf5
 v5:=zeroValue5
 t9:=underlying9
 a9:=isAgg9
 z9:=sizeOf9
 v9:=zeroValue9
 t21:=underlying21
 a21:=isAgg21
 z21:=sizeOf21
 v21:=zeroValue21
 t31:=underlying24
 a31:=isAgg24
 z31:=sizeOf24
 v31:=zeroValue24
 t46:=underlying61
 a46:=isAgg61
 z46:=sizeOf61
 v46:=zeroValue61
 t51:=underlying29
 a51:=isAgg29
 z51:=sizeOf29
 v51:=zeroValue29
 t105:=underlying426
 a105:=isAgg426
 z105:=sizeOf426
 v105:=zeroValue426
 t119:=underlying433
 a119:=isAgg433
 z119:=sizeOf433
 t138:=underlying463
 a138:=isAgg463
 z138:=sizeOf463
 v138:=zeroValue463
 t139:=underlying464
 a139:=isAgg464
 z139:=sizeOf464
 v139:=zeroValue464
 t146:=underlying375
 a146:=isAgg375
 z146:=sizeOf375
 v146:=zeroValue375
 g1:=by kernel_rfl
 g3:=by kernel_rfl
 g4:=by kernel_rfl}
def Tryz.Qw:Go.Shelf.Ren:=⟨fun|157=>279|229=>332|199=>333|261=>357|311=>362|312=>363|n=>n,fun|9=>9|31=>24|3=>3|5=>5|4=>4|119=>433|0=>0|40=>435|152=>452|21=>21|154=>454|51=>29|141=>456|196=>468|193=>465|198=>471|49=>469|194=>466|201=>474|226=>477|46=>61|227=>478|n=>n,fun|0=>1|6=>2|n=>n⟩
def Tryz.adV:Go.Proofs.Lays.n157 prog Tryz.Qw:={
 mixed:=by kernel_rfl
 f157:=Tryz.func279.trans (congrArg some (by kernel_rfl))
 f199:=Tryz.func333.trans (congrArg some (by kernel_rfl))
 f229:=Tryz.func332.trans (congrArg some (by kernel_rfl))
 f261:=Tryz.func357.trans (congrArg some (by kernel_rfl))
 f311:=Tryz.func362.trans (congrArg some (by kernel_rfl))
 f312:=Tryz.func363.trans (congrArg some (by kernel_rfl))
 t0:=underlying0
 a0:=isAgg0
 z0:=sizeOf0
 v0:=zeroValue0
 t3:=underlying3
 a3:=isAgg3
 z3:=sizeOf3
 v3:=zeroValue3
 t4:=underlying4
 a4:=isAgg4
 z4:=sizeOf4
 v4:=zeroValue4
 t5:=underlying5
 a5:=isAgg5
 z5:=sizeOf5
 v5:=zeroValue5
 t9:=underlying9
 a9:=isAgg9
 z9:=sizeOf9
 v9:=zeroValue9
 t21:=underlying21
 a21:=isAgg21
 z21:=sizeOf21
 v21:=zeroValue21
 t31:=underlying24
 a31:=isAgg24
 z31:=sizeOf24
 v31:=zeroValue24
 t40:=underlying435
 a40:=isAgg435
 z40:=sizeOf435
 v40:=zeroValue435
 t46:=underlying61
 a46:=isAgg61
 z46:=sizeOf61
 v46:=zeroValue61
 t49:=underlying469
 a49:=isAgg469
 z49:=sizeOf469
 v49:=zeroValue469
 t51:=underlying29
 a51:=isAgg29
 z51:=sizeOf29
 v51:=zeroValue29
 t119:=underlying433
 a119:=isAgg433
 z119:=sizeOf433
 t141:=underlying456
 a141:=isAgg456
 z141:=sizeOf456
 v141:=zeroValue456
 t152:=underlying452
 a152:=isAgg452
 z152:=sizeOf452
 v152:=zeroValue452
 t154:=underlying454
 a154:=isAgg454
 z154:=sizeOf454
 v154:=zeroValue454
 t193:=underlying465
 a193:=isAgg465
 z193:=sizeOf465
 v193:=zeroValue465
 t194:=underlying466
 a194:=isAgg466
 z194:=sizeOf466
 v194:=zeroValue466
 t196:=underlying468
 a196:=isAgg468
 z196:=sizeOf468
 v196:=zeroValue468
 t198:=underlying471
 a198:=isAgg471
 z198:=sizeOf471
 v198:=zeroValue471
 t201:=underlying474
 a201:=isAgg474
 z201:=sizeOf474
 v201:=zeroValue474
 t226:=underlying477
 a226:=isAgg477
 z226:=sizeOf477
 v226:=zeroValue477
 t227:=underlying478
 a227:=isAgg478
 z227:=sizeOf478
 v227:=zeroValue478
 g0:=by kernel_rfl
 g6:=by kernel_rfl}
def Tryz.Hh:Go.Shelf.Ren:=⟨fun|156=>132|165=>184|166=>185|169=>186|240=>257|241=>258|276=>320|277=>321|n=>n,fun|31=>24|9=>9|3=>3|4=>4|0=>0|20=>20|72=>320|76=>323|70=>318|37=>42|75=>322|127=>373|164=>428|5=>5|80=>252|n=>n,fun|n=>n⟩
def Tryz.aat:Go.Proofs.Lays.n156 prog Tryz.Hh:={
 mixed:=by kernel_rfl
 f156:=Tryz.func132.trans (congrArg some (by kernel_rfl))
 f165:=Tryz.func184.trans (congrArg some (by kernel_rfl))
 f166:=Tryz.func185.trans (congrArg some (by kernel_rfl))
 f169:=Tryz.func186.trans (congrArg some (by kernel_rfl))
 f240:=Tryz.func257.trans (congrArg some (by kernel_rfl))
 f241:=Tryz.func258.trans (congrArg some (by kernel_rfl))
 f276:=Tryz.func320.trans (congrArg some (by kernel_rfl))
 f277:=Tryz.func321.trans (congrArg some (by kernel_rfl))
 t0:=underlying0
 a0:=isAgg0
 z0:=sizeOf0
 v0:=zeroValue0
 t3:=underlying3
 a3:=isAgg3
 z3:=sizeOf3
 v3:=zeroValue3
 t4:=underlying4
 a4:=isAgg4
 z4:=sizeOf4
 v4:=zeroValue4
 t9:=underlying9
 a9:=isAgg9
 z9:=sizeOf9
 v9:=zeroValue9
 t20:=underlying20
 a20:=isAgg20
 z20:=sizeOf20
 v20:=zeroValue20
 t31:=underlying24
 a31:=isAgg24
 z31:=sizeOf24
 v31:=zeroValue24
 t37:=underlying42
 a37:=isAgg42
 z37:=sizeOf42
 v37:=zeroValue42
 t70:=underlying318
 a70:=isAgg318
 z70:=sizeOf318
 v70:=zeroValue318
 t72:=underlying320
 a72:=isAgg320
 z72:=sizeOf320
 v72:=zeroValue320
 t75:=underlying322
 a75:=isAgg322
 z75:=sizeOf322
 v75:=zeroValue322
 t76:=underlying323
 a76:=isAgg323
 z76:=sizeOf323
 v76:=zeroValue323
 t127:=underlying373
 a127:=isAgg373
 z127:=sizeOf373
 v127:=zeroValue373
 t164:=underlying428
 a164:=isAgg428
 z164:=sizeOf428
 v164:=zeroValue428}
def Tryz.Qx:Go.Shelf.Ren:=⟨fun|41=>239|n=>n,fun|22=>350|23=>348|4=>4|n=>n,fun|n=>n⟩
def Tryz.adW:Go.Proofs.SlLaysE0.n41 prog Tryz.Qx:={
 mixed:=by kernel_rfl
 f41:=⟨"slices.Clone[[]tipstaff/api.Half,tipstaff/api.Half]",by decide,Tryz.func239.trans (congrArg some (by kernel_rfl))⟩
 t4:=underlying4
 a4:=isAgg4
 z4:=sizeOf4
 v4:=zeroValue4
 t22:=underlying350
 a22:=isAgg350
 z22:=sizeOf350
 v22:=zeroValue350}
def Tryz.Ow:Go.Shelf.Ren:=⟨fun|41=>217|n=>n,fun|22=>24|23=>9|4=>4|n=>n,fun|n=>n⟩
def Tryz.aau:Go.Proofs.SlLaysE0.n41 prog Tryz.Ow:={
 mixed:=by kernel_rfl
 f41:=⟨"slices.Clone[[]string,string]",by decide,Tryz.func217.trans (congrArg some (by kernel_rfl))⟩
 t4:=underlying4
 a4:=isAgg4
 z4:=sizeOf4
 v4:=zeroValue4
 t22:=underlying24
 a22:=isAgg24
 z22:=sizeOf24
 v22:=zeroValue24}
def Tryz.UK:Go.Shelf.Ren:=⟨fun|4=>341|n=>n,fun|22=>350|25=>348|3=>3|4=>4|9=>9|20=>20|0=>0|n=>n,fun|n=>n⟩
def Tryz.lG5:Go.Proofs.Lays8.n4 prog Tryz.UK:={
 mixed:=by kernel_rfl
 f4:=⟨"slices.Grow[[]tipstaff/api.Half,tipstaff/api.Half]",by decide,Tryz.func341.trans (congrArg some (by kernel_rfl))⟩
 t0:=underlying0
 a0:=isAgg0
 z0:=sizeOf0
 v0:=zeroValue0
 t3:=underlying3
 a3:=isAgg3
 z3:=sizeOf3
 v3:=zeroValue3
 t4:=underlying4
 a4:=isAgg4
 z4:=sizeOf4
 v4:=zeroValue4
 t9:=underlying9
 a9:=isAgg9
 z9:=sizeOf9
 v9:=zeroValue9
 t20:=underlying20
 a20:=isAgg20
 z20:=sizeOf20
 v20:=zeroValue20
 t22:=underlying350
 a22:=isAgg350
 z22:=sizeOf350
 v22:=zeroValue350}
def Tryz.UL:Go.Shelf.Ren:=⟨fun|4=>364|n=>n,fun|22=>291|25=>52|3=>3|4=>4|9=>9|20=>20|0=>0|n=>n,fun|n=>n⟩
def Tryz.lG4:Go.Proofs.Lays8.n4 prog Tryz.UL:={
 mixed:=by kernel_rfl
 f4:=⟨"slices.Grow[[]tipstaff/api.Atom,tipstaff/api.Atom]",by decide,Tryz.func364.trans (congrArg some (by kernel_rfl))⟩
 t0:=underlying0
 a0:=isAgg0
 z0:=sizeOf0
 v0:=zeroValue0
 t3:=underlying3
 a3:=isAgg3
 z3:=sizeOf3
 v3:=zeroValue3
 t4:=underlying4
 a4:=isAgg4
 z4:=sizeOf4
 v4:=zeroValue4
 t9:=underlying9
 a9:=isAgg9
 z9:=sizeOf9
 v9:=zeroValue9
 t20:=underlying20
 a20:=isAgg20
 z20:=sizeOf20
 v20:=zeroValue20
 t22:=underlying291
 a22:=isAgg291
 z22:=sizeOf291
 v22:=zeroValue291}
def Tryz.Wl:Builder.Extra prog Tryz.Hh where
 sizeBuilder:=by kernel_rfl
 liesBuilder:=by kernel_rfl
 t5:=underlying5
 a5:=isAgg5
 z5:=sizeOf5
 v5:=zeroValue5
 infoByte:=by kernel_rfl
 cellsByte:=by kernel_rfl
 sizeByte:=by kernel_rfl
 neB5:=by decide
end Go.Proofs
namespace Go.Ac.S4
open Go Go.Proofs Go.Proofs.Tryz Go.Ac
open Go.IntKind (wrap)
open Int (toNat tdiv tmod fdiv)
open List (drop take replicate)
set_option maxRecDepth 100000
def L7{O:Nat->Prop}(m:Inv P d g O G f w)(l:List By)(t:TypeId):
  ∃c,Inv P d g O c f (w.alloc (.cells (l.map fun s=>Value.string ⟨s.toArray⟩).toArray t))/\aS c [] (w.alloc (.cells (l.map fun s=>Value.string ⟨s.toArray⟩).toArray t)) (.slice (some ⟨w.heap.size,0,none⟩) l.length l.length) (vL 1 (aJ l))/\∀b,G.bD b->c.bD b/\c.val b=G.val b:=by
 have k:RowKit.Below w.heap.size w (w.alloc (.cells (l.map fun s=>Value.string ⟨s.toArray⟩).toArray t)):=(RowKit.Below.refl _ _).alloc (ar _) _
 refine⟨o1 G w w.heap.size l.length false,pR m k ⟨ar _,.inl (by rw[size_alloc];omega)⟩,.v ?_,fun b h=>⟨h,rfl⟩⟩
 have o:(o1 G w w.heap.size l.length false).bX w.heap.size=l.length:=by
  show(if w.heap.size<w.heap.size then G.bX w.heap.size else if w.heap.size=w.heap.size then l.length else 0)=l.length
  rw[aN (by omega),aG rfl]
 have e:∀i j p,kf (aJ l) i j=some p->j=0/\∃s,l[i]?=some s/\p=S s:=fun i j p h=>by
  unfold kf aJ at h;rw[bu]at h;cases hq:l[i]? with
  |none=>rw[hq]at h;simp at h
  |some s=>
   rw[hq]at h;cases j with
   |zero=>simp[He]at h;exact⟨rfl,s,rfl,h.symm⟩
   |succ j=>simp[He]at h
 refine .sl w.heap.size 0 l.length l.length 1 (aJ l) (fun i _=>.string ⟨(l.getD i []).toArray⟩) (by simp[aJ]) (ar _) (fun r n=>by
  obtain⟨s,_,rfl⟩:=bh.1 n;rfl) (fun i j p h=>?_) fun i j p h=>?_
 .obtain⟨rfl,s,a,rfl⟩:=e i j p h
  have q:i<l.length:=(aE.1 a).1;refine⟨?_,by rw[o];omega⟩
  rw[show 0+i*1+0=i by omega,y7]
  rw[bR,a];simp[a]
 .obtain⟨rfl,s,a,rfl⟩:=e i j p h
  rw[bR,a];exact Ki s
def zF(c:UInt8):∀s:By,Lib.splitK [c] 0 (Lib.count s [c]) s=splitB c s
 |[]=>rfl
 |d::t=>by
  have b:=zF c t;by_cases h:d=c
  .subst h
   rw[Lib.count_cons_eq,oN];unfold Lib.splitK;have e:Lib.index (d::t) [d]=0:=by simp[Lib.index]
   rw[e];simp only[splitB,beq_self_eq_true,ai];rw[<-b];rfl
  .rw[Lib.count_cons_ne _ _ _ h]
   have i:(d==c)=false:=by simpa using h
   have e:Lib.index (d::t) [c]=if Lib.index t [c]== -1 then -1 else Lib.index t [c]+1:=by
    show(if List.isPrefixOf [c] (d::t)then 0 else if Lib.index t [c]== -1 then -1 else Lib.index t [c]+1)=_
    rw[aN (by simp[List.isPrefixOf];exact fun e=>h e.symm)]
   simp only[splitB,i,af,<-b];have j:=Lib.index_ge t [c];cases hk:Lib.count t [c]with
   |zero=>rfl
   |succ k=>
    unfold Lib.splitK;rw[e];by_cases a:Lib.index t [c]= -1
    .rw[a];rfl
    .have f:(Lib.index t [c]== -1)=false:=by simpa using a
     have g:(Lib.index t [c]+1 == -1)=false:=by rw[gk];omega
     rw[f];simp only[kp,if_false,g];have:(Lib.index t [c]+1).toNat=(Lib.index t [c]).toNat+1:=by omega
     rw[this];simp only[iC,yf];rw[show(Lib.index t [c]).toNat+1+[c].length=((Lib.index t [c]).toNat+[c].length)+1 by simp,sA]
def adX(s:By)(c:UInt8)(y:s.length<=2^31):ak 131 [vS s,vS [c]] [] [vL 1 (aJ (splitB c s))] []:=by
 constructor
 intro w t O z a n;obtain⟨v,u,rfl,i,j⟩:=L0 n;rw[L1 i,L1 j];obtain⟨m,l,-⟩:=a.frame.Ca.num;have k:=Any.strings_Split Tryz.adU (by kernel_rfl) ⟨s.toArray⟩ ⟨[c].toArray⟩ m w (by show s.toArray.size<_;simp;omega) l (by show 1<=[c].toArray.size;simp)
 have e:=Lib.splitB_data ⟨[c].toArray⟩ 0 (Lib.countB ⟨s.toArray⟩ ⟨[c].toArray⟩) ⟨s.toArray⟩;have d:Lib.splitK [c] 0 (Lib.count s [c]) s=splitB c s:=zF c s;have e:(Lib.splitB ⟨[c].toArray⟩ 0 (Lib.countB ⟨s.toArray⟩ ⟨[c].toArray⟩) ⟨s.toArray⟩).map (·.data.toList)=splitB c s:=e.trans d
 have f:(Lib.splitB ⟨[c].toArray⟩ 0 (Lib.countB ⟨s.toArray⟩ ⟨[c].toArray⟩) ⟨s.toArray⟩).map Value.string=(splitB c s).map fun s=>Value.string ⟨s.toArray⟩:=by
  rw[<-e,dW];exact sB fun x _=>rfl
 have g:Lib.countB ⟨s.toArray⟩ ⟨[c].toArray⟩+1=(splitB c s).length:=by
  rw[<-e,al];exact(Lib.splitB_all ⟨[c].toArray⟩ (by show 1<=[c].toArray.size;simp) 0 _ ⟨s.toArray⟩ rfl).symm
 rw[f,g]at k;refine eQ (enters_of func131 rfl rfl) k ?_;rintro e w' ⟨rfl,rfl⟩;obtain⟨b,o,p,q⟩:=L7 a (splitB c s) 9;exact⟨_,rfl,b,_,o,ei p,rfl,q⟩
def Yg:∀c:Nat,c<256->JC c=if Lib.isSp (UInt8.ofNat c)then 1 else 0:=by decide
def wE:∀(s a:By),s.all (fun c=>c==32||(97<=c&&c<=122))=true->a.all (fun c=>c !=32)=true->Lib.fieldsGo a s=(splitB 32 (a++s)).filter (· != [])
 |[],a,_,e=>by
  have:splitB 32 a=[a]:=by
   induction a with
   |nil=>rfl
   |cons d t f=>
    rw[bJ,cd]at e;have i:(d==32)=false:=by simpa using e.1
    simp only[splitB,i,af,f e.2]
  rw[fr,this];cases a<;>simp[Lib.fieldsGo]
 |b::l,a,h,e=>by
  rw[bJ,cd]at h;have key:∀a:By,a.all (fun c=>c !=32)=true->splitB 32 (a++32::l)=a::splitB 32 l:=by
   intro a;induction a with
   |nil=>intro _;simp[splitB]
   |cons d t f=>
    intro e;rw[bJ,cd]at e;have i:(d==32)=false:=by simpa using e.1
    rw[dt];simp only[splitB,i,af,f e.2]
  cases hb:b==32
  .have g:Lib.isSp b=false:=by
    have j:=h.1;rw[hb,mW,cd,fM,fM,ym,ym]at j;have m:97<=b.toNat:=j.1;have n:∀k:UInt8,k.toNat<97->(b==k)=false:=fun k o=>by
     rw[gk];rintro rfl;omega
    unfold Lib.isSp;rw[n 9 (by decide),n 10 (by decide),n 11 (by decide),n 12 (by decide),n 13 (by decide),n 32 (by decide)]
    rfl
   rw[Lib.fieldsGo_more a b l g,wE l (a++[b]) h.2 (by rw[List.all_append,e];simpa using hb)]
   simp
  .obtain rfl:=bZ hb
   have g:Lib.isSp 32=true:=rfl;rw[key a e];have f:=wE l [] h.2 rfl;rw[dP]at f;cases a with
   |nil=>rw[Lib.fieldsGo_sp _ _ g,f];rfl
   |cons x t=>rw[Lib.fieldsGo_end _ _ _ g (by simp),f];rfl
def adY(s:By)(h:s.all (fun c=>c==32||(97<=c&&c<=122))=true)(t:s.length<=2^31):ak 279 [vS s] [] [vL 1 (aJ (jC s))] []:=by
 constructor
 intro w q O u d m;obtain⟨v,rfl,g⟩:=LZ m;rw[L1 g];have k:=Any.strings_Fields_core Tryz.adV (by kernel_rfl) ⟨s.toArray⟩ w (by show s.toArray.size<_;simp;omega) (fun j b i=>by
  have:=bf.1 h b (aK i);rw[gW,cd,fM,fM,ym,ym]at this;rcases this with h|h
  .rw[bZ h];decide
  .have:b.toNat<=122:=h.2
   omega) (fun c a=>by rw[<-Yg c a];exact(d.frame.Ca.tab c a).1)
 have e:Lib.fields s=jC s:=by
  have:=wE s [] h rfl;rw[dP]at this;exact this
 have k:Calls prog 279 #[.string ⟨s.toArray⟩] w fun e w'=>e = .returned (.slice (some ⟨w.heap.size,0,none⟩) (Lib.fields s).length (Lib.fields s).length)/\w'=w.alloc (.cells ((Lib.fields s).map fun l=>Value.string ⟨l.toArray⟩).toArray 9):=k
 rw[e]at k;refine eQ (enters_of func279 rfl rfl) k ?_;rintro e w' ⟨rfl,rfl⟩;obtain⟨f,n,o,p⟩:=L7 d (jC s) 9;exact⟨_,rfl,f,_,n,ei o,rfl,p⟩
end Go.Ac.S4
end
section
namespace Go.Ac.S4
open Go Go.Proofs Go.Proofs.Tryz Go.Ac
open Go.IntKind (wrap)
open Int (toNat tdiv tmod fdiv)
open List (drop take replicate)
set_option maxRecDepth 100000
def zG(h:cm c w v (.sl n aj)):∃A cap,v = .slice A aj.length cap/\aj.length<=cap /\
  ((A=none/\aj=[]/\cap=0)\/(∃a,A=some a/\aj=[]/\cap=0)\/∃b off,A=some ⟨b,off,none⟩/\∃u:Nat->Nat->Value,(∀r∈aj,r.length=n)/\∀i j p,kf aj i j=some p->w.cell? ⟨b,off+i*n+j,none⟩=some (u i j)/\off+i*n+j<c b/\cm c w (u i j) p):=by
 cases h with
 |m3=>exact⟨none,0,rfl,ar _,.inl ⟨rfl,rfl,rfl⟩⟩
 |Jo a=>exact⟨_,0,rfl,ar _,.inr (.inl ⟨a,rfl,rfl,rfl⟩)⟩
 |sl b off len cap _ _ u f e k d g=>subst f;exact⟨_,cap,rfl,e,.inr (.inr ⟨b,off,rfl,u,k,fun i j p h=>⟨(d i j p h).1,(d i j p h).2,g i j p h⟩⟩)⟩
def wF(c:UInt8):∀l:List By,lW c l=Lib.join l [c]
 |[]=>rfl
 |[x]=>(Lib.join_one x [c]).symm
 |x::y::t=>by
  have a:=wF c (y::t);rw[Lib.join_cons]at a⊢;show x++c::lW c (y::t)=_
  rw[a];simp[Lib.joinTail]
def Hi(c:UInt8):∀l:List By,(lW c l).length<=ic l+l.length
 |[]=>by simp[lW]
 |[x]=>by simp[lW,ic]
 |x::y::t=>by
  have a:=Hi c (y::t);simp only[ic,bG,eV,aD]at a⊢;show(x++c::lW c (y::t)).length<=_
  rw[dC,aD];omega
def adZ(l:List By)(c:UInt8)(Y:l.length<=2^40)(Z:ic l<=2^40):ak 132 [vL 1 (aJ l),vS [c]] [] [vS (lW c l)] []:=by
 constructor
 intro w i O F y I;obtain⟨v,u,rfl,o,D⟩:=L0 I;rw[L1 D];have X:=Hi c l;have J:(aJ l).length=l.length:=al ..;cases o with
 |v o=>
 obtain⟨A,cap,rfl,T,H⟩:=zG o;have fin:∀w',RowKit.Below w.heap.size w w'->∃a r,Inv prog w i.bX O a [] w'/\lT a (cD [vS (lW c l)]) w' r [vS (lW c l)]/\Value.string ⟨(lW c l).toArray⟩=uZ r/\∀b,i.bD b->a.bD b/\a.val b=i.val b:=fun w' f=>
  ⟨_,[_],pR y f (g:=w'.heap.size) (m:=0) (own:=false) ⟨f.size,.inr ⟨rfl,rfl⟩⟩,ei (.v (Ki _)),rfl,fun b h=>⟨h,rfl⟩⟩
 by_cases d:l=[]
 .subst d
  refine eQ (enters_of func132 rfl rfl) (Any.strings_Join_none Tryz.aat Tryz.Wl A cap ⟨[c].toArray⟩ w) ?_;rintro e w' ⟨rfl,rfl⟩;exact⟨_,rfl,fin w' (.refl _ _)⟩
 .rcases H with⟨-,h,-⟩|⟨_,-,h,-⟩|⟨b,off,rfl,u,R,Q⟩
  .exact(d (List.map_eq_nil_iff.1 h)).elim
  .exact(d (List.map_eq_nil_iff.1 h)).elim
  .have K:∀j s,l[j]?=some s->kf (aJ l) j 0=some (S s):=fun j s h=>by
    unfold kf aJ;rw[bu,h];rfl
   have z:∀j s,l[j]?=some s->w.cell? ⟨b,off+j,none⟩=some (.string ⟨s.toArray⟩)/\b<w.heap.size:=fun j s h=>by
    obtain⟨q,E,G⟩:=Q j 0 _ (K j s h);rw[mf G,show off+j*1+0=off+j by omega]at q
    exact⟨q,y.JI E⟩
   have M:b<w.heap.size:=by
    obtain⟨s,t,rfl⟩:=List.exists_cons_of_ne_nil d;exact(z 0 s rfl).2
   have n:(l.map fun s=>(⟨s.toArray⟩:ByteArray)).length=l.length:=al ..
   have p:(l.map fun s=>(⟨s.toArray⟩:ByteArray)).map (fun x=>x.data.toList)=l:=by
    rw[dW];exact(sB fun x _=>rfl).trans (List.map_id l)
   have k:=Any.strings_Join Tryz.aat Tryz.Wl b off cap (l.map fun s=>⟨s.toArray⟩) ⟨[c].toArray⟩ w (fun j x h=>by
    rw[bu]at h;cases hq:l[j]? with
    |none=>rw[hq]at h;simp at h
    |some s=>rw[hq]at h;simp at h;subst h;exact(z j s hq).1) M (by rw[n];omega) (by rw[n];omega) (by
     rw[p];show(Lib.join l [c]).length<=_
     rw[<-wF];omega)
   rw[n,p,show Lib.join l (⟨[c].toArray⟩:ByteArray).data.toList=lW c l from(wF c l).symm]at k
   rw[J];refine eQ (enters_of func132 rfl rfl) k ?_;rintro e w' ⟨rfl,f⟩;exact⟨_,rfl,fin w' f⟩
open Go.RowKit Go.Shelf Go.Lib in
set_option maxHeartbeats 1000000 in
theorem Hj{P:Program}{ρ:Shelf.Ren}(L:SlLaysE0.n41 P ρ)(d:TypeInfo)(z:Value)(b bytes:Nat)(o:P.info? (ρ.t 23)=some d)(t:d.zero=some z)(v:d.size=b)(x:d.bytes=bytes)(y:z.cells.size=b)(s:0<b)
  (Y:∀w,(Go.sizeOf (ρ.t 23)).run P w = .ok b w)(a:Addr)(c:Nat)(w:World):
  Calls P (ρ.f 41) #[.slice (some a) 0 c] w fun e w'=>∃f,e = .returned f/\w'.ownsRow w.heap.size (ρ.t 23) b f 0 []/\f≠.slice none 0 0/\Below w.heap.size w w':=by
 have mixed:=L.mixed;have G:=L.t4;have E:=L.a4;have J:=L.z4;have H:=L.v4;have l:=L.t22;have K:=L.a22;have X:=L.z22;have T:=L.v22;have M:∀(w:World)(a:Option Addr)(n c i g:Nat),(binOp .eql (ρ.t 22) (.slice a n c) (.slice none i g)).run P w = .ok (.bool a.isNone) w:=fun w a n c i g=>Lib.run_eql_slice_nil w _ _ a n c i g L.t22
 have Q:∀w,Sem.run P (underlying (ρ.t 22)) w = .ok (TypeDesc.slice (ρ.t 23)) w:=run_underlying l;obtain⟨_,_,m⟩:=L.f41;go_enter m,SlBodyN.n41_ntmps ρ
 go_wp2_with (at_builtin;refine wpList_append_own _ rfl _ _ (ρ.t 22) rfl w.heap.size (ρ.t 23) d z b bytes l o t v x y s _ _ _ rfl (World.ownsRow_made w #[] 0 (ar _) (dV _) (by simp)) a 0 c [] rfl ?qc1 ?qc2 ?qc3 ?qc4 ?qc5 ?qc6 ?_)
 case qc1=>simp
 case qc2=>intro j u p;simp at p
 case qc3=>simp
 case qc4=>simp
 case qc5=>simp
 case qc6=>simp
 intro f I r D h;go_wp2
 go_ret
 refine⟨f,rfl,by simpa using r,?_,?_⟩
 .exact h
 .exact((Below.refl _ w).alloc (ar _) _).grown D (by simp) (by intro k q;simp[Value.ownBlock]at q;omega)
def Hk(L:SlLaysE0.n41 prog ρ)(y:ZR (ρ.f 41)){n bytes:Nat}(Y:prog.info? (ρ.t 23)=some f)(T:f.zero=some z)(Q:f.size=n)(M:f.bytes=bytes)(R:z.cells.size=n)(s:0<n)(F:∀w,(Go.sizeOf (ρ.t 23)).run prog w = .ok n w)(l:Rw)(hl:l.length*bytes<=140737488355328)(a2:l.length<=2^40):ak (ρ.f 41) [vL n l] [] [.own 0 0 n l] []:=by
 constructor
 intro w G0 O vs D hr;obtain⟨v,rfl,t⟩:=LZ hr;cases t with
 |v t=>
 obtain⟨A,cap,rfl,hc,hA⟩:=zG t;rcases hA with⟨rfl,rfl,rfl⟩|⟨a,rfl,rfl,rfl⟩|⟨b,off,rfl,u,H,I⟩
 .refine eQ y (AnyE.slices_Clone_nil L 0 0 w) ?_
  rintro e w' ⟨rfl,rfl⟩;obtain⟨g,m,X,o,q⟩:=yy D (.refl _ w') (e:=ρ.t 23) (n:=n) (len:=0) (v:=.slice none 0 0) (xs:=[]) ⟨by simp,.inl ⟨rfl,rfl⟩⟩ (aj:=[]) rfl (by simp) (fun i j p h=>by simp[kf]at h)
  exact⟨_,rfl,g,[_],m,ei o,rfl,q⟩
 .refine eQ y (Hj L f z n bytes Y T Q M R s F a 0 w) ?_
  rintro e w' ⟨v',rfl,ho,-,hbl⟩;obtain⟨g,m,X,o,q⟩:=yy D hbl ho (aj:=[]) rfl (by simp) (fun i j p h=>by simp[kf]at h)
  exact⟨_,rfl,g,[_],m,ei o,rfl,q⟩
 .have Z:∀k,k<l.length*n->∃p,kf l (k/n) (k%n)=some p:=fun k d=>by
   have c:k/n<l.length:=(Nat.div_lt_iff_lt_mul s).2 d;have J:(l[k/n]).length=n:=H _ (fL c);have K:k%n<(l[k/n]).length:=by rw[J];exact Nat.mod_lt _ s
   refine⟨(l[k/n])[k%n],?_⟩;unfold kf;rw[bo c];simp[K]
  have a1:∀k,k/n*n+k%n=k:=fun k=>by rw[lL];exact Nat.div_add_mod k n
  let news:=(List.range (l.length*n)).map fun k=>u (k/n) (k%n)
  have a0:∀k x,news[k]?=some x->k<l.length*n/\x=u (k/n) (k%n):=fun k x h=>by
   have h:((List.range (l.length*n)).map fun k=>u (k/n) (k%n))[k]?=some x:=h
   rw[bu]at h;rcases bY k (l.length*n)with d|d
   .rw[mz d]at h
    simp at h;exact⟨d,h.symm⟩
   .rw[eJ (by simpa using d)]at h;simp at h
  have k:=AnyE.slices_Clone L f z n bytes Y T Q M R s F b off l.length cap news w (by show((List.range (l.length*n)).map _).length=_;simp) (by unfold maxLen;omega) hl (fun j x h=>by
   obtain⟨c,rfl⟩:=a0 j x h;obtain⟨p,E⟩:=Z j c;have:=(I _ _ _ E).1;rw[gU,a1]at this;exact this) (fun x hx=>by
   obtain⟨j,hj⟩:=DU hx;obtain⟨c,rfl⟩:=a0 j x hj;obtain⟨p,E⟩:=Z j c;exact(I _ _ _ E).2.2.gm)
  refine eQ y k ?_;rintro e w' ⟨v',rfl,ho,-,hbl⟩;obtain⟨g,m,X,o,q⟩:=yy D hbl ho (aj:=l) rfl H (fun i j p h=>by
   have G:i*n+j<l.length*n/\j<n:=by
    unfold kf at h;cases hq:l[i]? with
    |none=>rw[hq]at h;simp at h
    |some r=>
     rw[hq]at h;have c:r[j]?=some p:=h;have J:=H r (aK hq);have K:=(aE.1 c).1;have h6:=(aE.1 hq).1;have h7:(i+1)*n<=l.length*n:=dD _ h6;rw[cc]at h7;omega
   refine⟨u i j,?_,(I i j p h).2.2⟩;show((List.range (l.length*n)).map fun k=>u (k/n) (k%n))[i*n+j]?=_
   rw[bu,mz G.1];have e1:(i*n+j)/n=i:=by rw[lL,Nat.mul_add_div s,Nat.div_eq_of_lt G.2];omega
   have e2:(i*n+j)%n=j:=by rw[lL,Nat.mul_add_mod,mZ G.2]
   simp[e1,e2])
  exact⟨_,rfl,g,[_],m,ei o,rfl,q⟩
def L8(L:Lays8.n4 prog ρ)(d:ZR (ρ.f 4)){n bytes:Nat}(Q:prog.info? (ρ.t 25)=some c)(G:c.zero=some z)(Z:c.size=n)(y:c.bytes=bytes)(Y:z.cells.size=n)(a0:0<n)(m:Int)(q:0<=m/\m<=2^41)(D:m*bytes<=140737488355328):ak (ρ.f 4) [.v .nil,vN m] [] [.own 0 0 n []] []:=by
 obtain⟨m,rfl⟩:=iT q.1;constructor
 intro w o O A f E;obtain⟨v,u,rfl,s,t⟩:=L0 E;rw[L2 t];have e:v = .slice none 0 0:=by
  cases s with
  |v h=>cases h;rfl
 subst e;have T:m*bytes<=140737488355328:=Int.ofNat_le.1 (by rw[Int.natCast_mul];exact D)
 by_cases r:m=0
 .subst r
  refine eQ d (Any8.slices_Grow_room L none 0 0 0 w (ar _) (by omega) (by omega) (ar _)) ?_
  rintro e w' ⟨rfl,rfl⟩;obtain⟨l,H,F,I,J⟩:=yy f (.refl _ w') (e:=ρ.t 25) (n:=n) (len:=0) (v:=.slice none 0 0) (xs:=[]) ⟨(Nat.zero_mul n).symm,.inl ⟨rfl,rfl⟩⟩ (aj:=[]) rfl (by simp) (fun i j p h=>by simp[kf]at h)
  exact⟨_,rfl,l,[_],H,ei I,rfl,J⟩
 .have k:=Any8.slices_Grow_grow L c z Q G (by omega) none 0 0 m [] w (ar _) (by omega) (by rw[y,cv];exact T) (by omega) (by simp) (fun _=>rfl) (fun a h=>by simp at h)
  have R:=grownCap_ge w (0+m) 0 (ρ.t 25);refine eQ d k ?_;rintro e w' ⟨rfl,hw⟩;generalize x:([]:List Value).toArray++Builtin.zeroCells z.cells (0+m-0)++Builtin.zeroCells z.cells (grownCap w (0+m) 0 (ρ.t 25)-(0+m))=X at hw;have K:grownCap w (0+m) 0 (ρ.t 25)*n<=X.size:=by
   rw[<-x];simp[Builtin.zeroCells,Y];rw[<-cc];exact dD _ (by omega)
  subst hw;have M:RowKit.Below w.heap.size w (w.drew.alloc (.cells X (ρ.t 25))):=((RowKit.Below.refl _ _).drew).alloc (ar _) _;refine⟨_,rfl,_,[_],pR f M (g:=w.heap.size) (m:=0) (own:=true) ⟨ar _,.inl (by rw[size_alloc];exact Nat.lt_succ_self _)⟩,ei (.own Nat.zero_lt_one (fun m _=>dV m) (.sl w.heap.size 0 0 _ n [] (fun _ _=>undef) rfl (dV _) (by simp) (fun i j p h=>by simp[kf]at h) fun i j p h=>by simp[kf]at h) fun _ _=>
   ⟨w.heap.size,0,X,ρ.t 25,rfl,rfl,?_,heap_alloc_new w.drew _,by rw[cv];exact K⟩),rfl,fun b h=>⟨h,rfl⟩⟩
  show(if w.heap.size<w.heap.size then o.bX w.heap.size else if w.heap.size=w.heap.size then 0 else 0)=0+0*n
  rw[aN (by omega),aG rfl]
  omega
def yz{n bytes:Nat}(h:((prog.info? t).map fun i=>(i.zero.map fun z=>z.cells.size,i.size,i.bytes))=some (some n,n,bytes)):∃b z,prog.info? t=some b/\b.zero=some z/\b.size=n/\b.bytes=bytes/\z.cells.size=n:=by
 cases h1:prog.info? t with
 |none=>rw[h1]at h;simp at h
 |some i=>
  rw[h1]at h;simp only[de,ay,aA]at h;obtain⟨a,c,d⟩:=h;cases h5:i.zero with
  |none=>rw[h5]at a;simp at a
  |some z=>rw[h5]at a;simp at a;exact⟨i,z,rfl,h5,c,d,a⟩
def ad0(n:Int)(h:0<=n/\n<=2^41):ak 341 [.v .nil,vN n] [] [.own 0 0 5 []] []:=by
 obtain⟨f,z,a,b,c,d,e⟩:=yz (t:=348) (n:=5) (bytes:=32) (by kernel_rfl)
 exact L8 Tryz.lG5 (enters_of func341 rfl rfl) a b c d e (by omega) n h (by omega)
def ad1(n:Int)(h:0<=n/\n<=2^41):ak 364 [.v .nil,vN n] [] [.own 0 0 4 []] []:=by
 obtain⟨f,z,a,b,c,d,e⟩:=yz (t:=52) (n:=4) (bytes:=32) (by kernel_rfl)
 exact L8 Tryz.lG4 (enters_of func364 rfl rfl) a b c d e (by omega) n h (by omega)
def ad2(l:Rw)(f:l.length<=2^40):ak 239 [vL 5 l] [] [.own 0 0 5 l] []:=by
 obtain⟨g,z,a,b,c,d,e⟩:=yz (t:=348) (n:=5) (bytes:=32) (by kernel_rfl)
 exact Hk Tryz.adW (enters_of func239 rfl rfl) a b c d e (by omega) sizeOf348 l (by omega) f
def aav(l:Rw)(f:l.length<=2^40):ak 217 [vL 1 l] [] [.own 0 0 1 l] []:=by
 obtain⟨g,z,a,b,c,d,e⟩:=yz (t:=9) (n:=1) (bytes:=16) (by kernel_rfl)
 exact Hk Tryz.aau (enters_of func217 rfl rfl) a b c d e (by omega) sizeOf9 l (by omega) f
end Go.Ac.S4
end
