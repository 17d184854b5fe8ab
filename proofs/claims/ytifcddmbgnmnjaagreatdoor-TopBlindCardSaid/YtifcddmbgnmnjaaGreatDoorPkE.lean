/-
Part 5: lemmas; no conditions beyond those that they state.
-/
import Derived.Test.YtifcddmbgnmnjaaGreatDoorPkD
set_option linter.all false
set_option autoImplicit true
set_option relaxedAutoImplicit true
section
namespace Go.Ac.S4
open Go Go.Proofs Go.Proofs.Tryz Go.Ac
open Go.IntKind (wrap)
open Int (toNat tdiv tmod fdiv)
open List (drop take replicate)
set_option maxRecDepth 100000
section
inductive ke (wd:Int->Int):List In->Int->Int->Nat->Prop
 |ld {x t A v n}:x.code=32->ke wd t (wd x.k) v n->ke wd (x::t) A v (n+1)
 |an {x t A v n}:x.code=84->ke wd t (OU A x.k) v n->ke wd (x::t) A v (n+1)
 |tx {x t A v n}:x.code=135->ke wd t 0 v n->ke wd (x::t) A v (n+1)
 |rt {x t A}:x.code=6->ke wd (x::t) A x.k 1
 |ja {x t A v n}:x.code=5->ke wd (t.drop x.k.toNat) A v n->ke wd (x::t) A v (n+1)
 |jp {x t A v n}:TB x.code=true->ke wd (t.drop (bif jc x.code A x.k then x.jt else x.jf).toNat) A v n->ke wd (x::t) A v (n+1)
variable {wd:Int->Int}
def ke.len(h:ke wd l A v n):n<=l.length:=by
 induction h with
 |ld _ _ a=>simp only[aE];omega
 |an _ _ a=>simp only[aE];omega
 |tx _ _ a=>simp only[aE];omega
 |rt _=>simp
 |ja _ _ a=>rw[iv]at a;simp only[aE];omega
 |jp _ _ a=>rw[iv]at a;simp only[aE];omega
def vF(x:Lb)(cn:Int):∀(m:List Lb),mD (AJ x m) cn=bif cn==x.1 then some x else mD m cn
 |[]=>by
  unfold AJ mD;rw[cj];cases cn==x.1<;>rfl
 |y::m=>by
  have a:=vF x cn m;unfold AJ;unfold mD at a⊢;cases h:x.1==y.1
  .rw[af,cj,cj,a]
   cases h2:cn==y.1
   .rfl
   .cases h3:cn==x.1
    .rfl
    .rw[eq_of_beq h2]at h3
     have:=eq_of_beq h3;rw[this]at h;simp at h
  .rw[aj,cj,cj]
   have e:=eq_of_beq h;rw[<-e];cases cn==x.1<;>rfl
def C0:∀(t:List Sy)(i:Int)(m:List Lb),(gq t i m).1=true->∀cn y,mD m cn=some y->mD (gq t i m).2 cn=some y
 |[],_,_,_,_,_,h=>h
 |x::t,i,m,h,cn,y,a=>by
  unfold gq at h⊢;cases hb:(bif decide (x.label<0)then true else(mD m x.label).isSome)<;>rw[hb]at h
  .refine C0 t (i+1) _ h cn y ?_
   cases hd:decide (x.label>0)
   .exact a
   .rw[aj,vF]
    cases he:cn==x.label
    .exact a
    .rw[eq_of_beq he]at a
     cases hl:decide (x.label<0)<;>rw[hl]at hb
     .rw[af,a]at hb;simp at hb
     .simp at hb
  .simp at h
def C1:∀(t:List Sy)(i:Int)(m:List Lb),(gq t i m).1=true->∀(j:Nat)x,t[j]?=some x->x.label>0->mD (gq t i m).2 x.label=some (x.label,i+j)
 |[],_,_,_,j,x,a,_=>by simp at a
 |z::t,i,m,h,j,x,a,b=>by
  unfold gq at h⊢;cases hb:(bif decide (z.label<0)then true else(mD m z.label).isSome)<;>rw[hb]at h
  .cases j with
   |zero=>
    simp at a;subst a;refine C0 t (i+1) _ h _ _ ?_;rw[bE b,aj,vF];simp
   |succ j=>
    have:=C1 t (i+1) _ h j x (by simpa using a) b
    rw[af,this];congr 2
    omega
  .simp at h
def AX:∀(t:List Sy)(i:Int)(m:List Lb)(cn:Int)(y:Lb),mD (gq t i m).2 cn=some y->mD m cn=some y\/∃(j:Nat)(x:Sy),t[j]?=some x/\x.label=cn/\y.2=i+j/\cn>0
 |[],_,_,_,_,h=>.inl h
 |z::t,i,m,cn,y,h=>by
  unfold gq at h;cases hb:(bif decide (z.label<0)then true else(mD m z.label).isSome)<;>rw[hb]at h
  .rcases AX t (i+1) _ cn y h with h|⟨j,x,a,b,c,d⟩
   .cases hd:decide (z.label>0)<;>rw[hd]at h
    .exact .inl h
    .rw[aj,vF]at h
     cases he:cn==z.label<;>rw[he]at h
     .exact .inl h
     .have e:=eq_of_beq he
      have:=aV hd;simp at h;subst h;exact .inr ⟨0,z,rfl,e.symm,by simp,by omega⟩
   .exact .inr ⟨j+1,x,by simpa using a,b,by rw[c];omega,d⟩
  .exact .inl h
def OV(h:(dj l).1=true):(gq l 0 []).1=true:=(cg (b:=(gq l 0 []).1) h).1
def ZM(h:(dj l).1=true)(a:mD (dj l).2 cn=some y):(∃x,l[y.2.toNat]?=some x/\x.label=cn)/\0<=y.2/\∀(j:Nat)x,l[j]?=some x->x.label=cn->(j:Int)=y.2:=by
 have b:=OV h;have a:mD (gq l 0 []).2 cn=some y:=a;rcases AX l 0 [] cn y a with h|⟨j,x,c,d,f,o⟩
 .simp[mD]at h
 .refine⟨⟨x,by rw[f];simpa using c,d⟩,by omega,fun i m n g=>?_⟩
  have:=C1 l 0 [] b i m n (by omega)
  rw[g,a]at this;have e:=ax this;rw[e];simp
def VR(h:(dj l).1=true){i:Nat}(a:(ie (dj l).2 i cn).2=true):∃n:Nat,(ie (dj l).2 i cn).1=n/\i<n/\fC cn (l.drop (i+1))=l.drop n:=by
 unfold ie at a⊢;cases hl:cn==0<;>rw[hl]at a
 .rw[af]at a⊢
  cases hn:mD (dj l).2 cn with
  |none=>rw[hn]at a;simp at a
  |some y=>
   rw[hn]at a;have p:=aV a;obtain⟨⟨x,c,g⟩,o,d⟩:=ZM h hn;refine⟨y.2.toNat,by show y.2=_;omega,by omega,?_⟩
   have hlen:=(aG.1 c).1;have e:l.drop (i+1)=(l.drop (i+1)).take (y.2.toNat-(i+1))++l.drop y.2.toNat:=by
    have:=(uB (y.2.toNat-(i+1)) (l.drop (i+1))).symm;rw[fE,show i+1+(y.2.toNat-(i+1))=y.2.toNat by omega]at this
    exact this
   rw[e,nD (gJ hl) fun z f=>?_]
   .rw[uE hlen]
    refine mM ?_;rw[<-g,(aG.1 c).2]
   .intro m
    obtain⟨j,b⟩:=DZ f;rw[fv]at b;split at b
    .rename_i q
     rw[jx]at b;have:=d _ _ b m;omega
    .simp at b
 .rw[eq_of_beq hl]
  exact⟨i+1,by show(i:Int)+1=_;omega,by omega,rfl⟩
def ub(k:Lk):∀(t:List Sy)(q:List (Bool×Bool))(i:Nat)(more:Bool),(mE k t q i more).2=false->more=false/\(mE k t q i more).1=q
 |[],q,i,more,h=>⟨h,rfl⟩
 |x::t,[],i,more,h=>⟨h,rfl⟩
 |x::t,p::q,i,more,h=>by
  rw[mE]at h⊢;cases hj : !cO x.code<;>rw[hj]at h
  .rw[af]at h⊢
   obtain⟨a,b⟩:=ub k t q (i+1) _ h;cases hf:hK k i (kf k i x.f) p.2<;>rw[hf]at a
   .cases ht:hK k i (kf k i x.t) p.1<;>rw[ht]at a
    .have c:more=false:=a
     subst c;exact⟨rfl,by rw[hf,ht]at b;simp only[af]at b⊢; rw[b]⟩
    .simp at a
   .simp at a
  .rw[aj]at h⊢
   obtain⟨a,b⟩:=ub k t q (i+1) more h;exact⟨a,by show p::_=_;rw[b]⟩
def uc(k:Lk):∀(t:List Sy)(q:List (Bool×Bool))(i:Nat)(more:Bool),(∀(j:Nat)x p,t[j]?=some x->q[j]?=some p->cO x.code=false->p=(false,false))->
  ∀(j:Nat)x p,t[j]?=some x->(mE k t q i more).1[j]?=some p->cO x.code=false->p=(false,false)
 |[],q,i,more,h,j,x,p,b,_,_=>by simp at b
 |z::t,[],i,more,h,j,x,p,_,a,_=>by simp[mE]at a
 |z::t,r::q,i,more,h,j,x,p,b,a,c=>by
  rw[mE]at a;cases hz : !cO z.code<;>rw[hz]at a
  .cases j with
   |zero=>simp at b;subst b;rw[c]at hz;simp at hz
   |succ j=>exact uc k t q (i+1) _ (fun j=>by have:=h (j+1);simpa using this) j x p (by simpa using b) (by simpa using a) c
  .cases j with
   |zero=>exact h 0 x p b (by simpa using a) c
   |succ j=>exact uc k t q (i+1) _ (fun j=>by have:=h (j+1);simpa using this) j x p (by simpa using b) (by simpa using a) c
structure OW (l:List Sy) (k:Lk):Prop where
 sl:k.l=l
 qK:k.qK=(dj l).2
 pl:k.place=nA k.cz 0
 fl:k.cz.length=l.length
 plain:∀(j:Nat)x p,l[j]?=some x->k.cz[j]?=some p->cO x.code=false->p=(false,false)
structure ak8 (l:List Sy) (k:Lk):Prop where
 sl:k.l=l
 qK:k.qK=(dj l).2
 fl:k.cz.length=l.length
 plain:∀(j:Nat)x p,l[j]?=some x->k.cz[j]?=some p->cO x.code=false->p=(false,false)
def ID:∀(n:Nat)(k:Lk),ak8 l k->cntF k.cz<n->OW l (xJ n k)
 |0,_,_,h=>absurd h (jl _)
 |n+1,k,h,f=>by
  have b:=pa (nC k) k.l k.cz 0 false;rw[xJ];cases hs:(gd k).2
  .have d:(mE (nC k) k.l k.cz 0 false).2=false:=hs
   have e:=(ub (nC k) k.l k.cz 0 false d).2;have a:(gd k).1.cz=k.cz:=e;exact⟨h.sl,h.qK,by show nA k.cz 0=nA (gd k).1.cz 0;rw[a],by show(gd k).1.cz.length=_;rw[a];exact h.fl,by show∀(j:Nat)x p,l[j]?=some x->(gd k).1.cz[j]?=some p->_;rw[a];exact h.plain⟩
  .have g:cntF (gd k).1.cz<cntF k.cz:=by
    rcases b.2.1 hs with h|h
    .simp at h
    .exact h
   refine ID n _ ⟨h.sl,h.qK,b.2.2.trans h.fl,?_⟩ (by omega)
   have:=uc (nC k) k.l k.cz 0 false (by rw[h.sl];exact h.plain)
   intro j x p c;rw[<-h.sl]at c;exact this j x p c
def C2(l:List Sy):OW l (fK l):=by
 refine ID _ _ ⟨rfl,rfl,by simp[oD],fun j x p _ a _=>?_⟩ ?_
 .simp only[oD]at a
  rw[Ea]at a;split at a
  .exact(ax a).symm
  .simp at a
 .have:=F4 (oD l).cz
  simp[oD]at this⊢;omega
def AY(h:cO x.code=false->p=(false,false)):((fR k i x p).length:Int)=countP p:=by
 obtain⟨a,b⟩:=p;unfold fR;cases hj:cO x.code
 .have:=h hj
  rw[this];cases x.code==5<;>rfl
 .cases a<;>cases b<;>rfl
def eW(q:List (Bool×Bool))(i:Nat):Nat:=((q.take i).map fun p=>(countP p).toNat).sum
def C3:∀(q:List (Bool×Bool))(n:Int)(i:Nat),i<q.length->(nA q n).getD i 0=n+eW q i
 |[],_,i,h=>by simp at h
 |a::q,n,0,h=>by simp[nA,eW]
 |a::q,n,i+1,h=>by
  have:=C3 q (n+countP a) i (by simpa using h)
  have b:=nB a;rw[nA,List.getD_cons_succ,this];simp only[eW,yg,bH,eZ];omega
def AZ(h:q[i]?=some p):eW q (i+1)=eW q i+(countP p).toNat:=by
 unfold eW;rw[eO,h];simp
def ud:∀{j i:Nat},i<j->j<=q.length->eW q i<eW q j
 |0,i,h,_=>absurd h (jl _)
 |j+1,i,h,c=>by
  have a:q[j]?=some q[j]:=bo (by omega)
  have b:=nB q[j];rw[AZ a];by_cases e:i=j
  .subst e;omega
  .have:=ud (q:=q) (j:=j) (i:=i) (by omega) (by omega)
   omega
def sa(k:Lk):∀(t:List Sy)(q:List (Bool×Bool))(s i:Nat),t.length=q.length->(∀(j:Nat)x p,t[j]?=some x->q[j]?=some p->cO x.code=false->p=(false,false))->
  (dF k t q s).drop (eW q i)=dF k (t.drop i) (q.drop i) (s+i)
 |t,q,s,0,_,_=>by simp[eW]
 |[],[],s,i+1,_,_=>by simp[eW,dF]
 |[],p::q,s,i+1,h,_=>by simp at h
 |x::t,[],s,i+1,h,_=>by simp at h
 |x::t,p::q,s,i+1,h,a=>by
  have b:=sa k t q (s+1) i (by simpa using h) (fun j=>by have:=a (j+1);simpa using this)
  have c:=AY (k:=k) (i:=s) (x:=x) (p:=p) (a 0 x p rfl rfl);rw[dF];simp only[eW,yg,bH,eZ,so];rw[show(countP p).toNat=(fR k s x p).length by omega,List.drop_append,D6 (by omega),dT,D9]
  rw[show s+(i+1)=s+1+i by omega]
  exact b
def C5(h:TB c=true):cO c=true:=by
 unfold TB at h;unfold cO;cases h1:c==21
 .cases h2:c==37
  .rw[h1,h2]at h
   rw[show(c==53)=true from h]
   rfl
  .rfl
 .rfl
section
variable {l:List Sy} {k:Lk}
def F9(h:OW l k)(a:l[i]?=some x):∃p,k.cz[i]?=some p/\(dF k l k.cz 0).drop (eW k.cz i)=fR k i x p++(dF k l k.cz 0).drop (eW k.cz (i+1))/\((fR k i x p).length:Int)=countP p:=by
 have f:=(aG.1 a).1;have b:=h.fl;have c:k.cz[i]?=some k.cz[i]:=bo (by omega)
 refine⟨_,c,?_,AY (h.plain i x _ a c)⟩;rw[sa k l k.cz 0 i b.symm h.plain,sa k l k.cz 0 (i+1) b.symm h.plain];have d:l.drop i=x::l.drop (i+1):=by rw[uE f,(aG.1 a).2]
 have e:k.cz.drop i=k.cz[i]::k.cz.drop (i+1):=uE (by omega)
 rw[d,e,dF,cy,cy]
def Ga(h:OW l k)(a:i<l.length):yK k i=eW k.cz i:=by
 rw[yK,h.pl,C3 k.cz 0 i (by rw[h.fl];exact a),Int.zero_add]
def TG(g:(dj l).1=true)(h:OW l k){i:Nat}(f:(ie (dj l).2 i cn).2=true)(c:fC cn (l.drop (i+1))≠[]):
  ∃n:Nat,kf k i cn=eW k.cz n/\i<n/\n<l.length/\fC cn (l.drop (i+1))=l.drop n:=by
 obtain⟨n,d,e,a⟩:=VR g f;have b:n<l.length:=by
  rcases bU n l.length with h|h
  .exact h
  .rw[a,D6 h]at c;exact(c rfl).elim
 refine⟨n,?_,e,b,a⟩;rw[kf,h.qK,d];exact Ga h b
def BS.ne(h:BS wd s A v n):s≠[]:=by cases h<;>simp
def IE(f:(dj l).1=true){i:Nat}(g:l[i]?=some x):(x.code=5->(ie (dj l).2 i x.t).2=true)/\(TB x.code=true->(ie (dj l).2 i x.t).2=true/\(ie (dj l).2 i x.f).2=true):=by
 have e:tl l.length (gq l 0 []).2 l 0=true:=(cg (b:=(gq l 0 []).1) f).2;have a:=(AM l 0 e).2 i x g;rw[cy]at a;have a:tY l.length (dj l).2 i x=true:=a;unfold tY at a;cases h1 : !(r6 x.code).isSome<;>rw[h1]at a
 .cases h3:(bif(i:Int)==(l.length:Int)-1 then !qC x.code else false)<;>rw[h3]at a
  .refine⟨fun c=>?_,fun d=>?_⟩
   .rw[c]at a
    exact(cg (b:=x.t !=0) a).2
   .have c:(x.code==5)=false:=by
     cases h:x.code==5
     .rfl
     .rw[eq_of_beq h]at d;simp[TB]at d
    rw[c,C5 d]at a;exact cg (b:=(ie (dj l).2 i x.t).2) a
  .simp at a
 .simp at a
def IF(h:0<=n/\n<=2^31):wrap .u32 n=n:=AB (by omega) (by omega)
def TH(u:(dj l).1=true)(h:OW l k)(hb:eW k.cz l.length<=2^30)(a0:BS wd s A v c):∀i,l.drop i=s->∃n,n<=c/\ke wd ((dF k l k.cz 0).drop (eW k.cz i)) A v n:=by
 have pb:∀n,n<l.length->(eW k.cz n:Int)<2^30:=fun n G=>by have:=ud (q:=k.cz) (i:=n) (j:=l.length) G (by rw[h.fl];exact ar _);omega
 have one:∀{i:Nat}{x:Sy}{t:List Sy},l.drop i=x::t->cO x.code=false->(x.code==5)=false->(dF k l k.cz 0).drop (eW k.cz i)=⟨x.code,0,0,x.k⟩::(dF k l k.cz 0).drop (eW k.cz (i+1)):=by
  intro i x t f hj h5;obtain⟨z,E,T⟩:=drop_cons f;obtain⟨p,J,K,F⟩:=F9 h z;rw[K,fR,hj,h5];rfl
 induction a0 with
 |ld H _ w=>
  intro i f;obtain⟨n,G,u⟩:=w (i+1) (drop_cons f).2.1;rw[one f (by rw[H];rfl) (by rw[H];rfl)]
  exact⟨n+1,by omega,.ld H u⟩
 |an H _ w=>
  intro i f;obtain⟨n,G,u⟩:=w (i+1) (drop_cons f).2.1;rw[one f (by rw[H];rfl) (by rw[H];rfl)]
  exact⟨n+1,by omega,.an H u⟩
 |tx H _ w=>
  intro i f;obtain⟨n,G,u⟩:=w (i+1) (drop_cons f).2.1;rw[one f (by rw[H];rfl) (by rw[H];rfl)]
  exact⟨n+1,by omega,.tx H u⟩
 |rt H=>
  intro i f;rw[one f (by rw[H];rfl) (by rw[H];rfl)]
  exact⟨1,ar _,.rt H⟩
 |@ja x t A v n H Y w=>
  intro i f;obtain⟨z,E,T⟩:=drop_cons f;obtain⟨p,J,K,F⟩:=F9 h z;have Q:=Y.ne;rw[<-E]at Q;obtain⟨m,y,t2,X,M⟩:=TG u h ((IE u z).1 H) Q;rw[E]at M;obtain⟨g,G,D⟩:=w m M.symm;have hp:p=(false,false):=h.plain i x p z J (by rw[H];rfl)
  have I:=Ga h T;have a2:=ud (q:=k.cz) t2 (by rw[h.fl];omega)
  have a3:=pb m X;have o:=AZ J;rw[hp]at o;have o:eW k.cz (i+1)=eW k.cz i+1:=o;rw[K,fR,H];show∃n,_/\ke wd (⟨5,0,0,wrap .u32 (kf k i x.t-yK k i-1)⟩::_) A v n
  rw[y,I,IF ⟨by omega,by omega⟩]
  refine⟨g+1,by omega,.ja rfl ?_⟩
  show ke wd (drop ((eW k.cz m:Int)-eW k.cz i-1).toNat (drop (eW k.cz (i+1)) _)) A v g
  rw[fE,show eW k.cz (i+1)+((eW k.cz m:Int)-eW k.cz i-1).toNat=eW k.cz m by omega]
  exact D
 |@jp x t A v n H Y w=>
  intro i f;obtain⟨z,E,T⟩:=drop_cons f;obtain⟨p,J,K,F⟩:=F9 h z;have Q:=Y.ne;have R:=(IE u z).2 H;rw[<-E]at Q;have a1:(ie (dj l).2 i (bif jc x.code A x.k then x.t else x.f)).2=true:=by
   cases jc x.code A x.k
   .exact R.2
   .exact R.1
  obtain⟨m,y,t2,X,M⟩:=TG u h a1 Q;rw[E]at M;obtain⟨g,G,D⟩:=w m M.symm;have I:=Ga h T;have a2:=ud (q:=k.cz) t2 (by rw[h.fl];omega)
  have a3:=pb m X;have o:=AZ J;obtain⟨a,b⟩:=p;have a4:(countP (a,b)).toNat=(bif a then 1 else 0)+(bif b then 1 else 0)+1:=by cases a<;>cases b<;>rfl
  rw[a4]at o;rw[K,fR,C5 H,aj,o9];have fin:∀(d:Nat)(Z:List In),Z.drop d=(dF k l k.cz 0).drop (eW k.cz m)->ke wd (Z.drop d) A v g:=fun d Z e=>by rw[e];exact D
  cases ht:jc x.code A x.k<;>rw[ht]at y
  .rw[af]at y
   cases b
   .refine⟨g+1,by omega,.jp H ?_⟩
    show ke wd (drop (bif jc x.code A x.k then _ else(kf k i x.f-yK k i-1:Int)).toNat _) A v g
    rw[ht,af,y,I];refine fin _ _ ?_;cases a
    .show drop _ (drop (eW k.cz (i+1)) _)=_
     rw[fE,show eW k.cz (i+1)+((eW k.cz m:Int)-eW k.cz i-1).toNat=eW k.cz m by simp at o;omega]
    .show drop _ (_::drop (eW k.cz (i+1)) _)=_
     have hm:eW k.cz (i+1)<=eW k.cz m:=by
      rcases bU (i+1) m with r|r
      .exact Nat.le_of_lt (ud r (by rw[h.fl];omega))
      .rw[show m=i+1 by omega];exact ar _
     simp at o;rw[show((eW k.cz m:Int)-eW k.cz i-1).toNat=(eW k.cz m-eW k.cz (i+1))+1 by omega,so,fE]
     rw[show eW k.cz (i+1)+(eW k.cz m-eW k.cz (i+1))=eW k.cz m by omega]
   .have hm:eW k.cz (i+1)<=eW k.cz m:=by
     rcases bU (i+1) m with r|r
     .exact Nat.le_of_lt (ud r (by rw[h.fl];omega))
     .rw[show m=i+1 by omega];exact ar _
    refine⟨g+1+1,by omega,.jp H ?_⟩
    show ke wd (drop (bif jc x.code A x.k then _ else(bif a then 1 else 0:Int)).toNat _) A v (g+1)
    rw[ht,af,y,I];cases a
    .simp at o
     refine .ja rfl ?_;show ke wd (drop (wrap .u32 ((eW k.cz m:Int)-eW k.cz i-1-1)).toNat (drop (eW k.cz (i+1)) _)) A v g
     rw[IF ⟨by omega,by omega⟩,fE,show eW k.cz (i+1)+((eW k.cz m:Int)-eW k.cz i-1-1).toNat=eW k.cz m by omega]
     exact D
    .simp at o
     refine .ja rfl ?_;show ke wd (drop (wrap .u32 ((eW k.cz m:Int)-eW k.cz i-2-1)).toNat (drop (eW k.cz (i+1)) _)) A v g
     rw[IF ⟨by omega,by omega⟩,fE,show eW k.cz (i+1)+((eW k.cz m:Int)-eW k.cz i-2-1).toNat=eW k.cz m by omega]
     exact D
  .rw[aj]at y
   have hm:eW k.cz (i+1)<=eW k.cz m:=by
    rcases bU (i+1) m with r|r
    .exact Nat.le_of_lt (ud r (by rw[h.fl];omega))
    .rw[show m=i+1 by omega];exact ar _
   cases a
   .refine⟨g+1,by omega,.jp H ?_⟩
    show ke wd (drop (bif jc x.code A x.k then(kf k i x.t-yK k i-1:Int)else _).toNat _) A v g
    rw[ht,aj,y,I];refine fin _ _ ?_;cases b
    .show drop _ (drop (eW k.cz (i+1)) _)=_
     simp at o;rw[fE,show eW k.cz (i+1)+((eW k.cz m:Int)-eW k.cz i-1).toNat=eW k.cz m by omega]
    .show drop _ (_::drop (eW k.cz (i+1)) _)=_
     simp at o;rw[show((eW k.cz m:Int)-eW k.cz i-1).toNat=(eW k.cz m-eW k.cz (i+1))+1 by omega,so,fE]
     rw[show eW k.cz (i+1)+(eW k.cz m-eW k.cz (i+1))=eW k.cz m by omega]
   .refine⟨g+1+1,by omega,.jp H ?_⟩
    show ke wd (drop (bif jc x.code A x.k then(0:Int)else _).toNat _) A v (g+1)
    rw[ht,aj,y,I];refine .ja rfl ?_;cases b
    .simp at o
     show ke wd (drop (wrap .u32 ((eW k.cz m:Int)-eW k.cz i-1-1)).toNat (drop (eW k.cz (i+1)) _)) A v g
     rw[IF ⟨by omega,by omega⟩,fE,show eW k.cz (i+1)+((eW k.cz m:Int)-eW k.cz i-1-1).toNat=eW k.cz m by omega]
     exact D
    .simp at o
     show ke wd (drop (wrap .u32 ((eW k.cz m:Int)-eW k.cz i-1-1)).toNat (_::drop (eW k.cz (i+1)) _)) A v g
     rw[IF ⟨by omega,by omega⟩,show((eW k.cz m:Int)-eW k.cz i-1-1).toNat=(eW k.cz m-eW k.cz (i+1))+1 by omega,so,fE]
     rw[show eW k.cz (i+1)+(eW k.cz m-eW k.cz (i+1))=eW k.cz m by omega]
     exact D
end
def OX(h:gx l=(code,0))(H:BS wd l A v c):∃n,n<=c/\ke wd code A v n:=by
 unfold gx at h;cases h1 : !(dj l).1<;>rw[h1]at h
 .rw[af]at h
  cases h2:decide ((l.length:Int)>4096)<;>rw[h2]at h
  .rw[af]at h
   cases h3:decide (((vz l).length:Int)>4096)<;>rw[h3]at h
   .have ok:=C2 l
    have e:vz l=code:=(mP h).1;have a:eW (fK l).cz l.length<=2^30:=by
     have g:l.length<=4096:=by have:=bI h2;omega
     have f:=ok.fl;have:∀q:List (Bool×Bool),(q.map fun p=>(countP p).toNat).sum<=3*q.length:=by
      intro q;induction q with
      |nil=>simp
      |cons p q i=>have:=nB p;simp only[bH,eZ,aE];omega
     have:=this ((fK l).cz.take l.length);rw[oK]at this;unfold eW;omega
    obtain⟨n,b,d⟩:=TH (by simpa using h1) ok a H 0 rfl
    exact⟨n,b,by rw[<-e];exact d⟩
   .have:=(mP h).2;simp at this
  .have:=(mP h).2;simp at this
 .have:=(mP h).2;simp at this
end
abbrev Db(a:Rw)(b c d e f g i j k l m n o p q s t u v w x y z D E G I J K:Int)r h:=Lp f36 0 ⟨aO 56 [(0,vL 4 a),(7,.aB 0 0),(15,vN b)],[],[K5 c d e f g i j k l m n o p q s t u v w x y z D E G I J K]⟩ 0 r h
def A36:bu:={an:=[(5,6,aa),(5,7,aa),(5,8,aa),(5,9,aa),(5,10,aa),(5,11,aa),(5,12,aa),(7,6,ah)],mod:=[(11,2,[(0,[0,1,2,3,4,5,6,7,8,9,10,11,12,13,14,15,16,17,18])])],cut:=[(3,{bl:=[0,7,15]})]}
def W36(H:Db a 0 0 0 0 0 0 0 0 0 0 0 0 0 0 0 0 0 0 0 0 b c d e f g i j k r h):
  al 36 [vL 4 a,.agg [W b,W c,U d,U e,U f,U g,U i,U j,U k]] [] r h:=.of func36 A36 H
def Xy(c0:aw (decide (a<4096)) (aw (bif(decide (b<0))then true else(decide (b>=(m.length:Int)))) (Fi r h [vW 0,vN a,vB false] [])
 (EP m b fun b4 b5 b6 b7=>Gw 61 [.aB 0 0,.agg [N b4,N b5,N b6,W b7]] [K5 n o p q s t u v w x y z D E G I J K b c d e f g i j k l] fun b8 b9=>aw b9 (au (a+1)/\Fi r h [vW b8,vN (a+1),vB true] [])
 (∃M Q T X Y Z H F A R a4 a5 a6 a7 a8 a9 b0 b1 b2 b3,al 62 [.aB 0 0,.agg [N b4,N b5,N b6,W b7]] [K5 n o p q s t u v w x y z D E G I J K b c d e f g i j k l] [vB M] [K5 Q T X Y Z H F A R a4 a5 a6 a7 a8 a9 b0 b1 b2 b3 c d e f g i j k l]/\aw (!M) (Fi r h [vW 0,vN a,vB false] [])
 (au (a+1)/\Db m (a+1) Q T X Y Z H F A R a4 a5 a6 a7 a8 a9 b0 b1 b2 b3 c d e f g i j k l r h))))
 (Fi r h [vW 0,vN 4096,vB false] [])):
  Db m a n o p q s t u v w x y z D E G I J K b c d e f g i j k l r h:=.of A36 c0
def A61:bu:={an:=[(5,4,aa),(5,5,aa),(5,6,aa),(5,7,aa),(5,8,aa)]}
def W61(H:aw (J==6) (Fi r h [vW K,vB true] [K5 a b c d e f g i j k l m n o p q s t u v w x y z D E G I])
 (aw (J==22) (Fi r h [vW a,vB true] [K5 a b c d e f g i j k l m n o p q s t u v w x y z D E G I])
 (Fi r h [vW 0,vB (bif(J==60)then(b==0)else false)] [K5 a b c d e f g i j k l m n o p q s t u v w x y z D E G I]))):
  al 61 [.aB 0 0,.agg [N J,N M,N Q,W K]] [K5 a b c d e f g i j k l m n o p q s t u v w x y z D E G I] r h:=.of func61 A61 H
abbrev MW(a b c d e f g i j k l m n o p q s t u v w x y z D E G I J K M Q T X:Int)r h:=Rp f62 6 ⟨aO 117 [(0,.aB 0 0),(3,.aB 1 0),(5,vN a),(6,vW b)],[],[K5 c d e f g i j k l m n o p q s t u v w x y z D E G I J K,.aH [vN M,vN Q,vN T,vW X]]⟩ 1 r h
def A62:bu:={an:=[(3,2,ah),(6,6,ah),(11,2,ah),(14,6,ah)],mod:=[(23,2,[(0,[0,1,2,3,4,5,6,7,8,9,10,11,12,13,14,15,16,17])])],join:=[(6,{bl:=[0,3,5,6]})]}
def W62(H:au (c+1)/\au (a-8)/\Gw 89 [vN (a-8),vW 1,vW 1] [] fun X T=>aw T (au (a-8)/\MW (a-8) b e b f g i j k l m n o p q s t u v w (c+1) x y z D E G I J K a M Q d r h)
 (MW a d e b f g i j k l m n o p q s t u v w (c+1) x y z D E G I J K a M Q d r h)):
  al 62 [.aB 0 0,.agg [N a,N M,N Q,W d]] [K5 e b f g i j k l m n o p q s t u v w c x y z D E G I J K] r h:=.of func62 A62 H
def MX(e4:Gw 89 [vN T,vW l,vW X] [] fun e2 e3=>aw e3 (Fi r h [vB true] [K5 e2 m n o p q s t u v w x y z D E G I a b c d e f g i j k])
 (au (J-8)/\∃e1 Y,al 90 [vN (J-8),vW 0,vW 0] [] [vB e1,vB Y] []/\aw Y (au (J-8)/\∃Z H,al 90 [vN (J-8),vW l,vW m] [] [vB Z,vB H] []/\aw H (aw Z (au (a+M)/\Fi r h [vB true] [K5 l m n o p q s t u v w x y z D E G I (a+M) b c d e f g i j k])
 (au (a+Q)/\Fi r h [vB true] [K5 l m n o p q s t u v w x y z D E G I (a+Q) b c d e f g i j k]))
 (aw (J==5) (au (a+(wrap .i64 K))/\Fi r h [vB true] [K5 l m n o p q s t u v w x y z D E G I (a+(wrap .i64 K)) b c d e f g i j k])
 (∃F A R a4 a5 a6 a7 a8 a9 b0 b1 b2 b3 b4 b5 b6 b7 b8 b9,al 91 [.aB 0 0,.agg [N J,N M,N Q,W K]] [K5 l m n o p q s t u v w x y z D E G I a b c d e f g i j k] [vB F] [K5 A R a4 a5 a6 a7 a8 a9 b0 b1 b2 b3 b4 b5 b6 b7 b8 b9 a b c d e f g i j k]/\Fi r h [vB F] [K5 A R a4 a5 a6 a7 a8 a9 b0 b1 b2 b3 b4 b5 b6 b7 b8 b9 a b c d e f g i j k])))
 (∃c0 c1,al 90 [vN J,vW l,vW K] [] [vB c0,vB c1] []/\aw c1 (aw c0 (au (a+M)/\Fi r h [vB true] [K5 l m n o p q s t u v w x y z D E G I (a+M) b c d e f g i j k])
 (au (a+Q)/\Fi r h [vB true] [K5 l m n o p q s t u v w x y z D E G I (a+Q) b c d e f g i j k]))
 (aw (J==5) (au (a+(wrap .i64 K))/\Fi r h [vB true] [K5 l m n o p q s t u v w x y z D E G I (a+(wrap .i64 K)) b c d e f g i j k])
 (∃c2 c3 c4 c5 c6 c7 c8 c9 d0 d1 d2 d3 d4 d5 d6 d7 d8 d9 e0,al 91 [.aB 0 0,.agg [N J,N M,N Q,W K]] [K5 l m n o p q s t u v w x y z D E G I a b c d e f g i j k] [vB c2] [K5 c3 c4 c5 c6 c7 c8 c9 d0 d1 d2 d3 d4 d5 d6 d7 d8 d9 e0 a b c d e f g i j k]/\Fi r h [vB c2] [K5 c3 c4 c5 c6 c7 c8 c9 d0 d1 d2 d3 d4 d5 d6 d7 d8 d9 e0 a b c d e f g i j k]))))):
  MW T X l m n o p q s t u v w x y z D E G I a b c d e f g i j k J M Q K r h:=yx.of A62 e4
def A89:bu:={}
def W89(H:aw (b==4) (Fi r h [vW (wrap .u32 (c+a)),vB true] [])
 (aw (b==20) (Fi r h [vW (wrap .u32 (c-a)),vB true] [])
 (aw (b==36) (Fi r h [vW (wrap .u32 (c*a)),vB true] [])
 (aw (b==52) (aw (a==0) (Fi r h [vW 0,vB false] [])
 (a≠0/\Fi r h [vW (wrap .u32 (tdiv c a)),vB true] []))
 (aw (b==68) (Fi r h [vW (cH .or .u32 c a),vB true] [])
 (aw (b==84) (Fi r h [vW (cH .and .u32 c a),vB true] [])
 (aw (b==164) (Fi r h [vW (cH .xor .u32 c a),vB true] [])
 (aw (b==100) ((32:Int)≠0/\0<=(tmod a 32)/\Fi r h [vW (wrap .u32 (c*2^(min (toNat (tmod a 32)) (IntKind.bits .u32)))),vB true] [])
 (aw (b==116) ((32:Int)≠0/\0<=(tmod a 32)/\Fi r h [vW (fdiv c (2^(min (toNat (tmod a 32)) (IntKind.bits .u32)))),vB true] [])
 (Fi r h [vW 0,vB false] [])))))))))):
  al 89 [vN b,vW c,vW a] [] r h:=.of func89 A89 H
def A90:bu:={}
def W90(H:aw (a==21) (Fi r h [vB (b==c),vB true] [])
 (aw (a==37) (Fi r h [vB (decide (b>c)),vB true] [])
 (aw (a==53) (Fi r h [vB (decide (b>=c)),vB true] [])
 (aw (a==69) (Fi r h [vB ((cH .and .u32 b c) !=0),vB true] [])
 (Fi r h [vB false,vB false] []))))):
  al 90 [vN a,vW b,vW c] [] r h:=.of func90 A90 H
def A91:bu:={an:=[(1,4,aa),(1,5,aa),(1,6,aa),(1,9,aa),(1,10,aa),(1,11,aa),(1,14,aa),(1,15,aa),(1,16,aa),(20,6,ah)],mod:=[(2,2,[(0,[0,1,2,3,4,5,6,7,8,9,10,11,12,13,14,15,16,17])])]}
def W91(b7:aw (bif(bif(bif(l==96)then true else(l==97))then true else(l==2))then true else(l==3)) (∃X Y Z H F A R a4 a5 a6 a7 a8 a9 b0 b1 b2 b3 b4 b5,al 127 [.aB 0 0,.agg [N l,N Q,N T,W K]] [K5 J I m n o p q s t u v w x y z D E G k a b c d e f g i j] [vB X] [K5 Y Z H F A R a4 a5 a6 a7 a8 a9 b0 b1 b2 b3 b4 b5 k a b c d e f g i j]/\Fi r h [vB X] [K5 Y Z H F A R a4 a5 a6 a7 a8 a9 b0 b1 b2 b3 b4 b5 k a b c d e f g i j])
 (aw (l==0) (Fi r h [vB true] [K5 K I m n o p q s t u v w x y z D E G k a b c d e f g i j])
 (aw (l==1) (Fi r h [vB true] [K5 J K m n o p q s t u v w x y z D E G k a b c d e f g i j])
 (aw (l==128) (Fi r h [vB true] [K5 64 I m n o p q s t u v w x y z D E G k a b c d e f g i j])
 (aw (l==129) (Fi r h [vB true] [K5 J 64 m n o p q s t u v w x y z D E G k a b c d e f g i j])
 (aw (l==7) (Fi r h [vB true] [K5 J J m n o p q s t u v w x y z D E G k a b c d e f g i j])
 (aw (l==135) (Fi r h [vB true] [K5 I I m n o p q s t u v w x y z D E G k a b c d e f g i j])
 (aw (l==132) (Fi r h [vB true] [K5 (wrap .u32 (0-J)) I m n o p q s t u v w x y z D E G k a b c d e f g i j])
 (aw (l==32) (Gw 128 [.agg [W a,W b,U c,U d,U e,U f,U g,U i,U j],vW K] [] fun b6 M=>aw M (Fi r h [vB M] [K5 b6 I m n o p q s t u v w x y z D E G k a b c d e f g i j])
 (Fi r h [vB M] [K5 J I m n o p q s t u v w x y z D E G k a b c d e f g i j]))
 (Fi r h [vB false] [K5 J I m n o p q s t u v w x y z D E G k a b c d e f g i j])))))))))):
  al 91 [.aB 0 0,.agg [N l,N Q,N T,W K]] [K5 J I m n o p q s t u v w x y z D E G k a b c d e f g i j] r h:=.of func91 A91 b7
structure Da where
 nr:Int
 aq:Int
 ip:Int
 a0:Int
 a1:Int
 a2:Int
 a3:Int
 a4:Int
 a5:Int
abbrev UJ(d:Da):AV:=.agg [W d.nr,W d.aq,U d.ip,U d.a0,U d.a1,U d.a2,U d.a3,U d.a4,U d.a5]
def kG(n:Int)(i:Nat):Int:=wrap .u8 (fdiv n (2^(min (toNat ((8:Int)*i)) (IntKind.bits .u64))))
def iJ(n:Int):Nat->Nat->List Int
 |0,_=>[]
 |k+1,i=>kG n i::iJ n k (i+1)
def vG(a b:List Int):gX a++gX b=gX (a++b):=(bM ..).symm
def Gb(z:List Int):(gX z).length=z.length:=ao ..
def ZN(n:Int)(k:Nat)(e:k<=8):al 242 [vU n,vN k] [] [.own 0 0 1 (gX (iJ n k 0))] []:=by
 have key:∀(m i:Nat)(a:List Int),i+m=k->a.length=i->F6 n (gX a) k i [.own 0 0 1 (gX (a++iJ n m i))] []:=by
  intro m;induction m with
  |zero=>intro i a b _;apply TA;exact aU (bV (by omega)) (ai (by simp[iJ]) rfl)
  |succ m c=>
   intro i a b f;apply TA;refine bt (bE (by omega)) ⟨aC,by omega,by simp[gX];omega,aC,?_⟩
   have:=c (i+1) (a++[kG n i]) (by omega) (by simp;omega)
   rw[bp]at this;rw[<-vG]at this;exact this
 apply ak4;exact key k 0 [] (by omega) rfl
def pf(d:Da):List Int:=iJ d.nr 4 0++iJ d.aq 4 0++iJ d.ip 8 0++iJ d.a0 8 0++iJ d.a1 8 0++iJ d.a2 8 0++iJ d.a3 8 0++iJ d.a4 8 0++iJ d.a5 8 0
structure Dc (d:Da):Prop where
 nr:0<=d.nr/\d.nr<4294967296
 aq:0<=d.aq/\d.aq<4294967296
 ip:0<=d.ip/\d.ip<18446744073709551616
 a0:0<=d.a0/\d.a0<18446744073709551616
 a1:0<=d.a1/\d.a1<18446744073709551616
 a2:0<=d.a2/\d.a2<18446744073709551616
 a3:0<=d.a3/\d.a3<18446744073709551616
 a4:0<=d.a4/\d.a4<18446744073709551616
 a5:0<=d.a5/\d.a5<18446744073709551616
def qD(a:0<=n)(b:n<18446744073709551616):wrap .u64 n=n:=by simp[wrap,IntKind.signed,IntKind.bits];omega
def dX(n:Int):∀k i,(iJ n k i).length=k
 |0,_=>rfl
 |k+1,i=>by rw[iJ,aE,dX n k]
def w9(d:Da):(pf d).length=64:=by simp[pf,dX]
def ak9(d:Da)(h:Dc d):al 177 [UJ d] [] [vL 1 (gX (pf d))] []:=by
 have e:∀n,al 242 [vU n,vN 8] [] [vL 1 (gX (iJ n 8 0))] []:=fun n=>Go.Ac.al.soft (ZN n 8 (by decide)) rfl
 have w:al 177 [UJ d] [] [.own 0 0 1 (gX (pf d))] []:=by
  apply ak3;rw[qD h.nr.1 (by have:=h.nr.2;omega),qD h.aq.1 (by have:=h.aq.2;omega)]
  refine⟨_,ZN d.nr 4 (by decide),_,Go.Ac.al.soft (ZN d.aq 4 (by decide)) rfl,?_,_,e d.ip,?_,?_⟩
  .simp[gX,dX]
  .simp[gX,dX]
  .rw[vG,vG]
   have a:∀(i:Nat)(b:List Int)(x:Int){r:List AV}{c:List Bx},i<6->b.length<=100->([U d.a0,U d.a1,U d.a2,U d.a3,U d.a4,U d.a5]:List PV)[i]?=some (U x)->AO (gX (b++iJ x 8 0)) d.a0 d.a1 d.a2 d.a3 d.a4 d.a5 ((i:Int)+1) r c ->
     AO (gX b) d.a0 d.a1 d.a2 d.a3 d.a4 d.a5 i r c:=by
    intro i b x r c g j f K;apply Tz;refine bt (bE (by omega)) ⟨x,⟨by omega,by omega⟩,f,_,e x,by simp[gX,dX];omega,aC,?_⟩
    rw[vG];exact K
   refine a 0 _ d.a0 (by decide) (by simp[dX]) rfl (a 1 _ d.a1 (by decide) (by simp[dX]) rfl (a 2 _ d.a2 (by decide) (by simp[dX]) rfl (a 3 _ d.a3 (by decide) (by simp[dX]) rfl (a 4 _ d.a4 (by decide) (by simp[dX]) rfl (a 5 _ d.a5 (by decide) (by simp[dX]) rfl ?_)))))
   apply Tz;exact aU rfl fi
 exact Go.Ac.al.soft w rfl
def gU(d:Da)(off:Int):Int:=wrap .u32 (ll (((pf d).take (off+4).toNat).drop off.toNat))
def vH(l:List Int)(a b:Nat):drop a (take b (gX l))=gX ((l.take b).drop a):=by simp[gX,iq,mR]
def ala(d:Da)(h:Dc d)(off:Int)(a:0<=off)(b:off%4=0)(e:off<=60):al 128 [UJ d,vW off] [] [vW (gU d off),vB true] []:=by
 apply ak2;have c:tmod off 4=0:=by rw[uG a];exact b
 refine⟨by decide,aU (by rw[c];simp;omega) ⟨_,ak9 d h,?_⟩⟩
 rw[AB (n:=off+4) (by omega) (by omega),Gb,w9,vH]
 refine⟨⟨a,by omega,by omega⟩,_,C58 _ ?_,ai ?_ rfl⟩
 .rw[iv,oK,w9];omega
 .rfl
def TI(b:List Int):Da:=
 ⟨wrap .u32 (ll ((b.take 4).drop 0)),wrap .u32 (ll ((b.take 8).drop 4)),ll ((b.take 16).drop 8),ll ((b.take 24).drop 16),ll ((b.take 32).drop 24),ll ((b.take 40).drop 32),ll ((b.take 48).drop 40),ll ((b.take 56).drop 48),ll ((b.take 64).drop 56)⟩
def C34(b:List Int)(T:b.length=64):al 34 [vL 1 (gX b)] [] [UJ (TI b),vN 0] []:=by
 have e:∀(i j:Nat),al 58 [vL 1 (gX ((b.take j).drop i))] [] [vU (ll ((b.take j).drop i))] []:=fun i j=>C58 _ (by rw[iv,oK];omega)
 have hlen:(gX b).length=64:=(Gb b).trans T;apply W34;rw[hlen];refine aU rfl ⟨⟨by omega,by omega,by omega⟩,_,by rw[vH];exact e 0 4,⟨by omega,by omega,by omega⟩,_,by rw[vH];exact e 4 8,⟨by omega,by omega,by omega⟩,_,by rw[vH];exact e 8 16,?_⟩
 have a:∀(i:Nat)(c o p q s t u v w x y z D E G H I J f g k l m n:Int){r:List AV}{h:List Bx},i<6 ->
   putAt ([vW x,vW y,vU z,vU D,vU E,vU G,vU H,vU I,vU J]:List AV) (3+i*1+0) [vU (ll ((b.take (24+8*i)).drop (16+8*i)))]=[vW x,vW y,vU z,vU f,vU g,vU k,vU l,vU m,vU n]->
   Iw (gX b) ((i:Int)+1) c o p q s t u v w x y z f g k l m n r h->Iw (gX b) i c o p q s t u v w x y z D E G H I J r h:=by
  intro i c o p q s t u v w x y z D E G H I J f g k l m n r h Y X K;apply Xv;rw[hlen];have M:toNat ((16:Int)+((8:Int)*(i:Int)))=16+8*i:=by omega
  have Q:toNat ((24:Int)+((8:Int)*(i:Int)))=24+8*i:=by omega
  refine bt (bE (by omega)) ⟨aC,aC,aC,aC,⟨by omega,by omega,by omega⟩,_,?_,⟨by omega,by omega⟩,f,g,k,l,m,n,by omega,X,aC,K⟩
  rw[M,Q,vH];exact e _ _
 refine a 0 _ _ _ _ _ _ _ _ _ _ _ _ _ _ _ _ _ _ _ _ _ _ _ _ (by decide) rfl (a 1 _ _ _ _ _ _ _ _ _ _ _ _ _ _ _ _ _ _ _ _ _ _ _ _ (by decide) rfl (a 2 _ _ _ _ _ _ _ _ _ _ _ _ _ _ _ _ _ _ _ _ _ _ _ _ (by decide) rfl (a 3 _ _ _ _ _ _ _ _ _ _ _ _ _ _ _ _ _ _ _ _ _ _ _ _ (by decide) rfl
  (a 4 _ _ _ _ _ _ _ _ _ _ _ _ _ _ _ _ _ _ _ _ _ _ _ _ (by decide) rfl (a 5 _ _ _ _ _ _ _ _ _ _ _ _ _ _ _ _ _ _ _ _ _ _ _ _ (by decide) rfl ?_)))))
 apply Xv;exact aU rfl (ai rfl rfl)
def VS(c a k:Int)(h:([4,20,36,52,68,84,164,100,116]:List Int).all (fun z => !(c==z))=true):al 89 [vN c,vW a,vW k] [] [vW 0,vB false] []:=by
 simp only[bG,mQ,Bool.and_true,cb,gM]at h;obtain⟨b,e,f,g,i,j,l,m,n⟩:=h;apply W89;exact aU b (aU e (aU f (aU g (aU i (aU j (aU l (aU m (aU n fi))))))))
def alb(a k:Int):al 89 [vN 84,vW a,vW k] [] [vW (OU a k),vB true] []:=by
 apply W89;exact aU rfl (aU rfl (aU rfl (aU rfl (aU rfl (bt rfl fi)))))
def TJ(c a k:Int)(h:([21,37,53,69]:List Int).all (fun z => !(c==z))=true):al 90 [vN c,vW a,vW k] [] [vB false,vB false] []:=by
 simp only[bG,mQ,Bool.and_true,cb,gM]at h;obtain⟨b,e,f,g⟩:=h;apply W90;exact aU b (aU e (aU f (aU g fi)))
def xa(h:TB c=true):c=21\/c=37\/c=53:=by
 unfold TB at h;cases h1:c==21
 .cases h2:c==37
  .rw[h1,h2]at h
   exact .inr (.inr (eq_of_beq h))
  .exact .inr (.inl (eq_of_beq h2))
 .exact .inl (eq_of_beq h1)
def alc(c a k:Int)(h:TB c=true):al 90 [vN c,vW a,vW k] [] [vB (jc c a k),vB true] []:=by
 apply W90;rcases xa h with rfl|rfl|rfl
 .exact bt rfl fi
 .exact aU rfl (bt rfl fi)
 .exact aU rfl (aU rfl (bt rfl fi))
abbrev ms(A pc:Int)(d:Da):Bx:=K5 A 0 0 0 0 0 0 0 0 0 0 0 0 0 0 0 0 0 pc d.nr d.aq d.ip d.a0 d.a1 d.a2 d.a3 d.a4 d.a5
def ZO(d:Da)(h:Dc d)(A pc:Int)(x:In)(c:x.code=32)(a:0<=x.k)(b:x.k%4=0)(e:x.k<=60):al 91 [.aB 0 0,MS x] [ms A pc d] [vB true] [ms (gU d x.k) pc d]:=by
 apply W91;rw[c];exact aU rfl (aU rfl (aU rfl (aU rfl (aU rfl (aU rfl (aU rfl (aU rfl (bt rfl ⟨_,_,ala d h x.k a b e,bt rfl fi⟩))))))))
def VT(d:Da)(A pc:Int)(x:In)(a:x.code=135):al 91 [.aB 0 0,MS x] [ms A pc d] [vB true] [ms 0 pc d]:=by
 apply W91;rw[a];exact aU rfl (aU rfl (aU rfl (aU rfl (aU rfl (aU rfl (bt rfl fi))))))
structure ROK (x:In):Prop where
 k:0<=x.k/\x.k<4294967296
 jt:0<=x.jt/\x.jt<=255
 jf:0<=x.jf/\x.jf<=255
 ld:x.code=32->x.k%4=0/\x.k<=60
section
variable {d:Da} {A pc:Int} {x:In}
def Gc(code k:Int)(f:0<=pc/\pc<=2^40)(i:∃c e,x.code=c/\x.k=e/\code=c/\k=e)(b:MW x.code x.k A 0 0 0 0 0 0 0 0 0 0 0 0 0 0 0 0 0 (pc+1) d.nr d.aq d.ip d.a0 d.a1 d.a2 d.a3 d.a4 d.a5 x.code x.jt x.jf x.k r h)(a:([4,20,36,52,68,84,164,100,116]:List Int).all (fun z => !(x.code-8==z))=true)(g : -1000<=x.code/\x.code<=100000):al 62 [.aB 0 0,MS x] [ms A pc d] r h:=by
 apply W62;exact⟨aC,aC,_,_,VS _ 1 1 a,aU rfl b⟩
end
def VU(d:Da)(A pc:Int)(x:In)(b:0<=pc/\pc<=2^40)(a:x.code=84):al 62 [.aB 0 0,MS x] [ms A pc d] [vB true] [ms (OU A x.k) (pc+1) d]:=by
 refine Gc 84 x.k b ⟨_,_,a,rfl,rfl,rfl⟩ ?_ (by rw[a];decide) (by omega)
 rw[a];apply MX;exact⟨_,_,alb A x.k,bt rfl fi⟩
def IG(d:Da)(A B pc:Int)(x:In)(b:0<=pc/\pc<=2^40)(a:x.code=32\/x.code=135)(c:al 91 [.aB 0 0,MS x] [ms A (pc+1) d] [vB true] [ms B (pc+1) d]):al 62 [.aB 0 0,MS x] [ms A pc d] [vB true] [ms B (pc+1) d]:=by
 refine Gc x.code x.k b ⟨_,_,rfl,rfl,rfl,rfl⟩ ?_ (by rcases a with h|h<;>rw[h]<;>decide) (by omega)
 apply MX;exact⟨_,_,VS x.code A x.k (by rcases a with h|h<;>rw[h]<;>decide),aU rfl ⟨aC,_,_,TJ (x.code-8) 0 0 (by rcases a with h|h<;>rw[h]<;>decide),aU rfl ⟨_,_,TJ x.code A x.k (by rcases a with h|h<;>rw[h]<;>decide),aU rfl
  (aU (by rcases a with h|h<;>rw[h]<;>rfl) ⟨_,_,_,_,_,_,_,_,_,_,_,_,_,_,_,_,_,_,_,c,fi⟩)⟩⟩⟩
def ZP(d:Da)(A pc:Int)(x:In)(b:0<=pc/\pc<=2^40)(a:x.code=5)(c:ROK x):al 62 [.aB 0 0,MS x] [ms A pc d] [vB true] [ms A (pc+1+x.k) d]:=by
 have:=c.k;refine Gc 5 x.k b ⟨_,_,a,rfl,rfl,rfl⟩ ?_ (by rw[a];decide) (by omega)
 rw[a];apply MX;rw[rW (n:=x.k) (by omega) (by omega)]
 exact⟨_,_,VS 5 A x.k (by decide),aU rfl ⟨aC,_,_,TJ (5-8) 0 0 (by decide),aU rfl ⟨_,_,TJ 5 A x.k (by decide),aU rfl (bt rfl ⟨aC,fi⟩)⟩⟩⟩
def ZQ(d:Da)(A pc:Int)(x:In)(e:0<=pc/\pc<=2^40)(b:TB x.code=true)(c:ROK x):al 62 [.aB 0 0,MS x] [ms A pc d] [vB true] [ms A (pc+1+(bif jc x.code A x.k then x.jt else x.jf)) d]:=by
 have g:=c.jt;have f:=c.jf;have a:=xa b;refine Gc x.code x.k e ⟨_,_,rfl,rfl,rfl,rfl⟩ ?_ (by rcases a with h|h|h<;>rw[h]<;>decide) (by omega)
 apply MX;exact⟨_,_,VS x.code A x.k (by rcases a with h|h|h<;>rw[h]<;>decide),aU rfl ⟨aC,_,_,TJ (x.code-8) 0 0 (by rcases a with h|h|h<;>rw[h]<;>decide),aU rfl ⟨_,_,alc x.code A x.k b,bt rfl
  (ad (fun h=>⟨aC,ai rfl (by rw[h];rfl)⟩) fun h=>⟨aC,ai rfl (by rw[h];rfl)⟩)⟩⟩⟩
def C61(d:Da)(A pc:Int)(x:In)(a:(x.code==22)=false)(b:(x.code==60)=false):al 61 [.aB 0 0,MS x] [ms A pc d] [vW (bif x.code==6 then x.k else 0),vB (x.code==6)] [ms A pc d]:=by
 apply W61;exact ad (fun h=>ai (by rw[h];rfl) rfl) fun h=>aU a (ai (by rw[h,b];rfl) rfl)
def Ls(l:List In)(d:Da)(z:Dc d)(M:l.length<=4096)(q:∀x∈l,ROK x)(H:ke (gU d) t A v m):∀(i n:Nat),l.drop i=t->n+m<=4096 ->
  Db (l.map In.row) n A 0 0 0 0 0 0 0 0 0 0 0 0 0 0 0 0 0 i d.nr d.aq d.ip d.a0 d.a1 d.a2 d.a3 d.a4 d.a5 [vW v,vN ((n+m:Nat):Int),vB true] []:=by
 have u:(l.map In.row).length=l.length:=ao ..;have step:∀{x:In}{t:List In}{A v B:Int}{m:Nat}{i n j:Nat},l.drop i=x::t->n+(m+1)<=4096->(x.code==22)=false->(x.code==60)=false->(x.code==6)=false->al 62 [.aB 0 0,MS x] [ms A i d] [vB true] [ms B j d]->
   Db (l.map In.row) ((n:Int)+1) B 0 0 0 0 0 0 0 0 0 0 0 0 0 0 0 0 0 j d.nr d.aq d.ip d.a0 d.a1 d.a2 d.a3 d.a4 d.a5 [vW v,vN ((n+1+m:Nat):Int),vB true] []->
   Db (l.map In.row) n A 0 0 0 0 0 0 0 0 0 0 0 0 0 0 0 0 0 i d.nr d.aq d.ip d.a0 d.a1 d.a2 d.a3 d.a4 d.a5 [vW v,vN ((n+(m+1):Nat):Int),vB true] []:=by
  intro x t A v B m i n j b f D E y r K;obtain⟨c,e,o⟩:=drop_cons b;have p:=C61 d A i x D E;rw[y]at p;apply Xy;rw[u];refine bt (bE (by omega)) (aU (by rw[bV (by omega),af];exact bV (by omega)) ⟨x.code,x.jt,x.jf,x.k,by omega,aQ c,_,_,p,aU rfl ⟨_,_,_,_,_,_,_,_,_,_,_,_,_,_,_,_,_,_,_,_,r,aU rfl ⟨aC,?_⟩⟩⟩)
  rw[show n+(m+1)=n+1+m by omega]
  exact K
 induction H with
 |@ld x t A v m a _ k=>
  intro i n b f;obtain⟨c,e,o⟩:=drop_cons b;have g:=q x (aM c);have w:=g.ld a;exact step (j:=i+1) b f (by rw[a];rfl) (by rw[a];rfl) (by rw[a];rfl) (IG d A _ i x ⟨by omega,by omega⟩ (.inl a) (ZO d z A _ x a g.k.1 w.1 w.2)) (k (i+1) (n+1) e (by omega))
 |@an x t A v m a _ k=>
  intro i n b f;obtain⟨c,e,o⟩:=drop_cons b;exact step (j:=i+1) b f (by rw[a];rfl) (by rw[a];rfl) (by rw[a];rfl) (VU d A i x ⟨by omega,by omega⟩ a) (k (i+1) (n+1) e (by omega))
 |@tx x t A v m a _ k=>
  intro i n b f;obtain⟨c,e,o⟩:=drop_cons b;exact step (j:=i+1) b f (by rw[a];rfl) (by rw[a];rfl) (by rw[a];rfl) (IG d A _ i x ⟨by omega,by omega⟩ (.inr a) (VT d A _ x a)) (k (i+1) (n+1) e (by omega))
 |@rt x t A a=>
  intro i n b f;obtain⟨c,e,o⟩:=drop_cons b;have p:=C61 d A i x (by rw[a];rfl) (by rw[a];rfl)
  rw[show(x.code==6)=true by rw[a];rfl]at p
  apply Xy;rw[u];exact bt (bE (by omega)) (aU (by rw[bV (by omega),af];exact bV (by omega)) ⟨x.code,x.jt,x.jf,x.k,by omega,aQ c,_,_,p,bt rfl ⟨aC,ai rfl rfl⟩⟩)
 |@ja x t A v m a G k=>
  intro i n b f;obtain⟨c,e,o⟩:=drop_cons b;have g:=q x (aM c);have T:=g.k;have K:=k (i+1+x.k.toNat) (n+1) (by rw[<-e,fE]) (by omega)
  have cs:=ZP d A i x ⟨by omega,by omega⟩ a g
  rw[show(i:Int)+1+x.k=((i+1+x.k.toNat:Nat):Int) by omega]at cs
  exact step b f (by rw[a];rfl) (by rw[a];rfl) (by rw[a];rfl) cs K
 |@jp x t A v m a G k=>
  intro i n b f;obtain⟨c,e,o⟩:=drop_cons b;have g:=q x (aM c);have Q:=g.jt;have J:=g.jf;have K:=k (i+1+(bif jc x.code A x.k then x.jt else x.jf).toNat) (n+1) (by rw[<-e,fE]) (by omega)
  have cs:=ZQ d A i x ⟨by omega,by omega⟩ a g
  have I:0<=(bif jc x.code A x.k then x.jt else x.jf):=by cases jc x.code A x.k<;>simp only[aj,af]<;>omega
  generalize(bif jc x.code A x.k then x.jt else x.jf)=j at*;rw[show(i:Int)+1+j=((i+1+j.toNat:Nat):Int) by omega]at cs
  have s:=xa a;exact step b f (by rcases s with h|h|h<;>rw[h]<;>rfl) (by rcases s with h|h|h<;>rw[h]<;>rfl) (by rcases s with h|h|h<;>rw[h]<;>rfl) cs K
def C36(l:List In)(d:Da)(a:Dc d)(c:l.length<=4096)(b:∀x∈l,ROK x)(H:ke (gU d) l 0 v m):al 36 [vL 4 (l.map In.row),UJ d] [] [vW v,vN m,vB true] []:=by
 apply W36;have:=Ls l d a c b H 0 0 rfl (by have:=H.len;omega)
 rw[cy]at this;exact this
section
variable {wd:Int->Int}
def jZ(a:Act):∀(p q:List Sp),eu wd a (p++q)=eu wd (eu wd a q) p
 |[],q=>rfl
 |s::p,q=>by rw[dm,eu,eu,jZ a p q]
def IH(h:oh a=true):AU wd a=true:=by
 obtain⟨c,d,b⟩:=mU.1 h;refine mU.2 ⟨c,d,?_⟩;have:c=[]:=hX.1 (by have:=eq_of_beq b;omega)
 rw[this];rfl
def OY(a:Act)(l:List Sp)(s:Sp):eu wd a (ny l s)=eu wd a (l++[s]):=by
 unfold ny;cases h0:(s.cl.length:Int)==0
 .rw[af]
  cases hl:decide ((l.length:Int)>0)
  .rfl
  .rw[aj]
   cases he:oh (l.getLastD ⟨[],⟨0,0⟩⟩).cl
   .rfl
   .rw[aj]
    have c:l≠[]:=by intro h;rw[h]at hl;simp at hl
    have e:l=l.dropLast++[l.getLastD ⟨[],⟨0,0⟩⟩]:=by
     have:=(yO c).symm;rw[km,jF c];exact this
    have d:=IH (wd:=wd) he;have k:∀b,eu wd b [l.getLastD ⟨[],⟨0,0⟩⟩]=(l.getLastD ⟨[],⟨0,0⟩⟩).act:=fun b=>by rw[eu,d];rfl
    rw[jZ a l [s]];generalize l.getLastD ⟨[],⟨0,0⟩⟩=z at*;rw[e,jZ,jZ,k,k]
 .have:s.cl=[]:=hX.1 (by have:=eq_of_beq h0;omega)
  rw[aj,jZ,eu,this];rfl
def me(nr:Int)(a:List Bd):List Sp:=(a.filter fun b=>nr==b.nr).map fun b=>⟨(cv b.cond).1,b.act⟩
def fq(m:List Mk)(nr:Int):List Sp:=((gG m nr).map (·.2)).getD []
def II(x:Mk)(k:Int):∀(m:List Mk),gG (o8 x m) k=bif k==x.1 then some x else gG m k
 |[]=>by
  unfold o8 gG;rw[cj];cases k==x.1<;>rfl
 |y::m=>by
  have a:=II x k m;unfold o8;unfold gG at a⊢;cases h:x.1==y.1
  .rw[af,cj,cj,a]
   cases h2:k==y.1
   .rfl
   .cases h3:k==x.1
    .rfl
    .rw[eq_of_beq h2]at h3
     have:=eq_of_beq h3;rw[this]at h;simp at h
  .rw[aj,cj,cj]
   have e:=eq_of_beq h;rw[<-e];cases k==x.1<;>rfl
def A0:∀(d:List Bd)(m c:List Mk),cS d m = .ok c->∀nr a,eu wd a (fq c nr)=eu wd a (fq m nr++me nr d)
 |[],m,c,h,nr,a=>by
  have:m=c:=by simpa[cS]using h
  rw[this,show me nr []=[]from rfl,fa]
 |b::t,m,c,h,nr,a=>by
  unfold cS at h;cases h1 : !(cd b.act).2<;>rw[h1]at h
  .cases h2:(cv b.cond).2 !=0<;>rw[h2]at h
   .rw[af,af]at h
    rw[A0 t _ _ h nr a];unfold fq me;rw[II,List.filter_cons];cases hk:nr==b.nr
    .rfl
    .rw[aj,aJ rfl,bH]
     rw[show(Option.map (fun x:Mk=>x.2) (some (b.nr,ny ((Option.map (fun x:Mk=>x.2) (gG m b.nr)).getD []) ⟨(cv b.cond).1,b.act⟩))).getD []=ny ((Option.map (fun x:Mk=>x.2) (gG m b.nr)).getD []) ⟨(cv b.cond).1,b.act⟩from rfl]
     rw[jZ,OY,<-jZ,bp,eq_of_beq hk];rfl
   .simp at h
  .simp at h
def VV(h:∀x∈l,x.cl≠[]):∀x∈ny l s,x.cl≠[]:=by
 unfold ny;cases h0:(s.cl.length:Int)==0
 .have c:s.cl≠[]:=by intro b;rw[b]at h0;simp at h0
  have a:∀x∈l++[s],x.cl≠[]:=fun x a=>by
   rcases bn.1 a with a|a
   .exact h x a
   .simp at a;subst a;exact c
  rw[af];cases decide ((l.length:Int)>0)
  .exact a
  .cases oh (l.getLastD ⟨[],⟨0,0⟩⟩).cl
   .exact a
   .exact h
 .exact h
structure VW (bs:List Bd) (m m':List Mk):Prop where
 nodup:(m'.map (·.1)).Nodup
 keys:∀k∈m'.map (·.1),k∈m.map (·.1)\/∃b∈bs,b.nr=k
 ne:∀y∈m',∀s∈y.2,s.cl≠[]
def vI:∀(j:List Bd)(m d:List Mk),cS j m = .ok d->(m.map (·.1)).Nodup->(∀y∈m,∀s∈y.2,s.cl≠[])->VW j m d
 |[],m,d,h,g,f=>by
  have:m=d:=by simpa[cS]using h
  subst this;exact⟨g,fun k c=>.inl c,f⟩
 |b::t,m,d,h,g,f=>by
  unfold cS at h;cases h1 : !(cd b.act).2<;>rw[h1]at h
  .cases h2:(cv b.cond).2 !=0<;>rw[h2]at h
   .rw[af,af]at h
    have o:∀s∈fq m b.nr,s.cl≠[]:=by
     unfold fq;cases hg:gG m b.nr with
     |none=>simp
     |some y=>exact f y (lX hg).1
    have c:∀k∈(o8 (b.nr,ny (fq m b.nr) ⟨(cv b.cond).1,b.act⟩) m).map (·.1),k∈m.map (·.1)\/k=b.nr:=fun k c=>by
     obtain⟨y,a,rfl⟩:=bh.1 c;rcases lW a with rfl|a
     .exact .inr rfl
     .exact .inl (DV a)
    have i:=vI t _ _ h (tP g) fun y a=>by
     rcases lW a with rfl|a
     .exact VV o
     .exact f y a
    refine⟨i.nodup,fun k n=>?_,i.ne⟩
    rcases i.keys k n with h|⟨b',l,e⟩
    .rcases c k h with h|rfl
     .exact .inl h
     .exact .inr ⟨b,aX,rfl⟩
    .exact .inr ⟨b',aW _ l,e⟩
   .simp at h
  .simp at h
def IJ:∀{l:List Int},l.Pairwise (· < ·)->n∉l->(nQ n l).Pairwise (· < ·)
 |[],_,_=>by simp[nQ]
 |m::l,h,d=>by
  obtain⟨c,f⟩:=lv.1 h;unfold nQ;have i:n≠m:=fun e=>d (by rw[e];exact aX)
  cases hd:decide (n<=m)
  .have:=bI hd
   rw[af];refine lv.2 ⟨fun k b=>?_,IJ f fun h=>d (aW _ h)⟩
   have:∀(l:List Int)k,k∈nQ n l->k=n\/k∈l:=by
    intro l;induction l with
    |nil=>intro k b;simp[nQ]at b;exact .inl b
    |cons a l g=>
     intro k b;unfold nQ at b;cases hd:decide (n<=a)<;>rw[hd]at b
     .rcases aZ.1 b with rfl|b
      .exact .inr aX
      .rcases g k b with h|h
       .exact .inl h
       .exact .inr (aW _ h)
     .rcases aZ.1 b with rfl|b
      .exact .inl rfl
      .exact .inr b
   rcases this l k b with rfl|b
   .omega
   .exact c k b
  .have:=aV hd
   rw[aj];refine lv.2 ⟨fun k b=>?_,h⟩
   rcases aZ.1 b with rfl|b
   .omega
   .have:=c k b;omega
def Dd:∀{l:List Int},l.Nodup->(gR l).Pairwise (· < ·)
 |[],_=>List.Pairwise.nil
 |n::l,h=>by
  obtain⟨a,b⟩:=iu.1 h;exact IJ (Dd b) fun c=>a ((sS l n).1 c)
def TL(f:Int->Ch)(a:∀k,(f k).nr=k):∀(c:List Int)(n:Int),0<=n->n<=4294967296->(∀k∈c,n<=k/\k<4294967296)->c.Pairwise (· < ·)->Lm n (c.map f)
 |[],n,b,d,_,_=>⟨b,d⟩
 |k::t,n,b,d,e,i=>by
  obtain⟨l,m⟩:=lv.1 i;have:=e k aX;refine⟨b,by rw[a];omega,by rw[a];omega,?_⟩
  rw[a];exact TL f a t (k+1) (by omega) (by omega) (fun j g=>⟨by have:=l j g;omega,(e j (aW _ g)).2⟩) m
def sY(h:cS a []=.ok m)(d:∀b∈a,0<=b.nr/\b.nr<4294967296):Lm 0 (bY m):=by
 have ok:=vI a [] m h (by simp) (by simp)
 refine TL _ (fun k=>rfl) _ 0 (by omega) (by omega) (fun k e=>?_) (Dd ok.nodup)
 rcases ok.keys k ((sS _ k).1 e)with h|⟨b,c,rfl⟩
 .simp at h
 .exact d b c
def MY{f:α->α->Bool}(d:∀x y,f x y=true->x=y):∀{a b:List α},a.length=b.length->Ik f a b=true->a=b
 |[],[],_,_=>rfl
 |[],y::b,h,_=>by simp at h
 |x::a,[],h,_=>by simp at h
 |x::a,y::b,h,c=>by
  unfold Ik at c;cases hxy:f x y<;>rw[hxy]at c
  .simp at c
  .rw[d x y hxy,MY d (by simpa using h) c]
def Lt(c:∀x y,f x y=true->x=y)(h:JA f a b=true):a=b:=by
 unfold JA at h;cases hl:(a.length:Int) !=(b.length:Int)<;>rw[hl]at h
 .exact MY c (by simp at hl;omega) h
 .simp at h
def VX(x y:Hf)(h:tL x y=true):x=y:=by
 obtain⟨a,o,g,m,v⟩:=x;obtain⟨a',o',i,j,k⟩:=y;simp[tL]at h;obtain⟨⟨⟨⟨b,c⟩,d⟩,e⟩,f⟩:=h;rw[b,c,d,e,f]
def TM(x y:Sp)(h:AA x y=true):x=y:=by
 unfold AA at h;obtain⟨e,g⟩:=cg (b:=((true&&(x.act.kind==y.act.kind))&&(x.act.data==y.act.data))) h;have f:=Lt (fun a b=>Lt VX) g
 obtain⟨c,k,d⟩:=x;obtain⟨i,j,d'⟩:=y;simp at e f;rw[e.1,e.2,f]
def OZ(h:oC x y=true):x.steps=y.steps/\x.act=y.act:=by
 unfold oC at h;obtain⟨a,c⟩:=cg (b:=((true&&(x.act.kind==y.act.kind))&&(x.act.data==y.act.data))) h;refine⟨Lt TM c,?_⟩;simp at a;obtain⟨_,_,_,k,d⟩:=x;obtain⟨_,_,_,e,d'⟩:=y;simp at a;rw[a.1,a.2]
def sb:∀{p q:List Sn}{a m b:Int},fp p a m->fp q m b->fp (p++q) a b
 |[],q,a,m,b,h,g=>by rw[show a=m from h];exact g
 |x::p,q,a,m,b,⟨c,d,e⟩,g=>⟨c,d,sb e g⟩
def xL:∀{l:List Sn}{a b:Int},fp l a b->∀nr,a<=nr->nr<b->∃x∈l,x.lo<=nr/\nr<=x.hi
 |[],a,b,h,nr,c,d=>by have:a=b:=h;omega
 |x::t,a,b,⟨c,d,e⟩,nr,j,f=>by
  by_cases g:nr<=x.hi
  .exact⟨x,aX,by omega,g⟩
  .obtain⟨y,i,k⟩:=xL e nr (by omega) f
   exact⟨y,aW _ i,k⟩
def A1(F:Int->List Sp×Act)(l:List Sn):Prop:=∀x∈l,∀nr,x.lo<=nr->nr<=x.hi->F nr=(x.steps,x.act)
def xb(h:fp a 0 x.lo)(g:A1 F a)(u:x.lo<=x.hi)(i:∀nr,x.lo<=nr->nr<=x.hi->F nr=(x.steps,x.act)):fp (addN a x) 0 (x.hi+1)/\A1 F (addN a x)/\(addN a x).length<=a.length+1:=by
 have plain:fp (a++[x]) 0 (x.hi+1)/\A1 F (a++[x])/\(a++[x]).length<=a.length+1:=by
  refine⟨sb h ⟨rfl,u,rfl⟩,fun y b=>?_,by simp⟩
  rcases bn.1 b with b|b
  .exact g y b
  .simp at b;subst b;exact i
 unfold addN;cases hd:decide ((a.length:Int)-1>=0)
 .exact plain
 .rw[aj]
  cases ha:oC (a.getLastD gO) x
  .exact plain
  .rw[aj]
   have f:=aV hd;have k:a≠[]:=by intro h;rw[h]at f;simp at f
   have e:a=a.dropLast++[a.getLastD gO]:=by
    have:=(yO k).symm;rw[km,jF k];exact this
   have hlen:a.dropLast.length<=a.length:=by rw[List.length_dropLast];omega
   generalize v:a.getLastD gO=z at*;generalize a.dropLast=p at*;subst e;obtain⟨l,n⟩:=OZ ha;obtain⟨m,o,q⟩:=ua h;obtain⟨t,w,j⟩:=q;have j:z.hi+1=x.lo:=j;refine⟨sb o ⟨t,by show z.lo<=x.hi;omega,rfl⟩,fun y b=>?_,by simp⟩
   rcases bn.1 b with b|b
   .exact g y (ea _ b)
   .simp at b;subst b
    intro nr c d;have d:nr<=x.hi:=d;have c:z.lo<=nr:=c;by_cases s:nr<=z.hi
    .exact g z (fw _ (by simp)) nr c s
    .show F nr=(z.steps,z.act)
     rw[l,n];exact i nr (by omega) d
def vJ(a:List Ch)(d:Act)(nr:Int):List Sp×Act:=match a.find? fun c=>nr==c.nr with
 |some c=>((ij c d).steps,(ij c d).act)
 |none=>([],d)
def IK:∀{a:List Ch}{n:Int},Lm n a->∀nr,nr<n->a.find? (fun c=>nr==c.nr)=none
 |[],n,_,nr,_=>rfl
 |c::t,n,⟨_,d,_,b⟩,nr,h=>by
  rw[cj,show(nr==c.nr)=false by rw[fY];omega]
  exact IK b nr (by omega)
def VY(c:Ch)(d:Act):(ij c d).lo=c.nr/\(ij c d).hi=c.nr:=by
 unfold ij;cases decide ((c.steps.length:Int)-1>=0)
 .exact⟨rfl,rfl⟩
 .cases oh (c.steps.getLastD tQ).cl<;>exact⟨rfl,rfl⟩
def sc(F:Int->List Sp×Act)(d:Act):∀(j:List Ch)(n:Int)(f:List Sn),Lm n j->fp f 0 n->A1 F f->(∀nr,n<=nr->F nr=vJ j d nr)->
  fp (x6 d j n f) 0 4294967296/\A1 F (x6 d j n f)/\(x6 d j n f).length<=f.length+2*j.length+1
 |[],n,f,⟨D,o⟩,g,i,k=>by
  unfold x6;cases hd:decide (n<=4294967295)
  .have:=bI hd
   have e:n=4294967296:=by omega
   rw[e]at g;exact⟨g,i,by show f.length<=_;omega⟩
  .have:=aV hd
   obtain⟨l,m,y⟩:=xb (x:=⟨n,4294967295,[],d⟩) g i this fun nr o _=>k nr o
   exact⟨l,m,by show(addN f _).length<=_;simp only[cN];omega⟩
 |c::t,n,f,⟨D,o,I,q⟩,g,i,k=>by
  obtain⟨v,w⟩:=VY c d;have H:F c.nr=((ij c d).steps,(ij c d).act):=by
   rw[k c.nr o,vJ,cj,beq_self_eq_true]
  have r:∀nr,c.nr+1<=nr->F nr=vJ t d nr:=fun nr h=>by
   rw[k nr (by omega),vJ,vJ,cj,show(nr==c.nr)=false by rw[fY];omega]
  have z:∀f,fp f 0 c.nr->A1 F f->fp (addN f (ij c d)) 0 (c.nr+1)/\A1 F (addN f (ij c d))/\(addN f (ij c d)).length<=f.length+1:=by
   intro f g i;have:=xb (x:=ij c d) (by rw[v];exact g) i (by rw[v,w];exact ez _) fun nr a b=>by
    rw[v]at a;rw[w]at b;rw[show nr=c.nr by omega];exact H
   rw[w]at this;exact this
  rw[x6];cases hd:decide (c.nr>n)
  .have:=bI hd
   have e:n=c.nr:=by omega
   obtain⟨l,m,y⟩:=z f (by rw[<-e];exact g) i
   obtain⟨s,u,E⟩:=sc F d t (c.nr+1) _ q l m r;exact⟨s,u,by rw[af];simp only[aE];omega⟩
  .have:=aV hd
   obtain⟨p,G,J⟩:=xb (x:=⟨n,c.nr-1,[],d⟩) g i (by show n<=c.nr-1;omega) fun nr a b=>by
    have a:n<=nr:=a;have b:nr<=c.nr-1:=b;rw[k nr a,vJ,cj,show(nr==c.nr)=false by rw[fY];omega,IK q nr (by omega)]
   have p:fp _ 0 (c.nr-1+1):=p;rw[Int.sub_add_cancel]at p;obtain⟨l,m,y⟩:=z _ p G;obtain⟨s,u,E⟩:=sc F d t (c.nr+1) _ q l m r;exact⟨s,u,by rw[aj];simp only[aE];omega⟩
def TN(c:Ch)(d:Act):eu wd (ij c d).act (ij c d).steps=eu wd d c.steps:=by
 unfold ij;cases hd:decide ((c.steps.length:Int)-1>=0)
 .rfl
 .cases he:oh (c.steps.getLastD tQ).cl
  .rfl
  .have a:=aV hd
   have b:c.steps≠[]:=by intro h;rw[h]at a;simp at a
   have e:c.steps=c.steps.dropLast++[c.steps.getLastD tQ]:=by
    have:=(yO b).symm;rw[km,jF b];exact this
   show eu wd (c.steps.getLastD tQ).act c.steps.dropLast=eu wd d c.steps
   have f:=IH (wd:=wd) he;generalize c.steps.getLastD tQ=z at*;generalize g:c.steps.dropLast=p at*;rw[e,jZ,eu,f];rfl
def xM(f:Int->Ch)(a:∀k,(f k).nr=k)(nr:Int):∀(b:List Int),(b.map f).find? (fun c=>nr==c.nr)=bif b.any (nr == ·)then some (f nr)else none
 |[]=>rfl
 |k::t=>by
  rw[bH,cj,a,il,xM f a nr t];cases h:nr==k
  .rfl
  .rw[eq_of_beq h];rfl
def O0(h:(m.map (·.1)).any (nr == ·)=false):gG m nr=none:=by
 unfold gG;rw[List.find?_eq_none];intro x a;have:=List.any_eq_false.1 h x.1 (DV a);exact this
def TO(m:List Mk)(d:Act)(nr:Int):eu wd (vJ (bY m) d nr).2 (vJ (bY m) d nr).1=eu wd d (fq m nr):=by
 have e:=xM (fun k=>⟨k,((gG m k).map (·.2)).getD []⟩) (fun k=>rfl) nr (gR (m.map (·.1)))
 have e:(bY m).find? (fun c=>nr==c.nr)=_:=e
 unfold vJ;rw[e];cases ha:(gR (m.map (·.1))).any (nr == ·)
 .rw[af]
  have:(m.map (·.1)).any (nr == ·)=false:=by
   rw[List.any_eq_false]at ha⊢;exact fun k a=>ha k ((sS _ k).2 a)
  rw[fq,O0 this];rfl
 .exact TN _ d
def Lu(d:Act)(h:cS c []=.ok m)(g:∀b∈c,0<=b.nr/\b.nr<4294967296):∀x∈cA (bY m) d,∀nr,x.lo<=nr->nr<=x.hi->eu wd x.act x.steps=eu wd d (me nr c):=by
 obtain⟨_,f,_⟩:=sc (vJ (bY m) d) d (bY m) 0 [] (sY h g) rfl (fun x e=>by simp at e) fun _ _=>rfl
 intro x e nr a b;have:=f x e nr a b;have k:=TO (wd:=wd) m d nr;rw[this]at k;rw[k,A0 c [] m h nr d];rfl
def mG(d:Act)(h:cS a []=.ok m)(f:∀b∈a,0<=b.nr/\b.nr<4294967296):fp (cA (bY m) d) 0 4294967296/\(cA (bY m) d).length<=2*m.length+1:=by
 obtain⟨e,_,c⟩:=sc (vJ (bY m) d) d (bY m) 0 [] (sY h f) rfl (fun x g=>by simp at g) fun _ _=>rfl
 refine⟨e,?_⟩;rw[show(bY m).length=m.length by unfold bY;rw[ao,wY,ao]]at c
 simpa[cA]using c
def VZ(h:∀s∈c.steps,s.cl≠[]):∀s∈(ij c d).steps,s.cl≠[]:=by
 unfold ij;cases decide ((c.steps.length:Int)-1>=0)
 .exact h
 .cases oh (c.steps.getLastD tQ).cl
  .exact h
  .exact fun s a=>h s (uy _ a)
def TP(d:Act)(h:cS g []=.ok m)(o:∀b∈g,0<=b.nr/\b.nr<4294967296):∀x∈cA (bY m) d,∀s∈x.steps,s.cl≠[]:=by
 obtain⟨j,n,_⟩:=sc (vJ (bY m) d) d (bY m) 0 [] (sY h o) rfl (fun x f=>by simp at f) fun _ _=>rfl
 have ok:=vI g [] m h (by simp) (by simp)
 intro x f;have q:x.lo<=x.hi:=by
  have:∀(l:List Sn)(a b:Int),fp l a b->∀x∈l,x.lo<=x.hi:=by
   intro l;induction l with
   |nil=>intro a b _ x f;simp at f
   |cons y l p=>
    intro a b h x f;rcases aZ.1 f with rfl|f
    .exact h.2.1
    .exact p _ _ h.2.2 x f
  exact this _ _ _ j x f
 have e:=n x f x.lo (ez _) q;have i:(vJ (bY m) d x.lo).1=x.steps:=by rw[e]
 rw[<-i];unfold vJ;cases hf:(bY m).find? fun c=>x.lo==c.nr with
 |none=>simp
 |some c=>
  refine VZ ?_;obtain⟨k,_,rfl⟩:=bh.1 (lx hf);show∀s∈fq m k,s.cl≠[]
  unfold fq;cases hg:gG m k with
  |none=>simp
  |some y=>exact ok.ne y (lX hg).1
end
structure V0 (bs:List Bd):Prop where
 len:bs.length<=2^13
 sz:∀b∈bs,et b.cond<=2^10
 nr:∀b∈bs,0<=b.nr/\b.nr<4294967296
def De(n:Nat):∀(l:List (List At))(b:List (List Hf)),(∀x∈l,x.length<=n)->(∀x∈b,x.length<=2*n)->∀x∈(mb l b).1,x.length<=2*n
 |[],b,_,c=>fun x a=>by
  have a:x∈tN b:=a;exact(Aw b c).2 x ((vw (gv b) 0).2 x a)
 |y::t,b,d,c=>by
  unfold mb;cases(bif !(cX y [[]]).2 then true else decide (((b++(cX y [[]]).1).length:Int)>256))
  .refine De n t _ (fun x a=>d x (aW _ a)) fun x a=>?_
   rcases bn.1 a with a|a
   .exact c x a
   .have e:=(tO y [[]] 0 ⟨by simp,by simp⟩).each x a
    have f:=d y aX;omega
  .simp
def A2(c:Cn):∀x∈(cv c).1,x.length<=2*et c:=by
 unfold cv;cases(fm c).2 !=0
 .exact De _ _ _ (xH c).each (by simp)
 .simp
def IL:∀{l:List (List Hf)},(∀x∈l,x.length<=n)->nz l<=l.length*(3*n+3)
 |[],_=>by simp[nz]
 |x::l,h=>by
  have:=h x aX;have b:=IL fun y a=>h y (aW _ a)
  simp only[nz,aE,bZ,cM];omega
def stK(s:Sp):Prop:=s.cl.length<=256/\∀x∈s.cl,x.length<=2^11
def Ge:Nat:=2^21
def IM:∀{l:List Sp},(∀s∈l,stK s)->gw l<=1+l.length*Ge
 |[],_=>by simp[gw]
 |s::l,h=>by
  obtain⟨a,b⟩:=h s aX;have e:=IM fun y c=>h y (aW _ c)
  have d:=IL b;have:s.cl.length*(3*2^11+3)<=256*(3*2^11+3):=dx _ a;simp only[gw,aE,bZ,cM];unfold Ge at*;omega
def kH(m:List Mk):Nat:=(m.map fun x=>x.2.length).sum
def IN(l:List Sp)(s:Sp):(ny l s).length<=l.length+1/\∀x∈ny l s,x=s\/x∈l:=by
 have k:∀x∈l++[s],x=s\/x∈l:=fun x a=>by
  rcases bn.1 a with a|a
  .exact .inr a
  .simp at a;exact .inl a
 unfold ny;cases(s.cl.length:Int)==0
 .cases decide ((l.length:Int)>0)
  .exact⟨by simp,k⟩
  .cases oh (l.getLastD ⟨[],⟨0,0⟩⟩).cl
   .exact⟨by simp,k⟩
   .exact⟨by simp,fun x a=>.inr a⟩
 .exact⟨by simp,fun x a=>.inr a⟩
def A3(k:Int)(l:List Sp):∀(m:List Mk),l.length<=(fq m k).length+1->kH (o8 (k,l) m)<=kH m+1
 |[],h=>by simp[fq,gG]at h;simp[o8,kH];exact h
 |y::m,h=>by
  have e:fq (y::m) k=bif k==y.1 then y.2 else fq m k:=by
   unfold fq gG;rw[cj];cases k==y.1<;>rfl
  rw[e]at h;unfold o8;cases hk:k==y.1
  .rw[hk]at h
   have:=A3 k l m h;simp only[af,kH,bH,eZ]at this⊢;omega
  .rw[hk]at h
   simp only[aj,kH,bH,eZ]at h⊢;omega
structure MSm (n:Nat) (m:List Mk):Prop where
 len:m.length<=n
 st:kH m<=n
 each:∀y∈m,∀s∈y.2,stK s
def A5:∀(e:List Bd)(m c:List Mk)(n:Nat),cS e m = .ok c->MSm n m->(∀b∈e,et b.cond<=2^10)->MSm (n+e.length) c
 |[],m,c,n,h,a,_=>by
  have:m=c:=by simpa[cS]using h
  subst this;exact a
 |b::t,m,c,n,h,a,i=>by
  unfold cS at h;cases h1 : !(cd b.act).2<;>rw[h1]at h
  .cases h2:(cv b.cond).2 !=0<;>rw[h2]at h
   .rw[af,af]at h
    have o:stK ⟨(cv b.cond).1,b.act⟩:=⟨rV b.cond,fun x f=>by have:=A2 b.cond x f;have:=i b aX;omega⟩
    obtain⟨k,l⟩:=IN (fq m b.nr) ⟨(cv b.cond).1,b.act⟩;have:=A5 t _ c (n+1) h ⟨by have:=Ay (b.nr,ny (fq m b.nr) ⟨(cv b.cond).1,b.act⟩) m;have:=a.len;unfold fq at*; omega,by have:=A3 b.nr _ m k;have:=a.st;unfold fq at*; omega,fun y g s j=>by
     rcases lW g with rfl|g
     .rcases l s j with rfl|d
      .exact o
      .unfold fq at d
       cases hg:gG m b.nr with
       |none=>rw[hg]at d;simp at d
       |some z=>rw[hg]at d;exact a.each z (lX hg).1 s d
     .exact a.each y g s j⟩ fun x f=>i x (aW _ f)
    rw[aE,show n+(t.length+1)=n+1+t.length by omega]
    exact this
   .simp at h
  .simp at h
def sZ(a:List Sn)(x:Sn):ic (addN a x)<=ic a+gw x.steps+3:=by
 have plain:ic (a++[x])<=ic a+gw x.steps+3:=by rw[mL];simp[ic];omega
 unfold addN;cases hd:decide ((a.length:Int)-1>=0)
 .exact plain
 .cases oC (a.getLastD gO) x
  .exact plain
  .have c:=aV hd
   have d:a≠[]:=by intro h;rw[h]at c;simp at c
   have e:a=a.dropLast++[a.getLastD gO]:=by
    have:=(yO d).symm;rw[km,jF d];exact this
   have b:=mL a.dropLast [a.getLastD gO];rw[<-e]at b;simp only[aj];rw[mL];simp only[ic]at b⊢;omega
def Ba:∀(l:List Sp),gw l.dropLast<=gw l
 |[]=>ar _
 |[s]=>by simp[gw]
 |s::t::l=>by
  have:=Ba (t::l);rw[List.dropLast_cons_cons];simp only[gw]at this⊢;omega
def O1(c:Ch)(d:Act):gw (ij c d).steps<=gw c.steps:=by
 unfold ij;cases decide ((c.steps.length:Int)-1>=0)
 .exact ar _
 .cases oh (c.steps.getLastD tQ).cl
  .exact ar _
  .exact Ba _
def Gg(l:List Ch):Nat:=(l.map fun c=>gw c.steps+7).sum
def Bb(d:Act):∀(b:List Ch)(n:Int)(a:List Sn),ic (x6 d b n a)<=ic a+Gg b+4
 |[],n,a=>by
  unfold x6;have:=sZ a ⟨n,4294967295,[],d⟩;cases decide (n<=4294967295)
  .simp only[af];omega
  .simp only[aj,gw]at this⊢; omega
 |c::t,n,a=>by
  have e:=sZ a ⟨n,c.nr-1,[],d⟩;have i:=sZ (addN a ⟨n,c.nr-1,[],d⟩) (ij c d);have j:=sZ a (ij c d);have k:=O1 c d;have f:=Bb d t (c.nr+1) (addN (addN a ⟨n,c.nr-1,[],d⟩) (ij c d));have g:=Bb d t (c.nr+1) (addN a (ij c d));unfold x6;simp only[gw]at e;simp only[Gg,bH,eZ]at f g⊢;cases decide (c.nr>n)<;>simp only[aj,af]<;>omega
def xN{f:Int->Nat}:∀(l:List Int),((gR l).map f).sum=(l.map f).sum
 |[]=>rfl
 |n::l=>by
  have b:=xN (f:=f) l;have:∀(m:List Int),((nQ n m).map f).sum=f n+(m.map f).sum:=by
   intro m;induction m with
   |nil=>simp[nQ]
   |cons a m b=>
    unfold nQ;cases decide (n<=a)
    .simp only[af,bH,eZ,b];omega
    .simp
  show((nQ n (gR l)).map f).sum=_
  rw[this,b];simp
def IP(h:MSm n m)(g:(m.map (·.1)).Nodup):Gg (bY m)<=n*8+n*Ge:=by
 unfold Gg bY;rw[dQ];rw[xN];rw[dQ];have key:∀(t:List Mk),(∀y∈t,(gG m y.1).map (·.2)=some y.2/\∀s∈y.2,stK s)->((t.map ((fun c:Ch=>gw c.steps+7)∘(fun k=>⟨k,((gG m k).map (·.2)).getD []⟩)∘fun x=>x.1)).sum)<=t.length*8+kH t*Ge:=by
  intro t;induction t with
  |nil=>intro _;simp
  |cons y t d=>
   intro a;obtain⟨i,j⟩:=a y aX;have:=d fun z l=>a z (aW _ l)
   have q:=IM j;simp only[bH,eZ,kH,DW,i,mW,aE,bZ]at this⊢;omega
 have k:=key m fun y a=>⟨?_,h.each y a⟩
 .have:=h.len
  have:=h.st;have:kH m*Ge<=n*Ge:=dx _ h.st;exact dR k (by omega)
 ·
  have:∀(t:List Mk),(t.map (·.1)).Nodup->y∈t->gG t y.1=some y:=by
   intro t;induction t with
   |nil=>intro _ h;simp at h
   |cons z t d=>
    intro g a;obtain⟨o,p⟩:=iu.1 g;unfold gG at d⊢;rw[cj];rcases aZ.1 a with rfl|a
    .rw[beq_self_eq_true]
    .have:(y.1==z.1)=false:=by
      rw[fY];intro e;have b:=DV (f:=fun x:Mk=>x.1) a
      have b:y.1∈t.map (·.1):=b
      rw[e]at b;exact o b
     rw[this];exact d p a
  rw[this m g a];rfl
def Bc(d:Act)(h:cS a []=.ok m)(b:V0 a):ic (cA (bY m) d)+3*(cA (bY m) d).length+20<=2^40:=by
 have e:=A5 a [] m 0 h ⟨by simp,by simp[kH],by simp⟩ b.sz
 have ok:=vI a [] m h (by simp) (by simp)
 have f:=Bb d (bY m) 0 [];have c:=IP e ok.nodup;have g:=(mG d h b.nr).2;have i:=e.len;have j:=b.len;have k:a.length*Ge<=2^13*Ge:=dx _ j;unfold cA at g⊢;simp only[ic]at f;unfold Ge at c k;simp only[cy]at c i;omega
def Be(n:Int):Prop:=0<=n/\n<4294967296
def pg(n:Int):Be (wrap .u32 n):=by
 have:=zO (k:=.u32) rfl n;exact⟨this.1,by have:=this.2;simpa[IntKind.bits]using this⟩
def Bf(a:Act):Be (qL a):=by
 unfold qL cd;cases(bif(bif !(fP a.kind).2 then true else decide (a.data<0))then true else decide (a.data>(bif(bif(bif(a.kind==3)then true else(a.kind==4))then true else(a.kind==5))then 65535 else 0)))
 .exact pg _
 .exact⟨ez 0,by show(0:Int)<4294967296;decide⟩
def TQ(h:Hf):Prop:=Be h.mask/\Be h.value
def yL(a:At)(b:Bool)(o:Int):TQ (lV a b o):=by
 unfold lV;cases b<;>exact⟨pg _,pg _⟩
def O2(a:At):∀c∈dO a,∀h∈c,TQ h:=by
 have e:∀s,∀c∈kF a s,∀h∈c,TQ h:=by
  intro s c d h b;simp only[kF,aZ,jm,or_false]at d;rcases d with rfl|rfl<;>simp at b
  .subst b;exact yL _ _ _
  .rcases b with rfl|rfl<;>exact yL _ _ _
 unfold dO;cases !rS a.arg a.op
 .cases a.op==1
  .cases a.op==2
   .cases a.op==6
    .cases a.op==4
     .exact e _
     .exact e _
    .exact e _
   .intro c d h b
    simp at d;rcases d with rfl|rfl<;>simp at b<;>subst b<;>exact yL _ _ _
  .intro c d h b
   simp at d;subst d;simp at b;rcases b with rfl|rfl<;>exact yL _ _ _
 .simp
def Df{Q:α->Prop}{a b:List (List α)}(f:∀c∈a,∀x∈c,Q x)(g:∀c∈b,∀x∈c,Q x):∀c∈(lU a b).1,∀x∈c,Q x:=by
 unfold lU;cases decide ((a.length:Int)*(b.length:Int)>256)
 .intro c e x d
  obtain⟨y,i,e⟩:=eN.1 (show c∈fT a b from e)
  obtain⟨z,j,rfl⟩:=bh.1 e;rcases bn.1 d with d|d
  .exact f y i x d
  .exact g z j x d
 .simp
def xO{Q:Hf->Prop}:∀(l:List At)(d:List (List Hf)),(∀a∈l,∀c∈dO a,∀h∈c,Q h)->(∀c∈d,∀h∈c,Q h)->∀c∈(cX l d).1,∀h∈c,Q h
 |[],d,_,h=>h
 |a::t,d,e,h=>by
  unfold cX;cases(lU d (dO a)).2
  .simp
  .exact xO t _ (fun b f=>e b (aW _ f)) (Df h (e a aX))
def xP:∀(l c:List Hf),∀h∈(cB l c).1,h∈c\/h∈l
 |[],c,h,a=>.inl a
 |x::t,c,h,a=>by
  have k:∀e,(∀y∈e,y∈c\/y=x)->h∈(cB t e).1->h∈c\/h∈x::t:=fun e f d=>by
   rcases xP t e h d with d|d
   .rcases f h d with h|rfl
    .exact .inl h
    .exact .inr aX
   .exact .inr (aW _ d)
  unfold cB at a;cases h1:ma x<;>rw[h1]at a
  .cases f:c.any (fun y=>nx y x)<;>rw[f]at a
   .cases h3:jC x<;>rw[h3]at a
    .cases h4:c.any (tL x)<;>rw[h4]at a
     .exact k _ (fun y b=>by rcases bn.1 b with b|b;exact .inl b;simp at b;exact .inr b) a
     .exact k _ (fun y b=>.inl b) a
    .exact k _ (fun y b=>.inl b) a
   .simp at a
  .simp at a
def Dg{Q:Hf->Prop}:∀(l:List (List Hf)),(∀c∈l,∀h∈c,Q h)->∀c∈gv l,∀h∈c,Q h
 |[],_=>by simp[gv]
 |x::t,e=>by
  have f:=Dg t fun c a=>e c (aW _ a)
  unfold gv;cases(cB x []).2
  .exact f
  .intro c a h d
   rcases aZ.1 (show c∈(cB x []).1::gv t from a)with rfl|a
   .rcases xP x [] h d with b|b
    .simp at b
    .exact e x aX h b
   .exact f c a h d
def Lv{Q:Hf->Prop}(l:List (List Hf))(b:∀c∈l,∀h∈c,Q h):∀c∈tN l,∀h∈c,Q h:=fun c a=>Dg l b c ((vw (gv l) 0).2 c a)
def Bg{Q:Hf->Prop}:∀(l:List (List At))(e:List (List Hf)),(∀c∈l,∀a∈c,∀d∈dO a,∀h∈d,Q h)->(∀c∈e,∀h∈c,Q h)->∀c∈(mb l e).1,∀h∈c,Q h
 |[],e,_,h=>Lv e h
 |x::t,e,f,h=>by
  unfold mb;cases(bif !(cX x [[]]).2 then true else decide (((e++(cX x [[]]).1).length:Int)>256))
  .refine Bg t _ (fun c b=>f c (aW _ b)) fun c b=>?_
   rcases bn.1 b with b|b
   .exact h c b
   .exact xO x [[]] (f x aX) (by simp) c b
  .simp
def sd{Q:Hf->Prop}(c:Cn)(h:∀d∈(fm c).1,∀a∈d,∀e∈dO a,∀h∈e,Q h):∀d∈(cv c).1,∀h∈d,Q h:=by
 unfold cv;cases(fm c).2 !=0
 .exact Bg _ [] h (by simp)
 .simp
def O3(c:Cn):∀d∈(cv c).1,∀h∈d,TQ h:=sd c fun _ _ a _=>O2 a
def spQ(Q:Hf->Prop)(s:Sp):Prop:=∀c∈s.cl,∀h∈c,Q h
def Dh{R:Sp->Prop}:∀(f:List Bd)(m c:List Mk),cS f m = .ok c->(∀b∈f,R ⟨(cv b.cond).1,b.act⟩)->(∀y∈m,∀s∈y.2,R s)->∀y∈c,∀s∈y.2,R s
 |[],m,c,h,_,d=>by
  have:m=c:=by simpa[cS]using h
  subst this;exact d
 |b::t,m,c,h,g,d=>by
  unfold cS at h;cases h1 : !(cd b.act).2<;>rw[h1]at h
  .cases h2:(cv b.cond).2 !=0<;>rw[h2]at h
   .rw[af,af]at h
    refine Dh t _ c h (fun x i=>g x (aW _ i)) fun y e s a=>?_
    rcases lW e with rfl|e
    .rcases(IN _ _).2 s a with rfl|a
     .exact g b aX
     .cases hg:gG m b.nr with
      |none=>rw[hg]at a;simp at a
      |some z=>rw[hg]at a;exact d z (lX hg).1 s a
    .exact d y e s a
   .simp at h
  .simp at h
def vK{R:Sp->Prop}(h:∀y∈b,∀s∈y.steps,R s)(e:∀s∈x.steps,R s):∀y∈addN b x,∀s∈y.steps,R s:=by
 have k:∀y∈b++[x],∀s∈y.steps,R s:=fun y a=>by
  rcases bn.1 a with a|a
  .exact h y a
  .simp at a;subst a;exact e
 unfold addN;cases hd:decide ((b.length:Int)-1>=0)
 .exact k
 .cases oC (b.getLastD gO) x
  .exact k
  .intro y a
   rcases bn.1 (show y∈b.dropLast++[_]from a)with a|a
   .exact h y (uy _ a)
   .rcases cJ.1 a with rfl
    have c:=aV hd;have d:b≠[]:=by intro h;rw[h]at c;simp at c
    show∀s∈(b.getLastD gO).steps,R s
    rw[km,jF d];exact h _ (List.getLast_mem d)
def MZ{R:Sp->Prop}(d:Act):∀(f:List Ch)(n:Int)(a:List Sn),(∀c∈f,∀s∈c.steps,R s)->(∀y∈a,∀s∈y.steps,R s)->∀y∈x6 d f n a,∀s∈y.steps,R s
 |[],n,a,_,h=>by
  unfold x6;cases decide (n<=4294967295)
  .exact h
  .exact vK h (by simp)
 |c::t,n,a,b,h=>by
  have e:∀s∈(ij c d).steps,R s:=by
   have:=b c aX;unfold ij;cases decide ((c.steps.length:Int)-1>=0)
   .exact this
   .cases oh (c.steps.getLastD tQ).cl
    .exact this
    .exact fun s g=>this s (uy _ g)
  have i:=fun n a h=>MZ d t n a (fun c j=>b c (aW _ j)) h
  unfold x6;cases decide (c.nr>n)
  .exact i _ _ (vK h e)
  .exact i _ _ (vK (vK h (by simp)) e)
def Di{R:Sp->Prop}{m:List Mk}(d:Act)(h:cS a []=.ok m)(e:∀b∈a,R ⟨(cv b.cond).1,b.act⟩):∀x∈cA (bY m) d,∀s∈x.steps,R s:=by
 refine MZ d (bY m) 0 [] (fun c f=>?_) (by simp)
 obtain⟨k,_,rfl⟩:=bh.1 f;show∀s∈((gG m k).map (·.2)).getD [],R s
 cases hg:gG m k with
 |none=>simp
 |some y=>exact Dh a [] m h e (by simp) y (lX hg).1
def PK(w:Wr):Prop:=∀x∈w.l,Be x.k
section
variable {w:Wr}
def ln(h:PK w)(b:Be k):PK (fo w t f c k):=fun x a=>by
 rcases bn.1 (show x∈w.l++[_]from a)with a|a
 .exact h x a
 .simp at a;subst a;exact b
def s0(h:PK w)(cn:Int):PK (cD w cn):=by
 unfold cD;cases w.label !=0
 .exact h
 .exact ln h ⟨by decide,by decide⟩
def M0(h:PK w)(a:TQ x)(y z:Int):PK (testW w x y z):=by
 have b:PK (js w x):=by
  unfold js;cases x.mask !=4294967295
  .exact ln h (pg _)
  .exact ln (ln h (pg _)) a.1
 unfold testW;cases qB x.op<;>exact ln b a.2
def TR(n yes no next:Int):∀(t:List Hf)(i:Int)(w:Wr),PK w->(∀h∈t,TQ h)->PK (tS n yes no next t i w)
 |[],_,_,h,_=>h
 |x::t,i,w,h,a=>by
  have b:=a x aX;unfold tS;refine TR n yes no next t _ _ ?_ fun y c=>a y (aW _ c)
  cases decide (i<n-1)
  .cases no==next<;>exact M0 h b _ _
  .exact M0 h b _ _
def Dj(h:PK w)(a:∀x∈l,TQ x)(yes no next:Int):PK (dA w l yes no next):=by
 unfold dA;refine TR _ _ _ _ l _ _ ?_ a;cases(bif(l.length:Int)==0 then yes !=0 else false)
 .exact h
 .exact ln h ⟨by decide,by decide⟩
def TS(h:PK w)(s:Sp)(a e:Int):PK (AD s a e w):=by
 unfold AD;cases decide ((s.cl.length:Int)>0)
 .exact s0 h _
 .exact s0 (ln (s0 h _) (Bf _)) _
def TT(s:Sp)(a e:Int):∀(t:List (List Hf))(i:Int)(w:Wr),PK w->(∀c∈t,∀h∈c,TQ h)->PK (w6 s a e t i w)
 |[],_,_,h,_=>TS h s a e
 |x::t,i,w,h,b=>by
  have d:=b x aX;unfold w6;cases i==(s.cl.length:Int)-1
  .exact TT s a e t _ _ (s0 (Dj (w:=dE w) h d _ _ _) _) fun c f=>b c (aW _ f)
  .exact TS (Dj (w:=dE w) h d _ _ _) s a e
def IQ(a:Act):∀(t:List Sp)(w:Wr),PK w->(∀s∈t,spQ TQ s)->PK (rZ a t w)
 |[],_,h,_=>ln h (Bf _)
 |s::t,w,h,b=>IQ a t _ (TT s _ _ s.cl 0 (dE (dE w)) h (b s aX)) fun x c=>b x (aW _ c)
def xc:∀(n:Nat)(l:List Sn)(w:Wr),l≠[]->PK w->(∀x∈l,Be x.lo)->(∀x∈l,∀s∈x.steps,spQ TQ s)->l.length<=n->PK (fx n l w)
 |0,_,_,_,h,_,_,_=>h
 |n+1,l,w,j,h,c,b,k=>by
  unfold fx;cases hd:(l.length:Int)==1
  .have m:1<=l.length:=by cases l with|nil=>exact(j rfl).elim|cons=>simp
   have o:=gJ hd;have d:(l.drop (l.length/2)).length=l.length-l.length/2:=iv ..;have e:(l.take (l.length/2)).length=l.length/2:=by simp;omega
   have f:l.length/2<l.length:=by omega
   have i:Be (l.getD (l.length/2) gO).lo:=by
    rw[bW,bo f];exact c _ (gL f)
   have g:=xc n (l.take (l.length/2)) (fo (dE w) (w.aD+1) 0 53 (l.getD (l.length/2) gO).lo) (by intro h;rw[h]at e;simp at e;omega) (ln (w:=dE w) h i) (fun x a=>c x (List.take_subset _ _ a)) (fun x a=>b x (List.take_subset _ _ a)) (by omega)
   exact xc n (l.drop (l.length/2)) _ (by intro h;rw[h]at d;simp at d;omega) (s0 g _) (fun x a=>c x (List.drop_subset _ _ a)) (fun x a=>b x (List.drop_subset _ _ a)) (by omega)
  .match l,eq_of_beq hd with
   |[x],_=>exact IQ x.act x.steps w h (b x aX)
end
def V1(g:Be aq)(i:∀x∈l,∀s∈x.steps,spQ TQ s):∀x∈(fB aq l).1,Be x.k:=by
 unfold fB;cases hr : !gb l 0
 .have d:=nF l 0 (by simpa using hr)
  have m:=(pe d).2;have k:∀(l:List Sn)(a b:Int),fp l a b->∀x∈l,x.lo<=x.hi:=by
   intro l;induction l with
   |nil=>intro a b _ x c;simp at c
   |cons y l j=>
    intro a b h x c;rcases aZ.1 c with rfl|c
    .exact h.2.1
    .exact j _ _ h.2.2 x c
  refine xc l.length l _ (by rintro rfl;have e:(0:Int)=4294967296:=d;simp at e) ?_ (fun x c=>?_) i (ar _)
  .refine ln (s0 (ln (ln (ln (w:=dE ⟨[],0,0⟩) (fun x c=>by simp[dE]at c) ⟨by decide,by decide⟩) g) (Bf _)) _) ⟨by decide,by decide⟩
  .have f:=m x c
   have n:=k l _ _ d x c;exact⟨f.1,by omega⟩
 .simp
def Bh:∀(t:List Sy)(q:List (Bool×Bool))(i:Nat),y∈dF k t q i->∃x∈t,∃j p,y∈fR k j x p
 |[],q,i,h=>by cases q<;>simp[dF]at h
 |x::t,[],i,h=>by simp[dF]at h
 |x::t,p::q,i,h=>by
  rw[dF]at h;rcases bn.1 h with h|h
  .exact⟨x,aX,i,p,h⟩
  .obtain⟨z,a,r⟩:=Bh t q (i+1) h
   exact⟨z,aW _ a,r⟩
def z0:(-4611686018427387904:Int)<=0/\(0:Int)<=4611686018427387904:=by decide
def IS(f:∀x∈l,Be x.k)(o:l.length<=2^30):∀x∈vz l,PG x:=by
 have ok:=C2 l;have m:=ok.pl;have t:=ok.fl;have c:∀i:Nat,0<=(fK l).place.getD i 0/\(fK l).place.getD i 0<=2^40:=by
  intro i;rw[bW];rcases bU i (fK l).place.length with h|h
  .rw[bo h]
   have:=AK (fK l).cz 0 ((fK l).place[i]) (by rw[<-m];exact gL h)
   show 0<=(fK l).place[i]/\(fK l).place[i]<=2^40
   omega
  .rw[eE h];exact⟨by decide,by decide⟩
 intro y k;obtain⟨x,g,j,p,h⟩:=Bh l (fK l).cz 0 k;have d:=f x g;have e:∀cn,0<=kf (fK l) j cn/\kf (fK l) j cn<=2^40:=fun cn=>c _
 have q:0<=yK (fK l) j/\yK (fK l) j<=2^40:=c _;have ja:∀n,PG ⟨5,0,0,wrap .u32 n⟩:=fun n=>⟨pg n,z0,z0⟩
 have tt:=e x.t;have s:=e x.f;unfold fR at h;cases hj:cO x.code<;>rw[hj]at h
 .cases h5:x.code==5<;>rw[h5]at h
  .simp at h;subst h;exact⟨d,z0,z0⟩
  .simp at h;subst h;exact ja _
 .rw[aj,o9]at h
  rcases aZ.1 h with rfl|h
  .obtain⟨a,b⟩:=p
   refine⟨d,?_,?_⟩
   .cases a<;>simp only[aj,af]<;>omega
   .cases a<;>cases b<;>simp only[aj,af]<;>omega
  .obtain⟨a,b⟩:=p
   rcases bn.1 h with h|h
   .cases a<;>simp[jaI]at h
    subst h;exact ja _
   .cases b<;>simp[jaI]at h
    subst h;exact ja _
def M1(l:List In):∀(t:List In)(i:Nat)(b:List Int),pd l t i b = -1->∀(j:Nat)x,t[j]?=some x->gH l ((i+j:Nat):Int) x=true
 |[],i,b,_,j,x,a=>by simp at a
 |y::t,i,b,h,j,x,a=>by
  unfold pd at h;cases h1:gH l i y<;>rw[h1]at h
  .have:(i:Int)= -1:=h
   omega
  .cases h2:sX y (b.getD i 0)<;>rw[h2]at h
   .cases j with
    |zero=>simp at a;subst a;exact h1
    |succ j=>
     have:=M1 l t (i+1) _ h j x (by simpa using a)
     rw[show i+(j+1)=i+1+j by omega]
     exact this
   .have:(i:Int)= -1:=h
    omega
def s4(h:(jR l).2=true):0<l.length/\l.length<=4096/\∀(x:In),x∈l->jQ x=true/\yb x=true:=by
 unfold jR at h;cases hb:Iz l<;>rw[hb]at h
 .rw[af]at h
  have b:=eq_of_beq h;have hlen:0<l.length/\l.length<=4096:=by
   unfold Iz at hb;cases h1:(l.length:Int)==0<;>rw[h1]at hb
   .have:=bI hb
    have:l.length≠0:=fun e=>by rw[e]at h1;simp at h1
    omega
   .simp at hb
  refine⟨hlen.1,hlen.2,fun x d=>?_⟩
  obtain⟨j,c⟩:=DZ d;have a:=M1 l l 0 _ b j x c;unfold gH at a;cases h1 : !(r6 x.code).isSome<;>rw[h1]at a
  .cases h2 : !jQ x<;>rw[h2]at a
   .cases h3 : !yb x<;>rw[h3]at a
    .exact⟨by simpa using h2,by simpa using h3⟩
    .simp at a
   .simp at a
  .simp at a
 .simp at h
def O4(h:(jR l).2=true)(j:∀x∈l,PG x):∀x∈l,ROK x:=fun x e=>by
 obtain⟨f,a⟩:=(s4 h).2.2 x e;have d:=(j x e).k;simp[jQ,cond_eq_ite]at f;refine⟨d,by omega,by omega,fun i=>?_⟩
 unfold yb at a;rw[i]at a;obtain⟨c,g⟩:=cg (b:=tmod x.k 4==0) (show(bif tmod x.k 4==0 then decide (x.k<=60)else false)=true from a)
 rw[beq_iff_eq,uG d.1]at c;exact⟨c,aV g⟩
def IT(n:Int):wrap .u8 n=n%256:=by simp[wrap,IntKind.signed,IntKind.bits]
def ZR(n:Int):wrap .u64 n=n%18446744073709551616:=by simp[wrap,IntKind.signed,IntKind.bits]
def TU(n:Int):wrap .u32 n=n%4294967296:=by simp[wrap,IntKind.signed,IntKind.bits]
def orB(n:Nat){A C e:Nat}(a:A<2^e)(h:A+C*2^e<2^n):(BitVec.ofInt n (A:Int) ||| BitVec.ofInt n ((C*2^e:Nat):Int)).toNat=A+C*2^e:=by
 rw[BitVec.toNat_or,yj,yj,ye,ye,mV (by omega),mV (by omega)]
 rw[Nat.or_comm,lF,<-Nat.two_pow_add_eq_or_of_lt a,oJ]
def orI(k:IntKind)(b:k = .u32\/k = .u64\/k = .i64)(f:0<=a/\a<2^e)(j:0<=c)(h:a+c*2^e<2^31\/(k = .u32/\a+c*2^e<2^32)\/(k = .u64/\a+c*2^e<2^64)):cH .or k a (c*2^e)=a+c*2^e:=by
 obtain⟨A,rfl⟩:=iO f.1;obtain⟨C,rfl⟩:=iO j;have i:A<2^e:=by have:=f.2;exact_mod_cast this
 have g:((C:Int)*2^e)=((C*2^e:Nat):Int):=by push_cast;rfl
 rw[g]at h⊢;have fin:∀n:Nat,A+C*2^e<2^n->((BitVec.ofInt n (A:Int) ||| BitVec.ofInt n ((C*2^e:Nat):Int)).toNat:Int)=(A:Int)+((C*2^e:Nat):Int):=fun n d=>by
  rw[orB n i d];push_cast;rfl
 generalize C*2^e=M at*;rcases b with rfl|rfl|rfl
 .have d:A+M<2^32:=by rcases h with h|⟨_,h⟩|⟨b,_⟩<;>first|omega|exact absurd b (by decide)
  show wrap .u32 ((BitVec.ofInt 32 (A:Int) ||| BitVec.ofInt 32 (M:Int)).toNat:Int)=_
  rw[fin 32 d,TU];omega
 .have d:A+M<2^64:=by rcases h with h|⟨_,h⟩|⟨_,h⟩<;>omega
  show wrap .u64 ((BitVec.ofInt 64 (A:Int) ||| BitVec.ofInt 64 (M:Int)).toNat:Int)=_
  rw[fin 64 d,ZR];omega
 .have d:A+M<2^31:=by rcases h with h|⟨b,_⟩|⟨b,_⟩<;>first|omega|exact absurd b (by decide)
  show wrap .i64 ((BitVec.ofInt 64 (A:Int) ||| BitVec.ofInt 64 (M:Int)).toNat:Int)=_
  rw[fin 64 (by omega),rW (by omega) (by omega)]
def TV(h:0<=n)(i:Nat)(a:i<8):kG n i=n/2^(8*i)%256:=by
 unfold kG;rw[IT,yt _ (jk (oH (by decide))),show min (toNat ((8:Int)*(i:Int))) (IntKind.bits .u64)=8*i by simp[IntKind.bits];omega]
def mod_mul(n p q:Int)(a:0<p)(b:0<q):n%p+n/p%q*p=n%(p*q):=by
 have d:=Int.mul_ediv_add_emod n p;have f:=Int.mul_ediv_add_emod (n/p) q;have j:=mT n (kg a);have l:=pq n a;have i:=mT (n/p) (kg b);have k:=pq (n/p) b;have e:n=(n%p+n/p%q*p)+(p*q)*(n/p/q):=by
  have:p*(q*(n/p/q)+n/p%q)+n%p=n:=by rw[f];exact d
  rw[Int.mul_add]at this;rw[Int.mul_comm (n/p%q) p,Int.mul_assoc];omega
 have g:n%p+n/p%q*p<p*q:=by
  have:n/p%q*p<=(q-1)*p:=JD (by omega) (jk a)
  rw[Int.sub_mul,Int.one_mul,Int.mul_comm q p]at this;omega
 have c:0<=n%p+n/p%q*p:=Int.add_nonneg j (uq i (jk a));generalize n%p+n/p%q*p=z at*;rw[e,Int.add_mul_emod_self_left,Int.emod_eq_of_lt c g]
def Dk(h:0<=n):∀(k i:Nat),i+k<=8->Ix (iJ n k i) i (n%2^(8*i))=n%2^(8*(i+k))
 |0,i,_=>rfl
 |k+1,i,j=>by
  have c:=TV h i (by omega)
  have a:(0:Int)<2^(8*i):=oH (by decide)
  have g:(2:Int)^(8*(i+1))=2^(8*i)*256:=by rw[Nat.mul_add,Int.pow_add];rfl
  have l:(2:Int)^(8*i)<=2^56:=by
   have:(2:Nat)^(8*i)<=2^56:=DY (by decide) (by omega)
   exact_mod_cast this
  have d:=mT n (kg a);have f:=pq n a;have b:0<=kG n i/\kG n i<256:=by rw[c];exact⟨mT _ (by decide),pq _ (by decide)⟩
  have e:n%2^(8*i)+kG n i*2^(8*i)=n%2^(8*(i+1)):=by
   rw[c,g];exact mod_mul n _ 256 a (by decide)
  have m:kG n i*2^(8*i)<=255*2^(8*i):=JD (by omega) (jk a)
  rw[iJ,Ix,qD (n:=kG n i) (by omega) (by omega),show min (toNat ((8:Int)*(i:Int))) (IntKind.bits .u64)=8*i by simp[IntKind.bits];omega]
  rw[qD (n:=kG n i*2^(8*i)) (uq b.1 (jk a)) (by omega)]
  rw[orI .u64 (.inr (.inl rfl)) ⟨d,f⟩ b.1 (.inr (.inr ⟨rfl,by omega⟩)),e]
  have:=Dk h k (i+1) (by omega)
  rw[this,show i+1+k=i+(k+1) by omega]
def IU(h:0<=n)(k:Nat)(a:k<=8):ll (iJ n k 0)=n%2^(8*k):=by
 have:=Dk h k 0 (by omega)
 rw[cy]at this;rw[<-this,ll];congr 1
 simp
def V2(h:Be n):wrap .u32 (ll (iJ n 4 0))=n:=by
 have:=h.2;rw[IU h.1 4 (by decide),TU]
 have e:(2:Int)^(8*4)=4294967296:=rfl;rw[e];have:=h.1;omega
def Lw(h:0<=n/\n<18446744073709551616):ll (iJ n 8 0)=n:=by
 rw[IU h.1 8 (by decide)]
 have e:(2:Int)^(8*8)=18446744073709551616:=rfl;rw[e];omega
def Ly(h:Dc d):TI (pf d)=d:=by
 have e:TI (pf d)=⟨wrap .u32 (ll (iJ d.nr 4 0)),wrap .u32 (ll (iJ d.aq 4 0)),ll (iJ d.ip 8 0),ll (iJ d.a0 8 0),ll (iJ d.a1 8 0),ll (iJ d.a2 8 0),ll (iJ d.a3 8 0),ll (iJ d.a4 8 0),ll (iJ d.a5 8 0)⟩:=rfl;rw[e,V2 h.nr,V2 h.aq,Lw h.ip,Lw h.a0,Lw h.a1,Lw h.a2,Lw h.a3,Lw h.a4,Lw h.a5]
def M3(h:Dc d):gU d 0=d.nr:=V2 h.nr
def Dl(h:Dc d):gU d 4=d.aq:=V2 h.aq
def alg(a:Int)(high:Bool):Int:=wrap .u32 (ll (bif high then[kG a 4,kG a 5,kG a 6,kG a 7]else[kG a 0,kG a 1,kG a 2,kG a 3]))
def Da.arg(d:Da)(i:Nat):Int:=match i with|0=>d.a0|1=>d.a1|2=>d.a2|3=>d.a3|4=>d.a4|_=>d.a5
def IV(d:Da)(i:Nat)(a:i<6)(high:Bool):gU d (bif high then 16+8*i+4 else 16+8*i)=alg (d.arg i) high:=by
 match i,a with
 |0,_=>cases high<;>rfl
 |1,_=>cases high<;>rfl
 |2,_=>cases high<;>rfl
 |3,_=>cases high<;>rfl
 |4,_=>cases high<;>rfl
 |5,_=>cases high<;>rfl
def M4(h:0<=k)(i:Nat)(a:i<4):kB k i=k/2^(8*i)%256:=by
 unfold kB;rw[IT,yt _ (jk (oH (by decide))),show min (toNat ((8:Int)*(i:Int))) (IntKind.bits .u32)=8*i by simp[IntKind.bits];omega]
def Gi{i:Nat}(e:i<4)(d:0<=c/\c<2^(8*i))(b:0<=x/\x<256):AP c x i=c+x*2^(8*i):=by
 have a:(0:Int)<2^(8*i):=oH (by decide)
 have f:(2:Int)^(8*i)<=2^24:=by
  have:(2:Nat)^(8*i)<=2^24:=DY (by decide) (by omega)
  exact_mod_cast this
 have g:x*2^(8*i)<=255*2^(8*i):=JD (by omega) (jk a)
 unfold AP;rw[AB (n:=x) (by omega) (by omega),show min (toNat ((8:Int)*(i:Int))) (IntKind.bits .u32)=8*i by simp[IntKind.bits];omega]
 rw[AB (n:=x*2^(8*i)) (uq b.1 (jk a)) (by omega)]
 exact orI .u32 (.inl rfl) d b.1 (.inr (.inl ⟨rfl,by omega⟩))
def Lz(u:jQ x=true)(o:Be x.k)(r:List Int):VP (mc x++r)=x:=by
 simp[jQ,cond_eq_ite]at u;obtain⟨c,w,v,k⟩:=x;simp only at u o;have m:=o.1;have G:=o.2;have f:=M4 m 0 (by decide)
 have b:=M4 m 1 (by decide)
 have g:=M4 m 2 (by decide)
 have l:=M4 m 3 (by decide)
 simp only[Nat.mul_zero,Int.pow_zero,Int.ediv_one,Nat.mul_one]at f b;have d:(2:Int)^8=256:=rfl;have t2:(2:Int)^(8*2)=65536:=rfl;have h:(2:Int)^(8*3)=16777216:=rfl;rw[d]at b;rw[t2]at g;rw[h]at l;have z:AP (AP (AP (AP 0 (kB k 0) 0) (kB k 1) 1) (kB k 2) 2) (kB k 3) 3=k:=by
  have p:=Gi (c:=0) (x:=kB k 0) (i:=0) (by decide) ⟨by decide,by decide⟩ ⟨by rw[show kB k 0=k%256 from f];omega,by rw[show kB k 0=k%256 from f];omega⟩
  have p:AP 0 (kB k 0) 0=k%256:=by rw[show AP 0 (kB k 0) 0=0+kB k 0*2^(8*0)from p,show kB k 0=k%256 from f];simp
  have q:=Gi (c:=k%256) (x:=kB k 1) (i:=1) (by decide) ⟨by omega,by show k%256<256;omega⟩ ⟨by rw[show kB k 1=k/256%256 from b];omega,by rw[show kB k 1=k/256%256 from b];omega⟩
  have q:AP (k%256) (kB k 1) 1=k%65536:=by rw[show AP (k%256) (kB k 1) 1=k%256+kB k 1*256 from q,show kB k 1=k/256%256 from b];omega
  have s:=Gi (c:=k%65536) (x:=kB k 2) (i:=2) (by decide) ⟨by omega,by show k%65536<65536;omega⟩ ⟨by rw[show kB k 2=k/65536%256 from g];omega,by rw[show kB k 2=k/65536%256 from g];omega⟩
  have s:AP (k%65536) (kB k 2) 2=k%16777216:=by rw[show AP (k%65536) (kB k 2) 2=k%65536+kB k 2*65536 from s,show kB k 2=k/65536%256 from g];omega
  have t:=Gi (c:=k%16777216) (x:=kB k 3) (i:=3) (by decide) ⟨by omega,by show k%16777216<16777216;omega⟩ ⟨by rw[show kB k 3=k/16777216%256 from l];omega,by rw[show kB k 3=k/16777216%256 from l];omega⟩
  have t:AP (k%16777216) (kB k 3) 3=k:=by rw[show AP (k%16777216) (kB k 3) 3=k%16777216+kB k 3*16777216 from t,show kB k 3=k/16777216%256 from l];omega
  rw[p,q,s,t]
 have y:cH .or .i64 (wrap .i64 (wrap .u8 c)) (wrap .i64 ((wrap .i64 (wrap .u8 (fdiv c (2^(min (toNat 8) (IntKind.bits .i64))))))*2^(min (toNat 8) (IntKind.bits .i64))))=c:=by
  rw[show min (toNat 8) (IntKind.bits .i64)=8 from rfl,yt _ (by decide),IT,IT,d]
  rw[rW (n:=c%256) (by omega) (by omega),rW (n:=c/256%256) (by omega) (by omega),rW (n:=c/256%256*256) (by omega) (by omega)]
  have:=orI .i64 (.inr (.inr rfl)) (a:=c%256) (c:=c/256%256) (e:=8) ⟨by omega,by rw[d];omega⟩ (by omega) (.inl (by rw[d];omega))
  rw[d]at this;rw[this];omega
 have j:∀n:Int,0<=n->n<=255->wrap .i64 (wrap .u8 n)=n:=fun n D E=>by rw[IT,rW (by omega) (by omega)];omega
 show In.mk (cH .or .i64 (wrap .i64 (wrap .u8 c)) (wrap .i64 ((wrap .i64 (wrap .u8 (fdiv c (2^(min (toNat 8) (IntKind.bits .i64))))))*2^(min (toNat 8) (IntKind.bits .i64))))) (wrap .i64 (wrap .u8 w)) (wrap .i64 (wrap .u8 v)) (AP (AP (AP (AP 0 (kB k 0) 0) (kB k 1) 1) (kB k 2) 2) (kB k 3) 3)=_
 rw[y,z,j w (by omega) (by omega),j v (by omega) (by omega)]
def qm:∀(l:List In)(a b:List Int),fL l a=some b->b=a++l.flatMap mc/\∀x∈l,jQ x=true
 |[],a,b,h=>by simp[fL]at h;subst h;simp
 |x::t,a,b,h=>by
  unfold fL at h;cases hr : !jQ x<;>rw[hr]at h
  .obtain⟨d,e⟩:=qm t _ b h
   refine⟨by rw[d];simp,fun y c=>?_⟩
   rcases aZ.1 c with rfl|c
   .simpa using hr
   .exact e y c
  .simp at h
def Dm:∀(l:List In)(n:Nat)(b:List In),(∀x∈l,jQ x=true/\Be x.k)->l.length<n->qk n (l.flatMap mc) b=b++l
 |[],n,b,_,a=>by
  cases n with
  |zero=>simp at a
  |succ n=>simp[qk]
 |x::t,0,b,_,a=>by simp at a
 |x::t,n+1,b,h,a=>by
  obtain⟨d,e⟩:=h x aX;have c:(mc x).length=8:=rfl;rw[fe,qk,bE (by simp[c];omega),aj,Lz d e,List.drop_append,D6 (by omega),dT,c,lG,gh]
  rw[Dm t n _ (fun y f=>h y (aW _ f)) (by simpa using a)]
  simp
def IW(h:fL l []=some b)(e:∀x∈l,Be x.k):Iy b=(l,0):=by
 obtain⟨a,d⟩:=qm l [] b h;rw[dT]at a;have hlen:b.length=8*l.length:=by
  rw[a,List.length_flatMap];have:∀l:List In,(l.map fun x=>(mc x).length).sum=8*l.length:=by
   intro l;induction l with
   |nil=>rfl
   |cons x l f=>simp only[bH,eZ,f,aE];show 8+_=_;omega
  exact this l
 unfold Iy;rw[show(tmod (b.length:Int) 8 !=0)=false by rw[uG (by omega)];simp;omega,af]
 have:=Dm l (b.length+1) [] (fun x c=>⟨d x c,e x c⟩) (by omega)
 rw[<-a]at this;rw[this,dT]
abbrev xQ:=Int×Int×Cx
def hO(rec:Int->Wv->Option (Except xQ Wv))(l:List Fl):List Tok->Bool->Wv->Option (Except xQ Wv)
 |[],_,x=>some (.ok {x with stack:=x.stack.dropLast})
 |t::a,soft,x=>bif(bif t.kind !=5 then true else !(t.text==jq))then hO rec l a soft {x with eY:=x.eY++[t]}else
  match a with
  |[]=>bif soft then none else some (.error (3,t.file,t.spot))
  |p::a=>bif soft then none else
   bif(fI l x p).2 !=0 then some (.error ((fI l x p).2,t.file,t.spot))else
   match rec (fI l x p).1 {x with n:=x.n+1}with
   |none=>none
   |some (.error f)=>some (.error f)
   |some (.ok y)=>hO rec l a true y
def iK(l:List Fl):Nat->Int->Wv->Option (Except xQ Wv)
 |0,_,_=>none
 |d+1,m,x=>match l[m.toNat]? with
  |none=>none
  |some f=>match jL f.text m with
   |.error (e,c)=>some (.error (e,m,c))
   |.ok a=>hO (iK l d) l a false {x with stack:=x.stack++[m]}
def xd(d:∀m x y,rec m x=some (.ok y)->y.stack=x.stack/\y.eY.length<=x.eY.length+K):∀(a:List Tok)(soft:Bool)(x y:Wv),hO rec l a soft x=some (.ok y)->
  y.stack=x.stack.dropLast/\y.eY.length<=x.eY.length+a.length+(bif soft then 0 else K)
 |[],soft,x,y,h=>by
  simp only[hO,ay,Except.ok.injEq]at h;subst h;exact⟨rfl,by simp⟩
 |t::a,soft,x,y,h=>by
  unfold hO at h;cases h1:(bif t.kind !=5 then true else !(t.text==jq))<;>rw[h1]at h<;>simp only[aj,af]at h
  .match a,h with
   |[],h=>cases soft<;>simp at h
   |p::a,h=>
    cases soft with
    |true=>simp at h
    |false=>
     simp only[af]at h;cases h2:((fI l x p).2 !=0)<;>rw[h2]at h<;>simp only[aj,af]at h
     .split at h
      .simp at h
      .simp at h
      .rename_i z g
       obtain⟨e,f⟩:=d _ _ _ g;obtain⟨b,c⟩:=xd d a true z y h;simp only[aj,af,aE]at e f c⊢;exact⟨by rw[b,e],by omega⟩
     .simp at h
  .obtain⟨b,c⟩:=xd d a soft _ y h
   simp only[dw,aE,cN]at b c⊢;exact⟨b,by omega⟩
def xe(l:List Fl):∀(d:Nat)(m:Int)(x y:Wv),iK l d m x=some (.ok y)->y.stack=x.stack/\y.eY.length<=x.eY.length+20000*d
 |0,m,x,y,h=>by simp[iK]at h
 |d+1,m,x,y,h=>by
  unfold iK at h;split at h<;>try(simp at h;done)
  rename_i f g;split at h
  .simp at h
  .rename_i c e
   obtain⟨a,b⟩:=xd (xe l d) c false _ y h;have:=zP e;simp only[af]at a b;refine⟨by rw[a];simp,by omega⟩
def Dn(a:List Tok)(t:Tok):a.map Tok.row++([[N t.kind,S t.text,N t.file,C t.spot]]:Rw)=(a++[t]).map Tok.row:=by simp[Tok.row]
def O5(l:List Fl)(K:List AV->List Bx->Prop):Except xQ Wv->Prop
 |.error (e,f,c)=>e≠0/\∃y:Wv,K [.agg [N e,N f,C c]] [wvS l y]
 |.ok y=>K [.agg [N 0,N 0,C Fc]] [wvS l y]
def O5.mono(h:O5 l K R)(k:∀r y,K r [wvS l y]->a r [wvS l y]):O5 l a R:=by
 revert h
 cases R with
 |error f=>exact fun⟨b,y,c⟩=>⟨b,y,k _ _ c⟩
 |ok y=>exact fun h=>k _ _ h
def acO(l:List Fl)(rec:Int->Wv->Option (Except xQ Wv))(ae:List Tok)(w:ae.length<=2^40)(c d:Int)(f:Cx):∀(b:List Tok)(i:Nat)(x:Wv)(R:Except xQ Wv),ae.drop i=b->x.stack≠[]->x.stack.length<=2^40->x.eY.length+b.length<=2^40->hO rec l b true x=some R ->
  O5 l (Lp f93 0 (oy (ae.map Tok.row) i (l.map Fl.row) (x.stack.map fun n=>[N n]) x.n (x.eY.map Tok.row) c d f) 1) R
 |[],i,x,R,h,k,o,j,a=>by
  simp only[hO,ay]at a;subst a;have:0<x.stack.length:=by cases hx:x.stack with|nil=>exact absurd hx k|cons=>simp
  refine RR _ _ _ _ _ _ _ _ _ (aP (l:=ae) (by simp) h ⟨aC (by simp;omega) (by simp;omega),⟨by simp,by simp;omega,by simp;omega⟩,ai rfl ?_⟩)
  have e:drop 0 (take (toNat (((x.stack.map fun n=>[N n]).length:Int)-1)) (x.stack.map fun n=>[N n]))=x.stack.dropLast.map fun n=>[N n]:=by
   rw[gh,ao,show toNat ((x.stack.length:Int)-1)=x.stack.length-1 by omega,D4,iq]
  rw[e]
 |t::b,i,x,R,h,k,o,j,a=>by
  obtain⟨q,s,z⟩:=drop_cons h;have g:(ae.map Tok.row)[toNat (i:Int)]?=some [N t.kind,S t.text,N t.file,C t.spot]:=aQ q;unfold hO at a;cases hk:(bif t.kind !=5 then true else !(t.text==jq))<;>rw[hk]at a<;>simp only[aj,af]at a
  .cases b<;>simp at a
  .have v:=acO l rec ae w c d f b (i+1) {x with eY:=x.eY++[t]} R s k o (by simp at j⊢; omega) a
   refine v.mono ?_;have step:∀r h,Lp f93 0 (oy (ae.map Tok.row) ((i:Int)+1) (l.map Fl.row) (x.stack.map fun n=>[N n]) x.n ((x.eY++[t]).map Tok.row) c d f) 1 r h ->
     Lp f93 0 (oy (ae.map Tok.row) i (l.map Fl.row) (x.stack.map fun n=>[N n]) x.n (x.eY.map Tok.row) c d f) 1 r h:=by
    intro r p u;have push:(x.eY.map Tok.row++([[N t.kind,S t.text,N t.file,C t.spot]]:Rw)).length*48<=2^47/\au ((i:Int)+1)/\Lp f93 0 (oy (ae.map Tok.row) ((i:Int)+1) (l.map Fl.row) (x.stack.map fun n=>[N n]) x.n (x.eY.map Tok.row++([[N t.kind,S t.text,N t.file,C t.spot]]:Rw)) c d f) 1 r p:=by
     refine⟨by simp at j⊢; omega,aC,?_⟩
     rw[Dn];exact u
    refine RR _ _ _ _ _ _ _ _ _ (aK (l:=ae) (by simp) h ⟨_,_,_,_,by omega,g,ad (fun m=>⟨_,_,_,_,by omega,g,push⟩) fun m=>⟨_,_,_,_,by omega,g,bt ?_ ⟨_,_,_,_,by omega,g,push⟩⟩⟩)
    rw[m]at hk;exact hk
   exact fun r y=>step r _
abbrev acP(l:List Fl)(m:Int)(x:Wv)(R:Except xQ Wv):Prop:=O5 l (al 93 [.aB 0 0,vN m] [wv l x]) R
def TW(h:Lp f93 0 a 1 r [wv l y]):Lp f93 0 a 1 r [wvS l y]:=h.wc [(0,1)]
def L93(l:List Fl)(d:Nat)(hp:∀f∈l,f.path.length<=2^28)(A:∀m x R,iK l d m x=some R->WOK l x->0<=m->x.stack.length+d<=2^30->x.eY.length+20000*d<=2^40->acP l m x R)(ae:List Tok)(b2:ae.length<=2^30)(a4:∀t∈ae,t.text.length<=2^28)(c s:Int)(v:Cx):
  ∀(k:List Tok)(i:Nat)(x:Wv)(R:Except xQ Wv),ae.drop i=k->x.stack≠[]->WOK l x->x.stack.length+d<=2^30->x.eY.length+k.length+20000*d<=2^40->hO (iK l d) l k false x=some R ->
   O5 l (Lp f93 0 (zQ (ae.map Tok.row) i (l.map Fl.row) (x.stack.map fun n=>[N n]) x.n (x.eY.map Tok.row) c s v) 1) R
 |[],i,x,R,h,G,ok,M,E,g=>by
  simp only[hO,ay]at g;subst g;have hs:=ok.deep;have:0<x.stack.length:=by cases hx:x.stack with|nil=>exact absurd hx G|cons=>simp
  refine RQ _ _ _ _ _ _ _ _ _ (aP (l:=ae) (by simp) h ⟨aC (by simp;omega) (by simp;omega),⟨by simp,by simp;omega,by simp;omega⟩,ai rfl ?_⟩)
  have e:drop 0 (take (toNat (((x.stack.map fun n=>[N n]).length:Int)-1)) (x.stack.map fun n=>[N n]))=x.stack.dropLast.map fun n=>[N n]:=by
   rw[gh,ao,show toNat ((x.stack.length:Int)-1)=x.stack.length-1 by omega,D4,iq]
  rw[e]
 |t::k,i,x,R,h,G,ok,M,E,g=>by
  obtain⟨h1,h2,h3⟩:=drop_cons h;have q:(ae.map Tok.row)[toNat (i:Int)]?=some [N t.kind,S t.text,N t.file,C t.spot]:=aQ h1;unfold hO at g;cases hk:(bif t.kind !=5 then true else !(t.text==jq))<;>rw[hk]at g<;>simp only[aj,af]at g
  .have a0:(t.kind !=5)=false:=by revert hk;cases t.kind !=5<;>simp
   have b1:(!(t.text==[35,105,110,99,108,117,100,101]))=false:=by rw[a0]at hk;exact hk
   have e:drop (toNat (i:Int)) (take (ae.map Tok.row).length (ae.map Tok.row))=(t::k).map Tok.row:=by
    rw[dH (ar _),toNat_cast,<-mR,h]
   have o:=agf l x (t::k) ok G (fun u hu=>a4 u (uA (h▸hu))) hp
   have J:∀r D,(∃target Z F,al 130 [.aB 0 0,vL 4 ((t::k).map Tok.row)] [wv l x] [vN target,vN Z] [.aH [vL 2 (l.map Fl.row),O 1 (x.stack.map fun n=>[N n]),vN F,O 4 (x.eY.map Tok.row)]]/\aw (Z !=0) (Fi r D [.agg [N Z,N t.file,C t.spot]] [.aH [vL 2 (l.map Fl.row),O 1 (x.stack.map fun n=>[N n]),vN F,O 4 (x.eY.map Tok.row)]])
     (∃Y a8 a9 Q T X,al 93 [.aB 0 0,vN target] [.aH [vL 2 (l.map Fl.row),O 1 (x.stack.map fun n=>[N n]),vN F,O 4 (x.eY.map Tok.row)]] [.agg [N Y,N a8,C a9]] [.aH [vL 2 (l.map Fl.row),vL 1 Q,vN T,O 4 X]]/\aw (Y !=0) (Fi r D [.agg [N Y,N a8,C a9]] [.aH [vL 2 (l.map Fl.row),vL 1 Q,vN T,O 4 X]])
     (au ((i:Int)+1)/\au (((i:Int)+1)+1)/\Lp f93 0 (oy (ae.map Tok.row) (((i:Int)+1)+1) (l.map Fl.row) Q T X c s v) 1 r D)))->
     Lp f93 0 (zQ (ae.map Tok.row) i (l.map Fl.row) (x.stack.map fun n=>[N n]) x.n (x.eY.map Tok.row) c s v) 1 r D:=by
    intro r D ⟨a,b,n',e1,w⟩;refine RQ _ _ _ _ _ _ _ _ _ (aK (l:=ae) (by simp) h ⟨_,_,_,_,by omega,q,aU a0 ⟨_,_,_,_,by omega,q,aU b1 ⟨⟨by omega,by simp;omega,by omega⟩,a,b,n',by rw[e];exact e1,?_⟩⟩⟩)
    revert w
    cases(b !=0)with
    |true=>exact fun w=>⟨_,_,_,_,by omega,q,_,_,_,_,by omega,q,w⟩
    |false=>exact fun w=>w
   cases k with
   |nil=>
    simp at g;subst g;exact⟨by decide,_,TW (y:=x) (J _ _ ⟨_,_,_,o,bt rfl fi⟩)⟩
   |cons p k=>
    simp only[kj,af]at g;rw[show vj l x (t::p::k)=fI l x p from rfl]at o
    cases ZS:((fI l x p).2 !=0)<;>rw[ZS]at g<;>simp only[aj,af]at g
    .have H:((fI l x p).2==0)=true:=by revert ZS;simp[bne]
     rw[H]at o;simp only[aj]at o;have a6:WOK l {x with n:=x.n+1}/\0<=(fI l x p).1:=by
      have j:(fI l x p).2=0:=by simpa using H
      unfold fI at j⊢;revert j
      cases p.kind !=4<;>simp only[aj,af]<;>try(intro j;simp at j;done)
      cases !(o1 (l.getD (x.stack.getLastD 0).toNat ⟨[],[]⟩).path p.text).2<;>simp only[aj,af]<;>try(intro j;simp at j;done)
      cases hf : !(fy l (o1 (l.getD (x.stack.getLastD 0).toNat ⟨[],[]⟩).path p.text).1).2<;>simp only[aj,af]<;>try(intro j;simp at j;done)
      cases x.stack.any ((fy l (o1 (l.getD (x.stack.getLastD 0).toNat ⟨[],[]⟩).path p.text).1).1 == ·)<;>simp only[aj,af]<;>try(intro j;simp at j;done)
      cases decide ((x.stack.length:Int)>=8)<;>simp only[aj,af]<;>try(intro j;simp at j;done)
      cases hn:decide (x.n>=1000)<;>simp only[aj,af]<;>try(intro j;simp at j;done)
      intro _;have hn:=bI hn;have:=ok.n;exact⟨⟨ok.len,ok.path,ok.stack,ok.deep,by simp;omega⟩,(vk (by simpa using hf)).1⟩
     have K:=fun R h=>A (fI l x p).1 {x with n:=x.n+1} R h a6.1 a6.2 M (by simp at E⊢; omega)
     cases hw:iK l d (fI l x p).1 {x with n:=x.n+1}with
     |none=>rw[hw]at g;simp at g
     |some R0=>
      rw[hw]at g;have a5:=K R0 hw;cases R0 with
      |error f=>
       obtain⟨e0,f1,f2⟩:=f;simp at g;subst g;obtain⟨a7,y,hy⟩:=a5;exact⟨a7,y,J _ _ ⟨_,_,_,o,aU ZS ⟨_,_,_,_,_,_,hy,bt (by simpa using a7) fi⟩⟩⟩
      |ok y=>
       obtain⟨I,y2⟩:=xe l d _ _ _ hw;have y2:y.eY.length<=x.eY.length+20000*d:=y2;have I:y.stack=x.stack:=I;have b0:ae.drop (i+2)=k:=by
        obtain⟨a1,a2,a3⟩:=drop_cons h;exact(drop_cons a2).2.1
       have hs:=ok.deep;have b4:=acO l (iK l d) ae (by omega) c s v k (i+2) y R b0 (by rw[I];exact G) (by rw[I];omega) (by simp only[aE]at E;omega) g
       refine b4.mono fun r z b3=>J _ _ ⟨_,_,_,o,aU ZS ⟨_,_,_,_,_,_,a5,aU rfl ⟨aC,aC,?_⟩⟩⟩
       exact b3
    .obtain rfl:=ax g
     have H:((fI l x p).2==0)=false:=by revert ZS;simp[bne]
     rw[H]at o;simp only[af]at o;exact⟨by simpa using ZS,_,TW (y:=x) (J _ _ ⟨_,_,_,o,bt ZS fi⟩)⟩
  .have K:=L93 l d hp A ae b2 a4 c s v k (i+1) {x with eY:=x.eY++[t]} R h2 G ⟨ok.len,ok.path,ok.stack,ok.deep,ok.n⟩ M (by simp at E⊢; omega) g
   refine K.mono fun r y hh=>?_
   have push:(x.eY.map Tok.row++([[N t.kind,S t.text,N t.file,C t.spot]]:Rw)).length*48<=2^47/\au ((i:Int)+1)/\Lp f93 0 (zQ (ae.map Tok.row) ((i:Int)+1) (l.map Fl.row) (x.stack.map fun n=>[N n]) x.n (x.eY.map Tok.row++([[N t.kind,S t.text,N t.file,C t.spot]]:Rw)) c s v) 1 r [wvS l y]:=by
    refine⟨by simp at E⊢; omega,aC,?_⟩
    rw[Dn];exact hh
   refine RQ _ _ _ _ _ _ _ _ _ (aK (l:=ae) (by simp) h ⟨_,_,_,_,by omega,q,ad (fun h4=>⟨_,_,_,_,by omega,q,push⟩) fun h4=>⟨_,_,_,_,by omega,q,bt ?_ ⟨_,_,_,_,by omega,q,push⟩⟩⟩)
   rw[h4]at hk;exact hk
def C93(l:List Fl)(k:∀f∈l,f.path.length<=2^28):∀(d:Nat)(m:Int)(x:Wv)(R:Except xQ Wv),iK l d m x=some R->WOK l x->0<=m->x.stack.length+d<=2^30->x.eY.length+20000*d<=2^40->acP l m x R
 |0,m,x,R,h,_,_,_,_=>by simp[iK]at h
 |d+1,m,x,R,h,ok,i,G,D=>by
  unfold iK at h;split at h<;>try(simp at h;done)
  rename_i f g;have w:=aM g;have H:=(ok.path f w).2;have E:=ok.deep;have q:(l.map Fl.row)[toNat m]?=some [S f.path,S f.text]:=by rw[bw,g];rfl
  have b:=af7 f.text m (by omega)
  split at h
  .rename_i e c a
   obtain rfl:=ax h;rw[a]at b;have p:e≠0:=by
    unfold jL at a;cases h1:decide ((f.text.length:Int)>20000)<;>rw[h1]at a<;>simp only[aj,af]at a
    .split at a<;>simp at a
     omega
    .simp at a
     omega
   exact⟨p,x,(W93 _ _ _ _ _ ⟨_,_,i,q,_,_,_,_,b,bt (by simpa using p) fi⟩).wc [(0,1)]⟩
  .rename_i o j
   rw[j]at b;have z:=zP j;have v:=xB j;have:=L93 l d k (C93 l k d) o (by omega) (fun t h=>by have:=v t h;omega) 0 0 (some (0,0)) o 0 {x with stack:=x.stack++[m]} R rfl (by simp) ⟨ok.len,ok.path,fun s h=>?_,by simp;omega,ok.n⟩ (by simp;omega) (by simp;omega) h
   .refine this.mono fun r y u=>W93 _ _ _ _ _ ⟨_,_,i,q,_,_,_,_,b,aU rfl ⟨by simp;omega,?_⟩⟩
    rw[show x.stack.map (fun n=>[N n])++([[N m]]:Rw)=(x.stack++[m]).map fun n=>[N n] by simp]
    exact u
   .rcases bn.1 h with h|h
    .exact ok.stack s h
    .simp at h;subst h;exact⟨i,(aG.1 g).1⟩
def nG(l:List Fl)(a:By):Option (Except xQ (List Tok)):=
 bif !(fy l a).2 then some (.error (4,-1,Fc))else
 match iK l 9 (fy l a).1 ⟨[],0,[]⟩with
 |none=>none
 |some (.error f)=>some (.error f)
 |some (.ok y)=>some (.ok y.eY)
def ZT:Except xQ (List Tok)->List AV
 |.ok l=>[vL 4 (l.map Tok.row),.agg [N 0,N 0,C Fc]]
 |.error (e,f,c)=>[vL 4 [],.agg [N e,N f,C c]]
def C75(l:List Fl)(b:By)(g:l.length<=2^40)(d:∀f∈l,f.path.length<=2^28/\f.text.length<=2^28)(m:b.length<=2^31)(h:nG l b=some R):al 75 [vL 2 (l.map Fl.row),vS b] [] (ZT R) []:=by
 unfold nG at h;refine W75 _ _ ⟨_,_,C76 l b g (fun f a=>by have:=(d f a).1;omega) m,ad (fun c=>?_) fun c=>?_⟩
 .rw[c]at h
  obtain rfl:=ax h;exact fi
 .rw[c]at h
  simp only[af]at h;have a:=vk (show(fy l b).2=true by simpa using c)
  have i:=fun R h=>C93 l (fun f a=>(d f a).1) 9 (fy l b).1 ⟨[],0,[]⟩ R h ⟨g,fun f a=>⟨by have:=(d f a).1;omega,by have:=(d f a).2;omega⟩,by simp,by simp,by simp⟩ a.1 (by simp) (by simp)
  split at h
  .simp at h
  .rename_i f e
   obtain rfl:=ax h;obtain⟨j,y,k⟩:=i _ e;exact⟨_,_,_,_,_,_,k,bt (by simpa using j) fi⟩
  .rename_i y e
   obtain rfl:=ax h;exact⟨_,_,_,_,_,_,i _ e,aU rfl fi⟩
def A31:bu:={an:=[(1,2,ah),(4,2,ah)]}
def W31(H:∃e f g i j a k l,al 55 [vL 2 b,vS c] [] [.agg [L 6 e,L 2 f,L 1 g,N i,N j],.agg [N a,N k,C l]] []/\aw (a !=0) (Fi r h [vL 4 [],.agg [N a,N k,C l]] [])
 (Qq 56 [.agg [L 6 e,L 2 f,L 1 g,N i,N j],vS d] [] fun n m=>aw (m !=0) (Fi r h [vL 4 [],.agg [N m,N (-1),C (some (0,0))]] [])
 (Fi r h [vL 4 n,.agg [N 0,N 0,C (some (0,0))]] []))):
  al 31 [vL 2 b,vS c,vS d] [] r h:=.of func31 A31 H
def A55:bu:={an:=[(1,2,ah),(3,1,iC),(3,2,fg),(3,3,fh),(4,2,ah),(5,6,ah),(5,11,ah),(5,13,ah),(5,15,ah)]}
def W55(a:Rw)(b:By)(H:∃e c f g,al 75 [vL 2 a,vS b] [] [vL 4 e,.agg [N c,N f,C g]] []/\aw (c !=0) (Fi r h [.agg [L 6 [],L 2 [],L 1 [],N 0,N 0],.agg [N c,N f,C g]] [])
 (L4 76 [vL 2 a,vS b] [] fun d u=>Qr a d fun v s=>Qr a d fun w t=>∃i,al 78 [vS s,vN (t.length:Int)] [] [vC i] []/\∃j k l m n o p q,al 77 [vL 4 e,.agg [N 0,N d,C i]] [] [.agg [L 6 j,L 2 k,L 1 l,N m,N n],.agg [N o,N p,C q]] []/\Fi r h [.agg [L 6 j,L 2 k,L 1 l,N m,N n],.agg [N o,N p,C q]] [])):
  al 55 [vL 2 a,vS b] [] r h:=.of func55 A55 H
def A56:bu:={an:=[(1,2,ah),(4,1,ah),(7,1,ah),(8,4,ah),(8,5,ah),(11,1,ah),(14,1,ah)]}
def W56(H:∃k d,al 79 [.agg [L 6 g,L 2 i,L 1 j,N a,N b],vS c] [] [vL 9 k,vN d] []/\aw (d !=0) (Fi r h [vL 4 [],vN d] [])
 (∃l e,al 80 [vL 9 k] [] [vL 2 l,vN e] []/\aw (e !=0) (Fi r h [vL 4 [],vN e] [])
 (Gw 81 [vS c] [] fun p t=>Kq 83 [vL 2 l,.agg [N a,N b]] [] fun q=>∃m f,al 82 [vW p,vL 5 q] [] [vL 5 m,vN f] []/\aw (f !=0) (Fi r h [vL 4 [],vN f] [])
 (Qq 84 [vL 5 m] [] fun n o=>aw (o !=0) (Fi r h [vL 4 [],vN o] [])
 (L4 35 [vL 4 n] [] fun u s=>aw (!s) (Fi r h [vL 4 [],vN 10] [])
 (Fi r h [vL 4 n,vN 0] [])))))):
  al 56 [.agg [L 6 g,L 2 i,L 1 j,N a,N b],vS c] [] r h:=.of func56 A56 H
def A17:bu:={an:=[(1,3,ah),(2,1,ah)]}
def W17(H:∃d e f g,al 31 [vL 2 a,vS b,vS c] [] [vL 4 d,.agg [N e,N f,C g]] []/\Hn 32 [vL 4 d] [] fun i=>Fi r h [vL 1 i,.agg [N e,N f,C g]] []):
  al 17 [vL 2 a,vS b,vS c] [] r h:=.of func17 A17 H
def A18:bu:={an:=[(1,1,ah),(4,1,ah),(7,1,ah),(10,2,ah)]}
def W18(H:Qq 33 [vL 1 b] [] fun o p=>aw (p !=0) (Fi r h [vW 0,vN p] [])
 (∃d e f g i j k l m a,al 34 [vL 1 c] [] [.agg [W d,W e,U f,U g,U i,U j,U k,U l,U m],vN a] []/\aw (a !=0) (Fi r h [vW 0,vN a] [])
 (L4 35 [vL 4 o] [] fun u t=>aw (!t) (Fi r h [vW 0,vN 10] [])
 (∃n q s,al 36 [vL 4 o,.agg [W d,W e,U f,U g,U i,U j,U k,U l,U m]] [] [vW n,vN q,vB s] []/\Fi r h [vW n,vN 0] [])))):
  al 18 [vL 1 b,vL 1 c] [] r h:=.of func18 A18 H
def se{B:Nat}(e:∀m x y,rec m x=some (.ok y)->(∀t∈x.eY,t.text.length<=B)->∀t∈y.eY,t.text.length<=B):∀(b:List Tok)(soft:Bool)(x y:Wv),hO rec l b soft x=some (.ok y)->
  (∀t∈b,t.text.length<=B)->(∀t∈x.eY,t.text.length<=B)->∀t∈y.eY,t.text.length<=B
 |[],soft,x,y,h,_,c=>by
  simp only[hO,ay,Except.ok.injEq]at h;subst h;exact c
 |t::b,soft,x,y,h,d,c=>by
  unfold hO at h;cases h1:(bif t.kind !=5 then true else !(t.text==jq))<;>rw[h1]at h<;>simp only[aj,af]at h
  .match b,h with
   |[],h=>cases soft<;>simp at h
   |p::b,h=>
    cases soft with
    |true=>simp at h
    |false=>
     simp only[af]at h;cases h2:((fI l x p).2 !=0)<;>rw[h2]at h<;>simp only[aj,af]at h
     .split at h
      .simp at h
      .simp at h
      .rename_i z a
       exact se e b true z y h (fun t h=>d t (aW _ (aW _ h))) (e _ _ _ a c)
     .simp at h
  .refine se e b soft _ y h (fun t h=>d t (aW _ h)) fun z a=>?_
   rcases bn.1 a with a|a
   .exact c z a
   .simp at a;subst a;exact d z aX
def xR(l:List Fl):∀(d:Nat)(m:Int)(x y:Wv),iK l d m x=some (.ok y)->(∀t∈x.eY,t.text.length<=20000)->∀t∈y.eY,t.text.length<=20000
 |0,m,x,y,h,_=>by simp[iK]at h
 |d+1,m,x,y,h,a=>by
  unfold iK at h;split at h<;>try(simp at h;done)
  rename_i f e;split at h
  .simp at h
  .rename_i b c
   exact se (xR l d) b false _ y h (xB c) a
def vM(l:List Fl)(a:By):Option (fH×xQ):=match nG l a with
 |none=>none
 |some (.error f)=>some (⟨[],[],[],⟨0,0⟩⟩,f)
 |some (.ok b)=>some (Ad b 0 (fy l a).1 none)
structure FSm (l:List Fl) (root:By):Prop where
 len:l.length<=2^40
 each:∀f∈l,f.path.length<=2^28/\f.text.length<=2^28
 root:root.length<=2^31
def O6(c:FSm l b)(h:nG l b=some (.error f)):f.1≠0:=by
 unfold nG at h;cases h1 : !(fy l b).2<;>rw[h1]at h
 .rw[af]at h
  have a:=vk (show(fy l b).2=true by simpa using h1)
  have e:=fun R h=>C93 l (fun f a=>(c.each f a).1) 9 (fy l b).1 ⟨[],0,[]⟩ R h ⟨c.len,fun f a=>⟨by have:=(c.each f a).1;omega,by have:=(c.each f a).2;omega⟩,by simp,by simp,by simp⟩ a.1 (by simp) (by simp)
  split at h
  .simp at h
  .rename_i g d
   simp at h;subst h;exact(e _ d).1
  .simp at h
 .simp at h;subst h;decide
def TX(h:nG l a=some (.ok c)):(fy l a).2=true/\TK c:=by
 unfold nG at h;cases h1 : !(fy l a).2<;>rw[h1]at h
 .rw[af]at h
  refine⟨by simpa using h1,?_⟩
  split at h
  .simp at h
  .simp at h
  .rename_i y b
   simp at h;subst h;have d:=(xe l 9 _ _ _ b).2;have e:=xR l 9 _ _ _ b (by simp)
   simp at d;exact⟨by omega,fun t f=>by have:=e t f;omega⟩
 .simp at h
def C55(l:List Fl)(b:By)(a:FSm l b)(h:vM l b=some R):al 55 [vL 2 (l.map Fl.row),vS b] [] [qg R.1,SE R.2] []:=by
 unfold vM at h;split at h
 .simp at h
 .rename_i f c
  have m:=O6 a c;obtain rfl:=ax h;exact W55 _ _ ⟨_,_,_,_,C75 l b a.len a.each a.root c,bt (by simpa using m) fi⟩
 .rename_i k c
  obtain⟨g,tk⟩:=TX c;obtain⟨f1,f2⟩:=vk g;obtain rfl:=ax h;have d:l[(fy l b).1.toNat]?=some l[(fy l b).1.toNat]:=bo f2;have j:=aM d;have e:(l.map Fl.row)[toNat (fy l b).1]?=some [S (l[(fy l b).1.toNat]).path,S (l[(fy l b).1.toNat]).text]:=by rw[bw,d];rfl
  exact W55 _ _ ⟨_,_,_,_,C75 l b a.len a.each a.root c,aU rfl ⟨_,_,C76 l b a.len (fun f i=>by have:=(a.each f i).1;omega) a.root,_,_,f1,e,_,_,f1,e,_,C78 _ (by have:=(a.each _ j).2;omega),_,_,_,_,_,_,_,_,C77 k 0 _ none tk,fi⟩⟩
def lowerB(aq:By)(d:Act)(b:List Bd):List In×Int:=match qi b with
 |.error e=>([],e)
 |.ok a=>bif(fB (dc aq).1 (cA a d)).2 !=0 then([],(fB (dc aq).1 (cA a d)).2)else
  bif(gx (fB (dc aq).1 (cA a d)).1).2 !=0 then([],(gx (fB (dc aq).1 (cA a d)).1).2)else
  bif !(jR (gx (fB (dc aq).1 (cA a d)).1).1).2 then([],10)else((gx (fB (dc aq).1 (cA a d)).1).1,0)
def da(u:fH)(aq:By):List In×Int:=match eC u aq with
 |.error e=>([],e)
 |.ok a=>lowerB aq u.bO a
def IX:∀{l:List gu}{b:List Bd}{e:Int},iH u aq a l b = .error e->(e !=0)=true
 |[],b,e,h=>by simp[iH]at h
 |r::t,b,e,h=>by
  unfold iH at h;cases hz:(ep u aq r a).2 !=0<;>rw[hz]at h
  .exact IX h
  .simp at h;subst h;exact hz
def xf:∀{l:List cK}{a:List Bd}{e:Int},gp u aq l a = .error e->(e !=0)=true
 |[],a,e,h=>by simp[gp]at h
 |p::t,a,e,h=>by
  unfold gp at h;split at h
  .rename_i c b
   simp at h;subst h;exact IX b
  .exact xf h
def Dp(h:eC u aq = .error e):(e !=0)=true:=by
 unfold eC at h;cases h1 : !(dc aq).2<;>rw[h1]at h
 .cases h2 : !ji u<;>rw[h2]at h
  .rw[af,af]at h
   split at h
   .rename_i i b a
    simp at h;subst h;exact wU a
   .split at h
    .rename_i b a
     simp at h;subst h;exact Ic a
    .exact xf h
  .simp at h;subst h;rfl
 .simp at h;subst h;rfl
def xg:∀{a:List Bd}{m:List Mk}{e:Int},cS a m = .error e->(e !=0)=true
 |[],m,e,h=>by simp[cS]at h
 |b::t,m,e,h=>by
  unfold cS at h;cases h1 : !(cd b.act).2<;>rw[h1]at h
  .cases h2:(cv b.cond).2 !=0<;>rw[h2]at h
   .exact xg h
   .simp at h;subst h;exact h2
  .simp at h;subst h;rfl
def Bi:∀{m:List Mk}{y:Mk},y∈m->y.2.length<=kH m
 |z::m,y,h=>by
  rcases aZ.1 h with rfl|h
  .simp only[kH,bH,eZ];omega
  .have:=Bi h
   simp only[kH,bH,eZ]at this⊢;omega
def TY(h:stK s):Il s:=⟨by have:=h.1;omega,fun l a=>by have:=h.2 l a;omega⟩
def ZU(h:cS a []=.ok m)(d:V0 a):(bY m).length<=2^30/\∀c∈bY m,VI c:=by
 have b:=A5 a [] m 0 h ⟨by simp,by simp[kH],by simp⟩ d.sz
 have i:=b.len;have j:=b.st;have l:=d.len;refine⟨by unfold bY;rw[ao,wY,ao];omega,fun c f=>?_⟩
 obtain⟨k,_,rfl⟩:=bh.1 f;show(fq m k).length<=2^40/\∀s∈fq m k,Il s
 unfold fq;cases hg:gG m k with
 |none=>simp
 |some y=>
  have e:=(lX hg).1;have:=Bi e;exact⟨by show y.2.length<=_;omega,fun s g=>TY (b.each y e s g)⟩
def Dq:∀(l:List Sp),l.length<=gw l
 |[]=>by simp
 |s::l=>by have:=Dq l;simp only[gw,aE];omega
def Dr:∀{l:List Sn}{x:Sn},x∈l->x.steps.length<=ic l
 |y::l,x,h=>by
  rcases aZ.1 h with rfl|h
  .have:=Dq x.steps;simp only[ic];omega
  .have:=Dr h;simp only[ic];omega
def IY(a:By):Be (dc a).1:=by
 have k:∀n:Int,0<=n->n<4294967296->Be n:=fun n b c=>⟨b,c⟩
 unfold dc;cases a==[97,97,114,99,104,54,52]
 .cases a==[105,51,56,54]
  .cases a==[120,56,54,95,54,52]
   .exact k 0 (by decide) (by decide)
   .exact k 3221225534 (by decide) (by decide)
  .exact k 1073741827 (by decide) (by decide)
 .exact k 3221225655 (by decide) (by decide)
def IZ(h:(gx l).2=0):(gx l).1=vz l/\l.length<=4096:=by
 unfold gx at h⊢;cases h1 : !(dj l).1<;>rw[h1]at h
 .rw[af]at h⊢
  cases h2:decide ((l.length:Int)>4096)<;>rw[h2]at h
  .rw[af]at h⊢
   cases h3:decide (((vz l).length:Int)>4096)<;>rw[h3]at h
   .exact⟨rfl,by have:=bI h2;omega⟩
   .simp at h
  .simp at h
 .simp at h
structure acQ (aq:By) (d:Act) (bs:List Bd) (m:List Mk):Prop where
 syms:∀x∈(fB (dc aq).1 (cA (bY m) d)).1,Be x.k
 len:(fB (dc aq).1 (cA (bY m) d)).1.length<=2^40
def TZ(h:cS a []=.ok m)(c:V0 a):acQ aq d a m:=by
 have j:=Bc d h c;refine⟨V1 (IY aq) (Di d h fun b _=>O3 b.cond),?_⟩
 unfold fB;cases hr : !gb (cA (bY m) d) 0
 .have g:WB (fo (cD (nS (fo (fo (dE ⟨[],0,0⟩) 0 0 32 4) 1 0 21 (dc aq).1) ⟨1,0⟩) 1) 0 0 32 0) 4:=⟨by simp[fo,cD,nS,dE],by simp[fo,cD,nS,dE],by simp[fo,cD,nS,dE]⟩
  have i:1<=(cA (bY m) d).length:=by
   have e:=(mG d h c.nr).1;cases hsp:cA (bY m) d with
   |nil=>rw[hsp]at e;have f:(0:Int)=4294967296:=e;simp at f
   |cons x t=>simp
  have:=(sV (cA (bY m) d).length (cA (bY m) d) _ 4 (ar _) i g).l;simp only[af];omega
 .simp
def C56(u:fH)(aq:By)(z:oe u)(w:∀g,eC u aq = .ok g->V0 g):al 56 [qg u,vS aq] [] [vL 4 ((da u aq).1.map In.row),vN (da u aq).2] []:=by
 have n:=C79 u aq z;apply W56;unfold da;cases hr:eC u aq with
 |error e=>
  rw[hr]at n;exact⟨_,_,n,bt (Dp hr) fi⟩
 |ok g=>
  rw[hr]at n;have f:=w g hr;have Z:=f.len;have k:=C80 g (by omega) (fun b p=>by have:=f.sz b p;omega) f.nr
  refine⟨_,_,n,aU rfl ?_⟩;simp only[lowerB];unfold qi at k⊢;cases hc:cS g []with
  |error e=>
   rw[hc]at k;exact⟨_,_,k,bt (xg hc) fi⟩
  |ok m=>
   rw[hc]at k;have t:=TZ (aq:=aq) (d:=u.bO) hc f;obtain⟨E,G⟩:=ZU hc f;have q:=(mG u.bO hc f.nr).1;have Y:=Bc u.bO hc f;have X:=Di (R:=stK) u.bO hc fun b p=>⟨rV b.cond,fun x c=>by have:=A2 b.cond x c;have:=f.sz b p;omega⟩
   have M:∀(l:List Sn)(a b:Int),fp l a b->∀x∈l,x.lo<=x.hi:=by
    intro l;induction l with
    |nil=>intro a b _ x c;simp at c
    |cons y l D=>
     intro a b h x c;rcases aZ.1 c with rfl|c
     .exact h.2.1
     .exact D _ _ h.2.2 x c
   have T:∀x∈cA (bY m) u.bO,wZ x:=fun x c=>⟨by have:=Dr c;omega,fun s Q=>TY (X x c s Q)⟩
   have r:∀x∈cA (bY m) u.bO,0<=x.lo/\x.lo<4294967296/\0<=x.hi/\x.hi<4294967296:=fun x c=>by
    have i:=(pe q).2 x c;have j:=M _ _ _ q x c;omega
   have J:=C82 (dc aq).1 (cA (bY m) u.bO) (by omega) T r Y
   have K:=C84 (fB (dc aq).1 (cA (bY m) u.bO)).1 t.len;refine⟨_,_,k,aU rfl ⟨_,_,C81 aq,_,C83 (bY m) u.bO E G (sY hc f.nr),_,_,J,?_⟩⟩;simp only;refine ad (fun i=>ai (by rw[i];rfl) rfl) fun i=>⟨_,_,K,ad (fun j=>ai (by rw[i,j];rfl) rfl) fun j=>?_⟩
   have v:(gx (fB (dc aq).1 (cA (bY m) u.bO)).1).2=0:=by simpa using j
   obtain⟨H,F⟩:=IZ v;have I:=C35 (gx (fB (dc aq).1 (cA (bY m) u.bO)).1).1 (by rw[H];exact IS t.syms (by omega))
   exact⟨_,_,I,ad (fun o=>ai (by rw[i,j,o];rfl) rfl) fun o=>ai (by rw[i,j,o];rfl) rfl⟩
def jD(R:fH×xQ)(aq:By):List In×xQ:=bif R.2.1 !=0 then([],R.2)else bif(da R.1 aq).2 !=0 then([],((da R.1 aq).2,-1,some (0,0)))else((da R.1 aq).1,(0,0,some (0,0)))
def USm(R:fH×xQ)(aq:By):Prop:=R.2.1=0->oe R.1/\∀a,eC R.1 aq = .ok a->V0 a
def C31(l:List Fl)(b aq:By)(d:FSm l b)(h:vM l b=some R)(e:USm R aq):al 31 [vL 2 (l.map Fl.row),vS b,vS aq] [] [vL 4 ((jD R aq).1.map In.row),SE (jD R aq).2] []:=by
 apply W31;refine⟨_,_,_,_,_,_,_,_,C55 l b d h,ad (fun a=>ai (by rw[jD,a];rfl) rfl) fun a=>?_⟩
 obtain⟨f,g⟩:=e (by simpa using a)
 exact⟨_,_,C56 R.1 aq f g,ad (fun c=>ai (by rw[jD,a,c];rfl) rfl) fun c=>ai (by rw[jD,a,c];rfl) rfl⟩
def O7(u:fH)(aq:By):(da u aq).1.length<=4096:=by
 unfold da lowerB;split
 .simp
 .split
  .simp
  .rename_i a _
   cases h1:(fB (dc aq).1 (cA a u.bO)).2 !=0
   .cases h2:(gx (fB (dc aq).1 (cA a u.bO)).1).2 !=0
    .cases h3:(jR (gx (fB (dc aq).1 (cA a u.bO)).1).1).2
     .simp
     .exact(s4 h3).2.1
    .simp
   .simp
def kZ(R:fH×xQ)(aq:By):(jD R aq).1.length<=4096:=by
 unfold jD;cases R.2.1 !=0
 .cases(da R.1 aq).2 !=0
  .exact O7 _ _
  .simp
 .simp
def qn(R:fH×xQ)(aq:By):List Int:=(fL (jD R aq).1 []).getD []
def C17(l:List Fl)(a aq:By)(b:FSm l a)(h:vM l a=some R)(c:USm R aq):al 17 [vL 2 (l.map Fl.row),vS a,vS aq] [] [vL 1 (gX (qn R aq)),SE (jD R aq).2] []:=by
 apply W17;exact⟨_,_,_,_,C31 l a aq b h c,_,C32 _ (by have:=kZ R aq;omega),fi⟩
def C18(f:fL code []=some b)(a:(jR code).2=true)(c:∀x∈code,PG x)(d:Da)(g:Dc d)(H:ke (gU d) code 0 v m):al 18 [vL 1 (gX b),vL 1 (gX (pf d))] [] [vW v,vN 0] []:=by
 have hlen:=(s4 a).2.1;have q:=IW f fun x k=>(c x k).k
 have p:b.length<=2^40:=by
  obtain⟨e,_⟩:=qm code [] b f;rw[e,dT,List.length_flatMap];have:∀l:List In,(l.map fun x=>(mc x).length).sum=8*l.length:=by
   intro l;induction l with
   |nil=>rfl
   |cons x l n=>simp only[bH,eZ,n,aE];show 8+_=_;omega
  rw[this];omega
 have i:=C33 b p;rw[q]at i;have j:=C34 (pf d) (w9 d);rw[Ly g]at j;have o:=C35 code c;apply W18;exact⟨_,_,i,aU rfl ⟨_,_,_,_,_,_,_,_,_,_,j,aU rfl ⟨_,_,o,aU (by rw[a];rfl) ⟨_,_,_,C36 code d g hlen (O4 a c) H,fi⟩⟩⟩⟩
structure acR (u:fH) (aq:By) (bs:List Bd) (m:List Mk):Prop where
 chain:cS bs []=.ok m
 chk:(jR (da u aq).1).2=true
 iok:∀x∈(da u aq).1,PG x
 run:∀wd:Int->Int,wd 4=(dc aq).1->Be (wd 0)->∃x∈cA (bY m) u.bO,x.lo<=wd 0/\wd 0<=x.hi/\∃n,ke wd (da u aq).1 0 (qL (eu wd u.bO (me (wd 0) bs))) n/\(x.steps=[]->∀D,(cA (bY m) u.bO).length<=2^D->n<=5+2*D)
def Bj(r:∀b,eC u aq = .ok b->V0 b)(h:(da u aq).2=0):∃b m,eC u aq = .ok b/\acR u aq b m:=by
 cases hr:eC u aq with
 |error e=>
  have a:(da u aq).2=e:=by unfold da;rw[hr]
  have:=Dp hr;rw[<-a,h]at this;simp at this
 |ok b=>
  have j:=r b hr;cases hc:cS b []with
  |error e=>
   have a:(da u aq).2=e:=by unfold da;rw[hr];simp only[lowerB];unfold qi;rw[hc]
   have:=xg hc;rw[<-a,h]at this;simp at this
  |ok m=>
   have I:=TZ (aq:=aq) (d:=u.bO) hc j;have a:da u aq=bif(fB (dc aq).1 (cA (bY m) u.bO)).2 !=0 then([],(fB (dc aq).1 (cA (bY m) u.bO)).2)else
     bif(gx (fB (dc aq).1 (cA (bY m) u.bO)).1).2 !=0 then([],(gx (fB (dc aq).1 (cA (bY m) u.bO)).1).2)else
     bif !(jR (gx (fB (dc aq).1 (cA (bY m) u.bO)).1).1).2 then([],10)else((gx (fB (dc aq).1 (cA (bY m) u.bO)).1).1,0):=by
    unfold da;rw[hr];simp only[lowerB];unfold qi;rw[hc]
   rw[a]at h;generalize t:fB (dc aq).1 (cA (bY m) u.bO)=q at*;cases g:q.2 !=0<;>rw[g]at h a
   .have g:q.2=0:=by simpa using g
    rw[af]at h a;cases f:(gx q.1).2 !=0<;>rw[f]at h a
    .have f:(gx q.1).2=0:=by simpa using f
     rw[af]at h a;cases i : !(jR (gx q.1).1).2<;>rw[i]at h a
     .have i:(jR (gx q.1).1).2=true:=by simpa using i
      rw[af]at h a;obtain⟨E,M⟩:=IZ f;refine⟨b,m,rfl,hc,by rw[a];exact i,?_,?_⟩
      .rw[a]
       show∀x∈(gx q.1).1,PG x
       have v:=I.syms;rw[t]at v;rw[E];exact IS v (by omega)
      .intro wd y s
       obtain⟨x,k,p,o⟩:=xL (mG u.bO hc j.nr).1 (wd 0) s.1 s.2;obtain⟨c,w,J⟩:=TF (wd:=wd) (aq:=(dc aq).1) (l:=cA (bY m) u.bO) (syms:=q.1) (by rw[t,<-g]) (TP u.bO hc j.nr) y x k p o
       rw[Lu u.bO hc j.nr x k (wd 0) p o]at w;obtain⟨n,K,G⟩:=OX (code:=(gx q.1).1) (by rw[<-f]) w
       refine⟨x,k,p,o,n,by rw[a];exact G,fun H D z=>?_⟩
       have:=J H D z;omega
     .simp at h
    .rw[aj]at h;simp only at h;rw[h]at f;simp at f
   .rw[aj]at h;simp only at h;rw[h]at g;simp at g
def Bk:∀(l:List In)(a:List Int),(∀x∈l,jQ x=true)->∃b,fL l a=some b
 |[],a,_=>⟨a,rfl⟩
 |x::t,a,h=>by
  unfold fL;rw[h x aX];exact Bk t _ fun x c=>h x (aW _ c)
def sf(h:(jR l).2=true):∃b,fL l []=some b/\0<b.length:=by
 obtain⟨c,-,d⟩:=s4 h;obtain⟨b,a⟩:=Bk l [] fun x f=>(d x f).1
 refine⟨b,a,?_⟩;obtain⟨e,-⟩:=qm l [] b a;match l,c with
 |x::t,_=>rw[e];simp[mc]
abbrev T0(a:By)(b c:Rw)(d:Int)r h:=Lp f7 0 ⟨aO 55 [(0,vS a),(3,.own 0 0 3 b),(4,vL 5 c),(5,vN d)],[some 0],[]⟩ 0 r h
abbrev Ds(a:By)(b c:Rw)(d e:Int)r h:=Rp f7 14 ⟨aO 55 [(0,vS a),(3,.own 0 0 3 b),(4,vL 5 c),(5,vN d),(6,vN e)],[some 0],[]⟩ 0 r h
def A7:bu:={an:=[(2,0,ah),(9,4,ah),(11,4,ah),(13,4,ah),(15,5,ah),(15,12,ah)],cut:=[(4,{bl:=[0,3,4,5],cW:=[(3,3)],owns:=[3]})],join:=[(14,{bl:=[0,3,4,5,6],cW:=[(3,3)],owns:=[3]})]}
def W7(H:Kq 20 [] [] fun b=>T0 a [] b 0 r h):
  al 7 [vS a] [] r h:=.of func7 A7 H
def acT(c:By)(H:aw (decide (b<(a.length:Int))) (aw (c==[97,97,114,99,104,54,52]) (rF a b fun i j k l e=>Ds c d a b e r h)
 (aw (c==[105,51,56,54]) (rF a b fun m n o f p=>Ds c d a b f r h)
 (aw (c==[120,56,54,95,54,52]) (rF a b fun q s g t u=>Ds c d a b g r h)
 (Ds c d a b (-1) r h))))
 (Fi r h [.own 0 0 3 d] [])):
  T0 c d a b r h:=.of A7 H
def acU(c b:Rw)(H:aw (decide (d>=0)) (rF b a fun f i j k l=>rF b a fun m g n o p=>(c++([[S f,W (wrap .u32 d),L 1 g]]:Rw)).length*48<=2^47/\au (a+1)/\T0 e (c++([[S f,W (wrap .u32 d),L 1 g]]:Rw)) b (a+1) r h)
 (au (a+1)/\T0 e c b (a+1) r h)):
  Ds e c b a d r h:=yx.of A7 H
abbrev V3(a:By)(b:Rw)(c:Int)(d:By)(e:Int)(f:Rw)r h:=Lp f9 0 ⟨aO 28 [(1,vS a),(4,.aB 0 0),(6,vL 3 b),(7,vN c)],[],[.aH [vS d,vW e,O 1 f]]⟩ 0 r h
def A9:bu:={an:=[(1,1,ah),(5,4,ah),(6,3,ah)],cut:=[(3,{bl:=[1,4,6,7]})]}
def W9(H:∃c,al 7 [vS a] [] [vL 3 c] []/\V3 b c 0 [] 0 [] r h):
  al 9 [vS a,vS b] [] r h:=.of func9 A9 H
def acV(H:aw (decide (a<(b.length:Int))) (wA b a fun g l m=>aw (g==c) (wA b a fun i j k=>Fi r h [.agg [S i,W j,L 1 k],vB true] [])
 (au (a+1)/\V3 c b (a+1) d e f r h))
 (Fi r h [.agg [S [],W 0,L 1 []],vB false] [])):
  V3 c b a d e f r h:=.of A9 H
abbrev M5(a:By)(b c:Rw)(d:Int)(e f g:Rw)(i j:Int)r h:=Lp f12 0 ⟨aO 93 [(1,vS a),(2,.aB 0 0),(11,vL 4 b),(12,.own 0 0 9 c),(13,vN d)],[some 0],[.aH [vL 6 e,vL 2 f,vL 1 g,vN i,vN j]]⟩ 0 r h
abbrev M6(a:By)(b c:Rw)(d e:Int)(f g i:Rw)(j k:Int)r h:=Lp f12 1 ⟨aO 93 [(1,vS a),(2,.aB 0 0),(11,vL 4 b),(12,.own 0 0 9 c),(13,vN d),(14,vN e)],[some 0],[.aH [vL 6 f,vL 2 g,vL 1 i,vN j,vN k]]⟩ 0 r h
def A12:bu:={an:=[(1,1,ah),(2,4,ah),(4,2,ah),(7,4,ah),(15,5,ah),(17,0,fg),(17,6,ah),(17,11,ah),(17,14,ah),(17,15,ah),(17,20,fh)],cut:=[(12,{bl:=[1,2,11,12,13],cW:=[(12,9)],owns:=[12]}),(15,{bl:=[1,2,11,12,13,14],cW:=[(12,9)],owns:=[12]})]}
def W12(H:Gw 15 [vS f] [] fun o l=>aw (!l) (Fi r h [vL 9 [],vN 1] []) (cc 22 [.agg [L 6 a,L 2 b,L 1 c,N d,N e]] [] fun m=>aw (!m) (Fi r h [vL 9 [],vN 1] [])
 (∃j k g,al 24 [vL 6 a] [] [vL 1 j,vN k,vN g] []/\aw (g !=0) (Fi r h [vL 9 [],vN g] [])
 (Qq 25 [vL 2 b,vL 1 c] [] fun n i=>aw (i !=0) (Fi r h [vL 9 [],vN i] [])
 (M5 f n [] 0 a b c d e r h))))):
  al 12 [.agg [L 6 a,L 2 b,L 1 c,N d,N e],vS f] [] r h:=.of func12 A12 H
def Xz(H:aw (decide (c<(a.length:Int))) (M6 d a b c 0 e f g i j r h)
 (Fi r h [.own 0 0 9 b,vN 0] [])):
  M5 d a b c e f g i j r h:=.of A12 H
def XA(b e:Rw)(H:gC b a fun I J K w=>aw (decide (c<(w.length:Int))) (gC b a fun M x y Q=>gC b a fun T X Y z=>pH z c fun D E G=>∃l m n o p q s t u v,al 26 [.agg [L 6 f,L 2 g,L 1 i,N j,N k],vS d,.agg [N x,N y],.agg [S D,L 1 E,L 5 G]] [] [.agg [W l,N m,N n,N o,N p,N q,U s,U t,L 6 u],vN v] []/\aw (v !=0) (Fi r h [vL 9 [],vN v] [])
 ((e++([[W l,N m,N n,N o,N p,N q,U s,U t,L 6 u]]:Rw)).length*88<=2^47/\au (c+1)/\M6 d b (e++([[W l,N m,N n,N o,N p,N q,U s,U t,L 6 u]]:Rw)) a (c+1) f g i j k r h))
 (au (a+1)/\M5 d b e (a+1) f g i j k r h)):
  M6 d b e a c f g i j k r h:=.of A12 H
abbrev qo(a:Int)(b:Bool)(c d:Int)r h:=Rp f13 21 ⟨aO 47 [(1,.aB 0 0),(4,vW a),(5,vB b)],[],[.aH [vN c,vN d]]⟩ 0 r h
def A13:bu:={an:=[(21,2,aa),(21,3,aa),(21,4,aa),(21,5,aa),(21,6,aa),(21,7,aa),(21,8,aa),(21,9,aa),(21,12,aa),(21,13,aa),(21,14,aa),(21,15,aa),(21,16,aa),(21,17,aa),(21,18,aa)],join:=[(21,{bl:=[1,4,5]})]}
def W13(H:aw (a==1) (qo 2147483648 false a b r h)
 (aw (a==2) (qo 0 false a b r h)
 (aw (a==3) (qo 196608 true a b r h)
 (aw (a==4) (qo 327680 true a b r h)
 (aw (a==5) (qo 2146435072 true a b r h)
 (aw (a==6) (qo 2147221504 false a b r h)
 (aw (a==7) (qo 2147418112 false a b r h)
 (Fi r h [vW 0,vB false] [])))))))):
  al 13 [.agg [N a,N b]] [] r h:=.of func13 A13 H
def ZV(H:aw (bif(bif b then(bif(decide (a<0))then true else(decide (a>65535)))else false)then true else(bif(!b)then(a !=0)else false)) (Fi r h [vW 0,vB false] [])
 (Fi r h [vW (wrap .u32 (c+(wrap .u32 a))),vB true] [])):
  qo c b d a r h:=yx.of A13 H
def A15:bu:={}
def W15(a:By)(H:aw (a==[97,97,114,99,104,54,52]) (Fi r h [vW 3221225655,vB true] [])
 (aw (a==[105,51,56,54]) (Fi r h [vW 1073741827,vB true] [])
 (aw (a==[120,56,54,95,54,52]) (Fi r h [vW 3221225534,vB true] [])
 (Fi r h [vW 0,vB false] [])))):
  al 15 [vS a] [] r h:=.of func15 A15 H
def A20:bu:={}
def W20(H:Fi r h [vL 5 [[S [98,114,107],L 1 [[S [97,100,100,114]]],N 12,N 45,N 214],[S [99,108,111,115,101],L 1 [[S [102,100]]],N 3,N 6,N 57],[S [100,117,112],L 1 [[S [102,100]]],N 32,N 41,N 23],[S [101,120,105,116],L 1 [[S [99,111,100,101]]],N 60,N 1,N 93],[S [101,120,105,116,95,103,114,111,117,112],L 1 [[S [99,111,100,101]]],N 231,N 252,N 94],[S [103,101,116,112,105,100],L 1 [],N 39,N 20,N 172],[S [105,111,99,116,108],L 1 [[S [102,100]],[S [114,101,113,117,101,115,116]],[S [97,114,103]]],N 16,N 54,N 29],[S [107,105,108,108],L 1 [[S [112,105,100]],[S [115,105,103]]],N 62,N 37,N 129],[S [109,109,97,112],L 1 [[S [97,100,100,114]],[S [108,101,110]],[S [112,114,111,116]],[S [102,108,97,103,115]],[S [102,100]],[S [111,102,102]]],N 9,N 90,N 222],[S [109,112,114,111,116,101,99,116],L 1 [[S [97,100,100,114]],[S [108,101,110]],[S [112,114,111,116]]],N 10,N 125,N 226],[S [109,117,110,109,97,112],L 1 [[S [97,100,100,114]],[S [108,101,110]]],N 11,N 91,N 215],[S [111,112,101,110],L 1 [[S [112,97,116,104]],[S [102,108,97,103,115]],[S [109,111,100,101]]],N 2,N 5,N (-1)],[S [111,112,101,110,97,116],L 1 [[S [100,105,114]],[S [112,97,116,104]],[S [102,108,97,103,115]],[S [109,111,100,101]]],N 257,N 295,N 56],[S [112,114,99,116,108],L 1 [[S [111,112,116,105,111,110]],[S [97]],[S [98]],[S [99]],[S [100]]],N 157,N 172,N 167],[S [114,101,97,100],L 1 [[S [102,100]],[S [98,117,102]],[S [99,111,117,110,116]]],N 0,N 3,N 63],[S [115,111,99,107,101,116],L 1 [[S [102,97,109,105,108,121]],[S [116,121,112,101]],[S [112,114,111,116,111,99,111,108]]],N 41,N 359,N 198],[S [119,114,105,116,101],L 1 [[S [102,100]],[S [98,117,102]],[S [99,111,117,110,116]]],N 1,N 4,N 64]]] []):
  al 20 [] [] r h:=.of func20 A20 H
abbrev M7(a:Int)(b c d:Rw)(e f:Int)r h:=Lp f22 0 ⟨aO 88 [(1,.aB 0 0),(3,vN a)],[],[.aH [vL 6 b,vL 2 c,vL 1 d,vN e,vN f]]⟩ 0 r h
abbrev M8(a:Int)(b c d:Rw)(e f:Int)r h:=Lp f22 1 ⟨aO 88 [(1,.aB 0 0),(4,vN a)],[],[.aH [vL 6 b,vL 2 c,vL 1 d,vN e,vN f]]⟩ 0 r h
abbrev M9(a b:Int)(c d e:Rw)(f g:Int)r h:=Lp f22 2 ⟨aO 88 [(1,.aB 0 0),(4,vN a),(5,vN b)],[],[.aH [vL 6 c,vL 2 d,vL 1 e,vN f,vN g]]⟩ 0 r h
def A22:bu:={an:=[(4,5,ah),(4,6,ah),(4,14,ah),(4,15,ah),(9,5,ah),(9,6,ah),(12,6,ah),(14,5,ah),(14,8,ah),(14,9,ah),(16,2,ah),(17,2,aa),(17,3,aa),(17,4,aa),(17,5,aa),(17,10,ah)],cut:=[(12,{bl:=[1,4,5]}),(2,{bl:=[1,3]}),(7,{bl:=[1,4]})]}
def W22(H:M7 0 a b c d e r h):
  al 22 [.agg [L 6 a,L 2 b,L 1 c,N d,N e]] [] r h:=.of func22 A22 H
def XB(H:aw (decide (a<(b.length:Int))) (eh b a fun g p q s t u=>cc 40 [vS g] [] fun i=>aw (!i) (Fi r h [vB false] []) (eh b a fun v j k l m n=>cc 41 [.agg [N j,S k,S l,U m,L 5 n]] [] fun o=>aw (!o) (Fi r h [vB false] [])
 (au (a+1)/\M7 (a+1) b c d e f r h)))
 (M8 0 b c d e f r h)):
  M7 a b c d e f r h:=.of A22 H
def XC(H:aw (decide (a<(b.length:Int))) (lO b a fun g l=>cc 40 [vS g] [] fun i=>aw (!i) (Fi r h [vB false] [])
 (M9 a 0 f b c d e r h))
 (Gw 13 [.agg [N d,N e]] [] fun m j=>aw (bif j then(decide ((c.length:Int)>0))else false) (cc 43 [vL 1 c] [] fun k=>Fi r h [vB k] []) (Fi r h [vB false] []))):
  M8 a f b c d e r h:=.of A22 H
def XD(H:lO c a fun p i=>aw (decide (b<(i.length:Int))) (lO c a fun q j=>gC j b fun k l m n=>cc 42 [.agg [S k,N l,N m,L 3 n]] [] fun o=>aw (!o) (Fi r h [vB false] [])
 (au (b+1)/\M9 a (b+1) d c e f g r h))
 (au (a+1)/\M8 (a+1) d c e f g r h)):
  M9 a b d c e f g r h:=.of A22 H
abbrev Na(a:By)(b:Int)(c d e:Rw)(f g:Int)r h:=Lp f23 0 ⟨aO 94 [(1,.aB 0 0),(3,vS a),(4,vN b)],[],[.aH [vL 6 c,vL 2 d,vL 1 e,vN f,vN g]]⟩ 0 r h
abbrev Nb(a:By)(b:Int)(c d e:Rw)(f g:Int)r h:=Lp f23 1 ⟨aO 94 [(1,.aB 0 0),(3,vS a),(5,vN b)],[],[.aH [vL 6 c,vL 2 d,vL 1 e,vN f,vN g]]⟩ 0 r h
abbrev Nc(a:By)(b:Int)(c:Rw)(d:Int)(e f g:Rw)(i j:Int)r h:=Lp f23 2 ⟨aO 94 [(1,.aB 0 0),(3,vS a),(5,vN b),(6,.own 0 0 1 c),(7,vN d)],[some 0],[.aH [vL 6 e,vL 2 f,vL 1 g,vN i,vN j]]⟩ 0 r h
def A23:bu:={an:=[(1,1,ah),(7,7,ah),(7,15,ah),(7,16,ah),(13,6,ah),(15,6,ah),(15,9,ah),(15,10,ah),(16,7,ah),(16,11,ah),(17,4,ah),(17,9,ah)],cut:=[(13,{bl:=[1,3,5,6,7],cW:=[(6,1)],owns:=[6]}),(5,{bl:=[1,3,4]}),(9,{bl:=[1,3,5]})]}
def W23(H:cc 22 [.agg [L 6 a,L 2 b,L 1 c,N d,N e]] [] fun f=>aw (!f) (Fi r h [vS []] [])
 (Na [] 0 a b c d e r h)):
  al 23 [.agg [L 6 a,L 2 b,L 1 c,N d,N e]] [] r h:=.of func23 A23 H
def XE(a:By)(H:aw (decide (b<(c.length:Int))) (a.length+([35,100,101,102,105,110,101,32]:By).length<=9223372036854775807/\eh c b fun d p q s t u=>(a++([35,100,101,102,105,110,101,32]:By)).length+d.length<=9223372036854775807/\((a++([35,100,101,102,105,110,101,32]:By))++d).length+([32]:By).length<=9223372036854775807/\eh c b fun v k l m n o=>x7 44 [.agg [N k,S l,S m,U n,L 5 o]] [] fun j=>(((a++([35,100,101,102,105,110,101,32]:By))++d)++([32]:By)).length+j.length<=9223372036854775807/\((((a++([35,100,101,102,105,110,101,32]:By))++d)++([32]:By))++j).length+([10]:By).length<=9223372036854775807/\au (b+1)/\Na (((((a++([35,100,101,102,105,110,101,32]:By))++d)++([32]:By))++j)++([10]:By)) (b+1) c e f g i r h)
 (Nb a 0 c e f g i r h)):
  Na a b c e f g i r h:=.of A23 H
def XF(H:aw (decide (c<(d.length:Int))) (Nc a c [] 0 j d e f g r h)
 (a.length+([85,83,69,32]:By).length<=9223372036854775807/\x7 47 [vL 1 e,vS [44,32]] [] fun b=>(a++([85,83,69,32]:By)).length+b.length<=9223372036854775807/\((a++([85,83,69,32]:By))++b).length+([32,68,69,70,65,85,76,84,32]:By).length<=9223372036854775807/\x7 48 [.agg [N f,N g]] [] fun i=>(((a++([85,83,69,32]:By))++b)++([32,68,69,70,65,85,76,84,32]:By)).length+i.length<=9223372036854775807/\((((a++([85,83,69,32]:By))++b)++([32,68,69,70,65,85,76,84,32]:By))++i).length+([10]:By).length<=9223372036854775807/\Fi r h [vS (((((a++([85,83,69,32]:By))++b)++([32,68,69,70,65,85,76,84,32]:By))++i)++([10]:By))] [])):
  Nb a c j d e f g r h:=.of A23 H
def XG(f:Rw)(H:lO c b fun u n=>aw (decide (d<(n.length:Int))) (lO c b fun v o=>gC o d fun p q s t=>x7 45 [.agg [S p,N q,N s,L 3 t]] [] fun m=>(f++([[S m]]:Rw)).length*16<=2^47/\au (d+1)/\Nc a b (f++([[S m]]:Rw)) (d+1) g c i j k r h)
 (a.length+([80,79,76,73,67,89,32]:By).length<=9223372036854775807/\lO c b fun e w=>(a++([80,79,76,73,67,89,32]:By)).length+e.length<=9223372036854775807/\((a++([80,79,76,73,67,89,32]:By))++e).length+([32]:By).length<=9223372036854775807/\x7 46 [vL 1 f] [] fun l=>(((a++([80,79,76,73,67,89,32]:By))++e)++([32]:By)).length+l.length<=9223372036854775807/\((((a++([80,79,76,73,67,89,32]:By))++e)++([32]:By))++l).length+([10]:By).length<=9223372036854775807/\au (b+1)/\Nb (((((a++([80,79,76,73,67,89,32]:By))++e)++([32]:By))++l)++([10]:By)) (b+1) g c i j k r h)):
  Nc a b f d g c i j k r h:=.of A23 H
abbrev Nd(a b:Rw)(c:Int)r h:=Lp f24 0 ⟨aO 54 [(0,vL 6 a),(5,.own 0 0 1 b),(6,vN c)],[some 0],[]⟩ 0 r h
abbrev Nf(a b:Rw)(c d:Int)r h:=Lp f24 1 ⟨aO 54 [(0,vL 6 a),(5,.own 0 0 1 b),(6,vN c),(7,vN d)],[some 0],[]⟩ 0 r h
def A24:bu:={an:=[(8,4,ah),(8,9,ah),(10,7,ah),(10,8,ah)],cut:=[(3,{bl:=[0,5,6],cW:=[(5,1)],owns:=[5]}),(6,{bl:=[0,5,6,7],cW:=[(5,1)],owns:=[5]})]}
def W24(H:Nd a [] 0 r h):
  al 24 [vL 6 a] [] r h:=.of func24 A24 H
def XH(H:aw (decide (c<(a.length:Int))) (Nf a b c 0 r h)
 (Fi r h [.own 0 0 1 b,vN (-1),vN 0] [])):
  Nd a b c r h:=.of A24 H
def XI(H:aw (decide (c<a)) (eh b c fun g o p q s t=>eh b a fun i u v w x y=>aw (g==i) (Fi r h [vL 1 [],vN a,vN 8] [])
 (au (c+1)/\Nf b d a (c+1) r h))
 ((0<=(0:Int)/\(0:Int)<=a/\a<=(b.length:Int))/\eh b a fun z j k l m n=>UG 49 [vL 6 (drop 0 (take (toNat a) b)),.agg [N j,S k,S l,U m,L 5 n]] [] fun e f=>aw (f !=0) (Fi r h [vL 1 [],vN a,vN f] [])
 ((d++([[U e]]:Rw)).length*8<=2^47/\au (a+1)/\Nd b (d++([[U e]]:Rw)) (a+1) r h))):
  Nf b d a c r h:=.of A24 H
abbrev Ng(a b:Rw)(c:Int)r h:=Lp f25 0 ⟨aO 60 [(0,vL 2 a),(1,vL 1 b),(6,vN c)],[],[]⟩ 0 r h
abbrev Nh(a b:Rw)(c d:Int)r h:=Lp f25 1 ⟨aO 60 [(0,vL 2 a),(1,vL 1 b),(6,vN c),(7,vN d)],[],[]⟩ 0 r h
abbrev Ni(a b c:Rw)(d e:Int)r h:=Lp f25 2 ⟨aO 60 [(0,vL 2 a),(1,vL 1 b),(8,.own 0 0 4 c),(9,.aB 0 0),(10,vN d)],[some 0],[.aH [vN e]]⟩ 0 r h
def A25:bu:={an:=[(7,4,ah),(7,9,ah),(14,5,ah)],mod:=[(14,6,[(0,[0])])],cut:=[(12,{bl:=[0,1,8,9,10],cW:=[(8,4)],owns:=[8]}),(2,{bl:=[0,1,6]}),(5,{bl:=[0,1,6,7]})]}
def W25(H:Ng a b 0 r h):
  al 25 [vL 2 a,vL 1 b] [] r h:=.of func25 A25 H
def XJ(H:aw (decide (c<(a.length:Int))) (Nh a b c 0 r h)
 (Ni a b [] 0 0 r h)):
  Ng a b c r h:=.of A25 H
def T5(H:aw (decide (c<a)) (lO b c fun e g=>lO b a fun f i=>aw (e==f) (Fi r h [vL 4 [],vN 8] [])
 (au (c+1)/\Nh b d a (c+1) r h))
 (au (a+1)/\Ng b d (a+1) r h)):
  Nh b d a c r h:=.of A25 H
def T6(H:aw (decide (a<(b.length:Int))) (Ho b a fun j=>∃e f i,al 50 [.aB 0 0,vL 2 d,vS j,vL 1 []] [.aH [vN g]] [vL 4 e,vN f] [.aH [vN i]]/\aw (f !=0) (Fi r h [vL 4 [],vN f] [])
 ((c++e).length*56<=2^47/\au (a+1)/\Ni d b (c++e) (a+1) i r h))
 (Fi r h [.own 0 0 4 c,vN 0] [])):
  Ni d b c a g r h:=.of A25 H
abbrev Nj(a:Int)(b c d:Rw)(e f g i:Int)(j:By)(k l:Rw)(m n o p q s t u:Int)(v:Rw)(w:By)(x:Int)(y:Rw)r h:=Lp f26 0 ⟨aO 97 [(4,.aB 0 0),(6,.aB 1 0),(7,.aB 2 0),(8,.aB 3 0),(10,.aB 4 0),(12,vN a)],[],[.aH [vL 6 b,vL 2 c,vL 1 d,vN e,vN f],.aH [vN g,vN i],.aH [vS j,vL 1 k,vL 5 l],K4 m n o p q s t u v,.aH [vS w,vW x,vL 1 y]]⟩ 0 r h
abbrev Nk(a b:Int)(c d e:Rw)(f g i j:Int)(k:By)(l m:Rw)(n o p q s t u v:Int)(w:Rw)(x:By)(y:Int)(z:Rw)r h:=Lp f26 1 ⟨aO 97 [(4,.aB 0 0),(6,.aB 1 0),(7,.aB 2 0),(8,.aB 3 0),(10,.aB 4 0),(12,vN a),(13,vN b)],[],[.aH [vL 6 c,vL 2 d,vL 1 e,vN f,vN g],.aH [vN i,vN j],.aH [vS k,vL 1 l,vL 5 m],K4 n o p q s t u v w,.aH [vS x,vW y,vL 1 z]]⟩ 0 r h
def A26:bu:={an:=[(1,3,ah),(12,4,ah),(12,9,ah),(17,1,fg),(17,4,iC),(17,6,ah),(17,7,ah),(17,12,{fb:=some [6]})],cut:=[(10,{bl:=[4,6,7,8,10,12,13]}),(7,{bl:=[4,6,7,8,10,12]})]}
def W26(H:∃n o c p,al 9 [vS j,vS a] [] [.agg [S n,W o,L 1 c],vB p] []/\aw (!p) (Fi r h [.agg [W 0,N 0,N 0,N 0,N 0,N 0,U 0,U 0,L 6 []],vN 7] [])
 (aw (decide ((b.length:Int)>(c.length:Int))) (Fi r h [.agg [W 0,N 0,N 0,N 0,N 0,N 0,U 0,U 0,L 6 []],vN 9] [])
 (Nj 0 d e f g i k l a b m 0 0 0 0 0 0 0 0 [] n o c r h))):
  al 26 [.agg [L 6 d,L 2 e,L 1 f,N g,N i],vS j,.agg [N k,N l],.agg [S a,L 1 b,L 5 m]] [] r h:=.of func26 A26 H
def XK(H:aw (decide (g<(a.length:Int))) (Nk g 0 i k l m n c d o a e p q s t u v w x y z f b r h)
 (aw (decide ((e.length:Int)>0)) (a.length*16<=2^47/\(0<=(a.length:Int)/\(a.length:Int)<=(b.length:Int)/\(b.length:Int)<=(b.length:Int))/\(a++(drop (toNat (a.length:Int)) (take b.length b))).length*16<=2^47/\bq e 0 fun M Q T X Y=>∃D E G I J K j,al 51 [vL 6 i,vL 1 (a++(drop (toNat (a.length:Int)) (take b.length b))),.agg [N M,S Q,S T,U X,L 5 Y]] [] [.agg [N D,N E,N G,U I,U J,L 6 K],vN j] []/\aw (j !=0) (Fi r h [.agg [W 0,N 0,N 0,N 0,N 0,N 0,U 0,U 0,L 6 []],vN j] [])
 (Fi r h [.agg [W f,N c,N d,N D,N E,N G,U I,U J,L 6 K],vN 0] []))
 (Fi r h [.agg [W f,N c,N d,N 1,N 0,N 0,U 0,U 0,L 6 []],vN 0] []))):
  Nj g i k l m n c d o a e p q s t u v w x y z f b r h:=.of A26 H
def XL(H:aw (decide (b<a)) (Ho c a fun D=>Ho c b fun E=>aw (D==E) (Fi r h [.agg [W 0,N 0,N 0,N 0,N 0,N 0,U 0,U 0,L 6 []],vN 8] [])
 (au (b+1)/\Nk a (b+1) d e f g i j k l c m n o p q s t u v w x y z r h))
 (au (a+1)/\Nj (a+1) d e f g i j k l c m n o p q s t u v w x y z r h)):
  Nk a b d e f g i j k l c m n o p q s t u v w x y z r h:=.of A26 H
abbrev I0(a:By)(b:Int)r h:=Lp f40 0 ⟨aO 34 [(0,vS a),(3,vN b)],[],[]⟩ 0 r h
def A40:bu:={an:=[(1,5,ah),(6,3,ah),(6,9,ah),(8,2,ah)],cut:=[(4,{bl:=[0,3]})]}
def W40(a:By)(H:aw (a==[]) (Fi r h [vB false] []) ((0<=(0:Int)/\0<(a.length:Int))/\cc 66 [vY (UInt8.toNat (List.getD a (toNat 0) 0):Int)] [] fun b=>aw (!b) (Fi r h [vB false] [])
 (I0 a 0 r h))):
  al 40 [vS a] [] r h:=.of func40 A40 H
def XM(b:By)(H:aw (decide (a<(b.length:Int))) ((0<=a/\a<(b.length:Int))/\cc 66 [vY (UInt8.toNat (List.getD b (toNat a) 0):Int)] [] fun c=>aw (!c) ((0<=a/\a<(b.length:Int))/\cc 67 [vY (UInt8.toNat (List.getD b (toNat a) 0):Int)] [] fun d=>aw (!d) (Fi r h [vB false] [])
 (au (a+1)/\I0 b (a+1) r h)) (au (a+1)/\I0 b (a+1) r h))
 (cc 68 [vL 1 [[S [80,79,76,73,67,89]],[S [85,83,69]],[S [68,69,70,65,85,76,84]],[S [65,76,76,79,87]],[S [76,79,71]],[S [75,73,76,76]],[S [75,73,76,76,95,80,82,79,67,69,83,83]],[S [84,82,65,80]],[S [69,82,82,78,79]],[S [84,82,65,67,69]]],vS b] [] fun e=>Fi r h [vB (!e)] [])):
  I0 b a r h:=.of A40 H
def A41:bu:={an:=[(2,1,ah),(3,4,aa),(3,5,aa),(3,6,aa),(3,9,aa),(3,10,aa),(3,11,aa),(3,14,aa),(3,15,aa),(3,16,aa),(3,17,aa),(3,23,ah),(3,24,ah),(3,30,ah),(3,31,ah)]}
def W41(H:aw (b !=8) (cc 69 [.agg [N b,S c,S d,U e,L 5 a]] [] fun f=>Fi r h [vB f] [])
 (aw (bif(bif(bif(c==[])then(d==[])else false)then(e==0)else false)then((a.length:Int)==2)else false) (bq a 0 fun g i j k l=>cc 41 [.agg [N g,S i,S j,U k,L 5 l]] [] fun m=>aw m (bq a 1 fun n o p q s=>cc 69 [.agg [N n,S o,S p,U q,L 5 s]] [] fun t=>Fi r h [vB t] []) (Fi r h [vB false] [])) (Fi r h [vB false] []))):
  al 41 [.agg [N b,S c,S d,U e,L 5 a]] [] r h:=.of func41 A41 H
abbrev qE(a:Bool)(b:Int)(c:By)(d e:Int)(f:Rw)r h:=Lp f42 0 ⟨aO 82 [(1,.aB 0 0),(4,vB a),(5,vN b)],[],[.aH [vS c,vN d,vN e,vL 3 f]]⟩ 0 r h
def A42:bu:={an:=[(2,2,ah),(2,10,aa),(2,11,aa),(2,12,aa),(2,13,aa),(3,2,ah),(5,6,aa),(7,4,ah),(8,2,ah),(8,6,ah),(8,9,aa),(8,10,aa),(8,11,aa),(8,12,aa),(8,23,ah),(8,24,ah),(8,29,ah),(8,30,ah)],cut:=[(5,{bl:=[1,4,5]})]}
def W42(a:By)(H:aw (!(a==[])) (cc 40 [vS a] [] fun e=>aw e (Fi r h [vB (bif((true&&(b==0))&&(c==0))then((d.length:Int)==0)else false)] []) (Fi r h [vB (bif false then((d.length:Int)==0)else false)] []))
 (Gw 13 [.agg [N b,N c]] [] fun g f=>qE f 0 a b c d r h)):
  al 42 [.agg [S a,N b,N c,L 3 d]] [] r h:=.of func42 A42 H
def XN(H:aw (bif(decide (a<(b.length:Int)))then g else false) (pH b a fun i j f=>cc 40 [vS i] [] fun k=>aw k (cc 43 [vL 1 j] [] fun l=>aw (bif l then(decide ((f.length:Int)<=1))else false) (aw ((f.length:Int)==0) (au (a+1)/\qE true (a+1) c d e b r h) (bq f 0 fun m n o p q=>cc 70 [.agg [N m,S n,S o,U p,L 5 q]] [] fun s=>aw s (bq f 0 fun t u v w x=>kL 71 [.agg [N t,S u,S v,U w,L 5 x]] [] fun y=>au (a+1)/\qE (decide (y<=30)) (a+1) c d e b r h) (au (a+1)/\qE false (a+1) c d e b r h))) (au (a+1)/\qE false (a+1) c d e b r h)) (aw (bif false then(decide ((f.length:Int)<=1))else false) (aw ((f.length:Int)==0) (au (a+1)/\qE true (a+1) c d e b r h) (bq f 0 fun z D E G I=>cc 70 [.agg [N z,S D,S E,U G,L 5 I]] [] fun J=>aw J (bq f 0 fun K M Q T X=>kL 71 [.agg [N K,S M,S Q,U T,L 5 X]] [] fun Y=>au (a+1)/\qE (decide (Y<=30)) (a+1) c d e b r h) (au (a+1)/\qE false (a+1) c d e b r h))) (au (a+1)/\qE false (a+1) c d e b r h)))
 (Fi r h [vB g] [])):
  qE g a c d e b r h:=.of A42 H
abbrev Nl(a:Rw)(b:Int)r h:=Lp f43 0 ⟨aO 16 [(0,vL 1 a),(3,vN b)],[],[]⟩ 0 r h
def A43:bu:={an:=[(4,3,ah),(4,4,ah)],cut:=[(2,{bl:=[0,3]})]}
def W43(H:Nl a 0 r h):
  al 43 [vL 1 a] [] r h:=.of func43 A43 H
def XO(H:aw (decide (a<(b.length:Int))) (Ho b a fun c=>cc 40 [vS c] [] fun d=>aw (!d) (Fi r h [vB false] [])
 (au (a+1)/\Nl b (a+1) r h))
 (Fi r h [vB true] [])):
  Nl b a r h:=.of A43 H
def A44:bu:={an:=[(3,3,ah),(3,4,ah),(3,10,ah),(3,11,ah),(5,3,ah),(5,4,ah),(5,10,ah),(5,11,ah),(7,3,ah),(7,4,ah),(9,3,ah),(9,4,ah),(9,13,ah),(9,14,ah),(11,6,ah),(11,7,ah),(13,3,ah),(13,4,ah),(13,9,ah),(13,10,ah),(15,2,ah)]}
def XP(c d:By)(H:aw (b==1) (bq a 0 fun q s t u v=>x7 44 [.agg [N q,S s,S t,U u,L 5 v]] [] fun e=>([40]:By).length+e.length<=9223372036854775807/\(([40]:By)++e).length+([32,124,124,32]:By).length<=9223372036854775807/\bq a 1 fun w x y z D=>x7 44 [.agg [N w,S x,S y,U z,L 5 D]] [] fun i=>((([40]:By)++e)++([32,124,124,32]:By)).length+i.length<=9223372036854775807/\(((([40]:By)++e)++([32,124,124,32]:By))++i).length+([41]:By).length<=9223372036854775807/\Fi r h [vS ((((([40]:By)++e)++([32,124,124,32]:By))++i)++([41]:By))] [])
 (aw (b==2) (bq a 0 fun E G I J K=>x7 44 [.agg [N E,S G,S I,U J,L 5 K]] [] fun f=>([40]:By).length+f.length<=9223372036854775807/\(([40]:By)++f).length+([32,38,38,32]:By).length<=9223372036854775807/\bq a 1 fun M Q T X Y=>x7 44 [.agg [N M,S Q,S T,U X,L 5 Y]] [] fun j=>((([40]:By)++f)++([32,38,38,32]:By)).length+j.length<=9223372036854775807/\(((([40]:By)++f)++([32,38,38,32]:By))++j).length+([41]:By).length<=9223372036854775807/\Fi r h [vS ((((([40]:By)++f)++([32,38,38,32]:By))++j)++([41]:By))] [])
 (aw (b==3) (bq a 0 fun Z F A R a3=>x7 44 [.agg [N Z,S F,S A,U R,L 5 a3]] [] fun m=>([33]:By).length+m.length<=9223372036854775807/\Fi r h [vS (([33]:By)++m)] [])
 (aw (b==4) (bq a 0 fun a4 a5 a6 a7 a8=>x7 44 [.agg [N a4,S a5,S a6,U a7,L 5 a8]] [] fun g=>g.length+([32]:By).length<=9223372036854775807/\(g++([32]:By)).length+c.length<=9223372036854775807/\((g++([32]:By))++c).length+([32]:By).length<=9223372036854775807/\bq a 1 fun a9 b0 b1 b2 b3=>x7 44 [.agg [N a9,S b0,S b1,U b2,L 5 b3]] [] fun n=>(((g++([32]:By))++c)++([32]:By)).length+n.length<=9223372036854775807/\Fi r h [vS ((((g++([32]:By))++c)++([32]:By))++n)] [])
 (aw (b==6) (d.length+([32,38,32]:By).length<=9223372036854775807/\bq a 0 fun b4 b5 b6 b7 b8=>x7 44 [.agg [N b4,S b5,S b6,U b7,L 5 b8]] [] fun o=>(d++([32,38,32]:By)).length+o.length<=9223372036854775807/\Fi r h [vS ((d++([32,38,32]:By))++o)] [])
 (aw (b==8) (bq a 0 fun b9 c0 c1 c2 c3=>x7 44 [.agg [N b9,S c0,S c1,U c2,L 5 c3]] [] fun k=>k.length+([32,124,32]:By).length<=9223372036854775807/\bq a 1 fun c4 c5 c6 c7 c8=>x7 44 [.agg [N c4,S c5,S c6,U c7,L 5 c8]] [] fun p=>(k++([32,124,32]:By)).length+p.length<=9223372036854775807/\Fi r h [vS ((k++([32,124,32]:By))++p)] [])
 (aw (b==7) (x7 72 [vU l] [] fun c9=>Fi r h [vS c9] [])
 (Fi r h [vS d] [])))))))):
  al 44 [.agg [N b,S c,S d,U l,L 5 a]] [] r h:=.of func44 A44 H
abbrev I1(a:Rw)(b:Int)(c:By)(d e:Int)(f:Rw)r h:=Lp f45 0 ⟨aO 62 [(1,.aB 0 0),(3,.own 0 0 1 a),(4,vN b)],[some 0],[.aH [vS c,vN d,vN e,vL 3 f]]⟩ 0 r h
abbrev Gj(a:Rw)(b:Int)(c d:By)(e f:Int)(g:Rw)(i:By)(j k:Rw)r h:=Rp f45 11 ⟨aO 62 [(1,.aB 0 0),(3,.own 0 0 1 a),(4,vN b),(5,.aB 1 0),(6,vS c)],[some 0],[.aH [vS d,vN e,vN f,vL 3 g],.aH [vS i,vL 1 j,vL 5 k]]⟩ 0 r h
def A45:bu:={an:=[(7,4,ah),(10,4,ah),(12,5,ah),(12,6,ah),(14,2,ah),(14,5,ah)],cut:=[(5,{bl:=[1,3,4],cW:=[(3,1)],owns:=[3]})],join:=[(11,{bl:=[1,3,4,5,6],cW:=[(3,1)],owns:=[3]})]}
def W45(a:By)(H:aw (!(a==[])) (([85,83,69,32]:By).length+a.length<=9223372036854775807/\Fi r h [vS (([85,83,69,32]:By)++a)] [])
 (I1 [] 0 a b c d r h)):
  al 45 [.agg [S a,N b,N c,L 3 d]] [] r h:=.of func45 A45 H
def XQ(H:aw (decide (b<(c.length:Int))) (pH c b fun a g l=>aw (decide ((g.length:Int)>0)) (a.length+([40]:By).length<=9223372036854775807/\x7 47 [vL 1 g,vS [44,32]] [] fun j=>(a++([40]:By)).length+j.length<=9223372036854775807/\((a++([40]:By))++j).length+([41]:By).length<=9223372036854775807/\Gj d b (((a++([40]:By))++j)++([41]:By)) i e f c a g l r h)
 (Gj d b a i e f c a g l r h))
 (x7 48 [.agg [N e,N f]] [] fun k=>k.length+([32]:By).length<=9223372036854775807/\x7 46 [vL 1 d] [] fun m=>(k++([32]:By)).length+m.length<=9223372036854775807/\Fi r h [vS ((k++([32]:By))++m)] [])):
  I1 d b i e f c r h:=.of A45 H
def ZW(b:Rw)(a e:By)(H:aw (decide ((j.length:Int)>0)) (a.length+([32,123,32]:By).length<=9223372036854775807/\bq j 0 fun m n o p q=>x7 44 [.agg [N m,S n,S o,U p,L 5 q]] [] fun d=>(a++([32,123,32]:By)).length+d.length<=9223372036854775807/\((a++([32,123,32]:By))++d).length+([32,125]:By).length<=9223372036854775807/\(b++([[S (((a++([32,123,32]:By))++d)++([32,125]:By))]]:Rw)).length*16<=2^47/\au (c+1)/\I1 (b++([[S (((a++([32,123,32]:By))++d)++([32,125]:By))]]:Rw)) (c+1) e f g i r h)
 ((b++([[S a]]:Rw)).length*16<=2^47/\au (c+1)/\I1 (b++([[S a]]:Rw)) (c+1) e f g i r h)):
  Gj b c a e f g i k l j r h:=yx.of A45 H
def A46:bu:={an:=[(3,1,ah)]}
def W46(H:aw ((a.length:Int)==0) (Fi r h [vS [123,32,125]] [])
 (x7 47 [vL 1 a,vS [44,32]] [] fun b=>([123,32]:By).length+b.length<=9223372036854775807/\(([123,32]:By)++b).length+([32,125]:By).length<=9223372036854775807/\Fi r h [vS ((([123,32]:By)++b)++([32,125]:By))] [])):
  al 46 [vL 1 a] [] r h:=.of func46 A46 H
abbrev I2(a:Rw)(b c:By)(d:Int)r h:=Lp f47 0 ⟨aO 25 [(0,vL 1 a),(1,vS b),(5,vS c),(6,vN d)],[],[]⟩ 0 r h
def A47:bu:={an:=[(7,4,ah)],cut:=[(3,{bl:=[0,1,5,6]})]}
def W47(H:I2 a b [] 0 r h):
  al 47 [vL 1 a,vS b] [] r h:=.of func47 A47 H
def Nn(H:aw (decide (a<(c.length:Int))) (aw (decide (a>0)) (b.length+d.length<=9223372036854775807/\Ho c a fun e=>(b++d).length+e.length<=9223372036854775807/\au (a+1)/\I2 c d ((b++d)++e) (a+1) r h)
 (Ho c a fun f=>b.length+f.length<=9223372036854775807/\au (a+1)/\I2 c d (b++f) (a+1) r h))
 (Fi r h [vS b] [])):
  I2 c d b a r h:=.of A47 H
def A48:bu:={an:=[(1,4,ah),(2,4,aa),(2,5,aa),(2,6,aa),(3,5,ah)]}
def W48(H:Ho [[S []],[S [75,73,76,76,95,80,82,79,67,69,83,83]],[S [75,73,76,76]],[S [84,82,65,80]],[S [69,82,82,78,79]],[S [84,82,65,67,69]],[S [76,79,71]],[S [65,76,76,79,87]]] b fun a=>aw (bif(decide (b>=3))then(decide (b<=5))else false) (a.length+([40]:By).length<=9223372036854775807/\x7 72 [vU (wrap .u64 d)] [] fun c=>(a++([40]:By)).length+c.length<=9223372036854775807/\((a++([40]:By))++c).length+([41]:By).length<=9223372036854775807/\Fi r h [vS (((a++([40]:By))++c)++([41]:By))] [])
 (Fi r h [vS a] [])):
  al 48 [.agg [N b,N d]] [] r h:=.of func48 A48 H
abbrev No(a:Rw)(b c:Int)(d e:By)(f:Int)(g:Rw)r h:=Lp f49 0 ⟨aO 74 [(0,vL 6 a),(3,.aB 0 0),(10,vN b)],[],[.aH [vN c,vS d,vS e,vU f,vL 5 g]]⟩ 0 r h
def A49:bu:={an:=[(1,1,ah),(7,4,ah),(7,5,ah),(10,4,ah),(10,5,ah),(17,4,ah),(18,7,ah),(18,8,ah)],cut:=[(15,{bl:=[0,3,10]})]}
def W49(H:cc 41 [.agg [N a,S e,S f,U d,L 5 b]] [] fun j=>aw (!j) (Fi r h [vU 0,vN 1] [])
 (aw (a==7) (Fi r h [vU d,vN 0] [])
 (aw (a==8) (bq b 0 fun k l m n o=>UG 49 [vL 6 c,.agg [N k,S l,S m,U n,L 5 o]] [] fun p g=>aw (g !=0) (Fi r h [vU 0,vN g] [])
 (bq b 1 fun q s t u v=>UG 49 [vL 6 c,.agg [N q,S s,S t,U u,L 5 v]] [] fun w i=>aw (i !=0) (Fi r h [vU 0,vN i] [])
 (Fi r h [vU (cH .or .u64 p w),vN 0] [])))
 (No c 0 a e f d b r h)))):
  al 49 [vL 6 c,.agg [N a,S e,S f,U d,L 5 b]] [] r h:=.of func49 A49 H
def XR(H:aw (decide (a<(b.length:Int))) (eh b a fun i q s t u v=>aw (i==c) ((0<=(0:Int)/\(0:Int)<=a/\a<=(b.length:Int))/\eh b a fun w j k l m n=>UG 49 [vL 6 (drop 0 (take (toNat a) b)),.agg [N j,S k,S l,U m,L 5 n]] [] fun o p=>Fi r h [vU o,vN p] [])
 (au (a+1)/\No b (a+1) d e c f g r h))
 (Fi r h [vU 0,vN 7] [])):
  No b a d e c f g r h:=.of A49 H
abbrev I3(a:Rw)(b:By)(c:Rw)(d e f:Int)r h:=Lp f50 0 ⟨aO 94 [(0,.aB 0 0),(1,vL 2 a),(2,vS b),(3,vL 1 c),(10,vN d),(11,vN e)],[],[.aH [vN f]]⟩ 1 r h
abbrev Dt(a b:Rw)(c:Int)(d:Rw)(e f:Int)r h:=Lp f50 1 ⟨aO 94 [(0,.aB 0 0),(1,vL 2 a),(3,vL 1 b),(10,vN c),(12,.own 0 0 4 d),(13,vN e)],[some 0],[.aH [vN f]]⟩ 1 r h
def A50:bu:={an:=[(5,4,ah),(9,2,ah),(14,5,ah),(16,4,ah),(16,7,ah)],mod:=[(22,5,[(0,[0])])],cut:=[(14,{bl:=[0,1,3,10,12,13],cW:=[(12,4)],owns:=[12]}),(3,{bl:=[0,1,2,3,10,11]})]}
def W50(H:I3 b c d (-1) 0 a r h):
  al 50 [.aB 0 0,vL 2 b,vS c,vL 1 d] [.aH [vN a]] r h:=.of func50 A50 H
def I4(H:aw (decide (a<(d.length:Int))) (lO d a fun g j=>aw (g==b) (au (a+1)/\I3 d b c a (a+1) e r h)
 (au (a+1)/\I3 d b c f (a+1) e r h))
 (aw (decide (f<0)) (Fi r h [vL 4 [],vN 7] [.aH [vN e]])
 (cc 68 [vL 1 c,vS b] [] fun i=>aw i (Fi r h [vL 4 [],vN 5] [.aH [vN e]])
 (c.length*16<=2^47/\(c++([[S b]]:Rw)).length*16<=2^47/\Dt d (c++([[S b]]:Rw)) f [] 0 e r h)))):
  I3 d b c f a e r h:=.of A50 H
def I5(d:Rw)(H:lO c e fun q o=>aw (decide (a<(o.length:Int))) (lO c e fun s p=>gC p a fun g l m n=>aw (g==[]) (au (b+1)/\aw (decide ((b+1)>500)) (Fi r h [vL 4 [],vN 9] [.aH [vN (b+1)]])
 ((d++([[S g,N l,N m,L 3 n]]:Rw)).length*56<=2^47/\au (a+1)/\Dt c f e (d++([[S g,N l,N m,L 3 n]]:Rw)) (a+1) (b+1) r h))
 (∃i j k,al 50 [.aB 0 0,vL 2 c,vS g,vL 1 f] [.aH [vN b]] [vL 4 i,vN j] [.aH [vN k]]/\aw (j !=0) (Fi r h [vL 4 [],vN j] [.aH [vN k]])
 ((d++i).length*56<=2^47/\au (a+1)/\Dt c f e (d++i) (a+1) k r h)))
 (Fi r h [.own 0 0 4 d,vN 0] [.aH [vN b]])):
  Dt c f e d a b r h:=.of A50 H
abbrev xS(a b:Rw)(c d:Int)(e f:By)(g:Int)(i:Rw)(j k l m n:Int)(o:Rw)(p q s t u:Int)(v:Rw)r h:=Lp f51 0 ⟨aO 128 [(0,vL 6 a),(1,vL 1 b),(5,.aB 0 0),(6,.aB 1 0),(9,.aB 2 0),(10,vN c)],[],[.aH [vN d,vS e,vS f,vU g,vL 5 i],K6 j k l m n o,K6 p q s t u v]⟩ 0 r h
abbrev vO(a b:Rw)(c d:Int)(e f:By)(g:Int)(i:Rw)(j k l m n:Int)(o:Rw)(p:Int)(q s:By)(t:Int)(u:Rw)(v w x y:Int)r h:=Lp f51 1 ⟨aO 128 [(0,vL 6 a),(1,vL 1 b),(5,.aB 0 0),(6,.aB 1 0),(13,.aB 2 0),(14,.aB 3 0),(15,vN c)],[],[.aH [vN d,vS e,vS f,vU g,vL 5 i],K6 j k l m n o,.aH [vN p,vS q,vS s,vU t,vL 5 u],.aH [vN v,vN w,vU x,vU y]]⟩ 0 r h
def A51:bu:={an:=[(14,6,ah),(14,7,ah),(17,1,{take:=true}),(17,6,{take:=true}),(19,3,ah),(20,2,ah),(22,5,aa),(22,6,aa),(22,7,aa),(24,3,ah),(29,4,ah),(29,5,ah),(33,4,ah),(33,5,ah)],cut:=[(12,{bl:=[0,1,5,6,9,10]}),(22,{bl:=[0,1,5,6,13,14,15]})]}
def W51(H:aw (c==1) (aw (decide ((4:Int)>0)) (xS d e 0 c a f g b 0 0 0 0 0 [] 4 0 0 0 0 [] r h)
 (bq b 0 fun i j k l m=>kL 73 [vS a] [] fun n=>vO d e 0 c a f g b 0 0 0 0 0 [] i j k l m (-1) n 18446744073709551615 0 r h))
 (aw (c==2) (aw (decide ((3:Int)>0)) (xS d e 0 c a f g b 0 0 0 0 0 [] 3 0 0 0 0 [] r h)
 (bq b 0 fun o p q s t=>kL 73 [vS a] [] fun u=>vO d e 0 c a f g b 0 0 0 0 0 [] o p q s t (-1) u 18446744073709551615 0 r h))
 (aw (c==3) (aw (decide ((2:Int)>0)) (xS d e 0 c a f g b 0 0 0 0 0 [] 2 0 0 0 0 [] r h)
 (bq b 0 fun v w x y z=>kL 73 [vS a] [] fun D=>vO d e 0 c a f g b 0 0 0 0 0 [] v w x y z (-1) D 18446744073709551615 0 r h))
 (aw (decide ((0:Int)>0)) (xS d e 0 c a f g b 0 0 0 0 0 [] 0 0 0 0 0 [] r h)
 (bq b 0 fun E G I J K=>kL 73 [vS a] [] fun M=>vO d e 0 c a f g b 0 0 0 0 0 [] E G I J K (-1) M 18446744073709551615 0 r h))))):
  al 51 [vL 6 d,vL 1 e,.agg [N c,S a,S f,U g,L 5 b]] [] r h:=.of func51 A51 H
def XS(c:Rw)(H:aw (decide (a<(b.length:Int))) (bq b a fun I J K M Q=>∃l m n o p q s,al 51 [vL 6 d,vL 1 e,.agg [N I,S J,S K,U M,L 5 Q]] [] [.agg [N l,N m,N n,U o,U p,L 6 q],vN s] []/\aw (s !=0) (Fi r h [.agg [N 0,N 0,N 0,U 0,U 0,L 6 []],vN s] [])
 ((c++([[N l,N m,N n,U o,U p,L 6 q]]:Rw)).length*64<=2^47/\au (a+1)/\xS d e (a+1) t u v w b x y z D E G f g i j k (c++([[N l,N m,N n,U o,U p,L 6 q]]:Rw)) r h))
 (Fi r h [.agg [N f,N g,N i,U j,U k,L 6 c],vN 0] [])):
  xS d e a t u v w b x y z D E G f g i j k c r h:=.of A51 H
def XT(H:aw (bif(decide (a<(d.length:Int)))then(decide (c<0))else false) (Ho d a fun G=>aw (G==i) (au (a+1)/\vO b d (a+1) l m n o e p q s t u v g w i x j a f k y r h)
 (au (a+1)/\vO b d (a+1) l m n o e p q s t u v g w i x j c f k y r h))
 (aw (decide (c<0)) (Fi r h [.agg [N 0,N 0,N 0,U 0,U 0,L 6 []],vN 7] [])
 (aw (g==6) (bq j 0 fun I J K M Q=>UG 49 [vL 6 b,.agg [N I,S J,S K,U M,L 5 Q]] [] fun T z=>aw (z !=0) (Fi r h [.agg [N 0,N 0,N 0,U 0,U 0,L 6 []],vN z] [])
 (bq e 1 fun X Y Z F A=>UG 49 [vL 6 b,.agg [N X,S Y,S Z,U F,L 5 A]] [] fun R D=>aw (D !=0) (Fi r h [.agg [N 0,N 0,N 0,U 0,U 0,L 6 []],vN D] [])
 (Fi r h [.agg [N 5,N c,N f,U T,U R,L 6 []],vN 0] [])))
 (bq e 1 fun a3 a4 a5 a6 a7=>UG 49 [vL 6 b,.agg [N a3,S a4,S a5,U a6,L 5 a7]] [] fun a8 E=>aw (E !=0) (Fi r h [.agg [N 0,N 0,N 0,U 0,U 0,L 6 []],vN E] [])
 (Fi r h [.agg [N 5,N c,N f,U k,U a8,L 6 []],vN 0] []))))):
  vO b d a l m n o e p q s t u v g w i x j c f k y r h:=.of A51 H
abbrev Np(a:Rw)(b:By)(c:Int)r h:=Lp f68 0 ⟨aO 18 [(0,vL 1 a),(1,vS b),(5,vN c)],[],[]⟩ 0 r h
def A68:bu:={an:=[(4,3,ah)],cut:=[(2,{bl:=[0,1,5]})]}
def W68(H:Np a b 0 r h):
  al 68 [vL 1 a,vS b] [] r h:=.of func68 A68 H
def XU(H:aw (decide (a<(b.length:Int))) (Ho b a fun d=>aw (d==c) (Fi r h [vB true] [])
 (au (a+1)/\Np b c (a+1) r h))
 (Fi r h [vB false] [])):
  Np b c a r h:=.of A68 H
def A69:bu:={an:=[(3,4,aa),(3,5,aa),(3,6,aa),(3,9,aa),(3,10,aa),(3,11,aa),(3,12,aa),(5,6,ah),(5,9,aa),(5,10,aa),(5,11,aa),(5,14,aa),(5,15,aa),(5,16,aa),(5,17,aa)]}
def W69(c d:By)(H:aw (b==7) (Fi r h [vB (bif(bif(c==[])then(d==[])else false)then((a.length:Int)==0)else false)] [])
 (aw (b==5) (aw (c==[]) (cc 40 [vS d] [] fun f=>Fi r h [vB (bif(bif f then(e==0)else false)then((a.length:Int)==0)else false)] []) (Fi r h [vB (bif(bif false then(e==0)else false)then((a.length:Int)==0)else false)] []))
 (Fi r h [vB false] []))):
  al 69 [.agg [N b,S c,S d,U e,L 5 a]] [] r h:=.of func69 A69 H
def A70:bu:={an:=[(1,4,aa),(1,5,aa),(1,6,aa),(6,4,aa),(6,5,aa),(6,6,aa),(6,7,aa),(6,13,ah),(6,14,ah),(6,20,ah),(6,21,ah),(8,4,aa),(8,5,aa),(8,6,aa),(8,7,aa),(8,13,ah),(8,14,ah),(10,7,ah),(10,14,ah),(10,15,ah),(12,3,ah),(14,1,ah),(15,4,aa),(15,5,aa),(15,6,aa),(15,11,ah),(15,14,aa),(15,15,aa),(15,16,aa),(15,19,aa),(15,20,aa),(15,21,aa),(15,22,aa),(15,28,ah),(15,29,ah)]}
def W70(c g:By)(H:aw (bif(!(g==[]))then true else(i !=0)) (Fi r h [vB false] [])
 (aw (b==1) (aw (bif(c==[])then((a.length:Int)==2)else false) (bq a 0 fun l m n o p=>cc 70 [.agg [N l,S m,S n,U o,L 5 p]] [] fun q=>aw q (bq a 1 fun s t u v w=>cc 70 [.agg [N s,S t,S u,U v,L 5 w]] [] fun x=>Fi r h [vB x] []) (Fi r h [vB false] [])) (Fi r h [vB false] []))
 (aw (b==2) (aw (bif(c==[])then((a.length:Int)==2)else false) (bq a 0 fun y z D E G=>cc 70 [.agg [N y,S z,S D,U E,L 5 G]] [] fun I=>aw I (bq a 1 fun J K M Q T=>cc 70 [.agg [N J,S K,S M,U Q,L 5 T]] [] fun X=>Fi r h [vB X] []) (Fi r h [vB false] [])) (Fi r h [vB false] []))
 (aw (b==3) (aw (bif(c==[])then((a.length:Int)==1)else false) (bq a 0 fun Y Z F A R=>cc 70 [.agg [N Y,S Z,S F,U A,L 5 R]] [] fun a3=>Fi r h [vB a3] []) (Fi r h [vB false] []))
 (aw (b==4) (aw ((a.length:Int) !=2) (Fi r h [vB false] []) (kL 73 [vS c] [] fun a4=>aw (a4==0) (Fi r h [vB false] []) (bq a 1 fun a5 a6 a7 a8 a9=>cc 41 [.agg [N a5,S a6,S a7,U a8,L 5 a9]] [] fun b0=>aw (!b0) (Fi r h [vB false] [])
 (bq a 0 fun e j k f d=>aw (e==5) (cc 69 [.agg [N e,S j,S k,U f,L 5 d]] [] fun b1=>Fi r h [vB b1] [])
 (aw (bif(e==6)then(j==[])else false) (cc 40 [vS k] [] fun b2=>aw (bif(bif b2 then(f==0)else false)then((d.length:Int)==1)else false) (bq d 0 fun b3 b4 b5 b6 b7=>cc 69 [.agg [N b3,S b4,S b5,U b6,L 5 b7]] [] fun b8=>Fi r h [vB b8] []) (Fi r h [vB false] [])) (aw (bif(bif false then(f==0)else false)then((d.length:Int)==1)else false) (bq d 0 fun b9 c0 c1 c2 c3=>cc 69 [.agg [N b9,S c0,S c1,U c2,L 5 c3]] [] fun c4=>Fi r h [vB c4] []) (Fi r h [vB false] [])))))))
 (Fi r h [vB false] [])))))):
  al 70 [.agg [N b,S c,S g,U i,L 5 a]] [] r h:=.of func70 A70 H
abbrev I6(a b c:Int)(d e:By)(f:Int)(g:Rw)r h:=Lp f71 0 ⟨aO 25 [(1,.aB 0 0),(3,vN a),(4,vN b)],[],[.aH [vN c,vS d,vS e,vU f,vL 5 g]]⟩ 0 r h
def A71:bu:={an:=[(5,4,ah),(5,5,ah)],cut:=[(3,{bl:=[1,3,4]})]}
def W71(H:I6 0 0 a b c d e r h):
  al 71 [.agg [N a,S b,S c,U d,L 5 e]] [] r h:=.of func71 A71 H
def XV(H:aw (decide (a<(c.length:Int))) (bq c a fun j k l m n=>kL 71 [.agg [N j,S k,S l,U m,L 5 n]] [] fun i=>aw (decide (i>b)) (au (a+1)/\I6 i (a+1) d e f g c r h)
 (au (a+1)/\I6 b (a+1) d e f g c r h))
 (au (b+1)/\Fi r h [vN (b+1)] [])):
  I6 b a d e f g c r h:=.of A71 H
def A73:bu:={}
def W73(a:By)(H:aw (a==[61,61]) (Fi r h [vN 1] [])
 (aw (a==[33,61]) (Fi r h [vN 2] [])
 (aw (a==[60]) (Fi r h [vN 3] [])
 (aw (a==[60,61]) (Fi r h [vN 4] [])
 (aw (a==[62]) (Fi r h [vN 5] [])
 (aw (a==[62,61]) (Fi r h [vN 6] [])
 (Fi r h [vN 0] []))))))):
  al 73 [vS a] [] r h:=.of func73 A73 H
abbrev I7(a:Rw)(b c d e f g i j k l:Int)r h:=Lp f19 0 ⟨aO 27 [(1,.aB 0 0),(3,.own 0 0 1 a),(4,vN b)],[some 0],[K1 c d e f g i j k l]⟩ 0 r h
def A19:bu:={an:=[(1,3,{fz:=true,bD:=true,cons:=[0]}),(1,7,{fz:=true,bD:=true,cons:=[0]}),(1,10,{fz:=true,bD:=true,cons:=[0]}),(5,5,{fz:=true,bD:=true,cons:=[0]})],cut:=[(3,{bl:=[1,3,4],cW:=[(3,1)],owns:=[3]})]}
def W19(H:∃k,al 37 [.own 0 0 1 [],vU (wrap .u64 a),vN 4] [] [.own 0 0 1 k] []/\∃l,al 37 [.own 0 0 1 k,vU (wrap .u64 b),vN 4] [] [.own 0 0 1 l] []/\∃m,al 37 [.own 0 0 1 l,vU c,vN 8] [] [.own 0 0 1 m] []/\I7 m 0 a b c d e f g i j r h):
  al 19 [.agg [W a,W b,U c,U d,U e,U f,U g,U i,U j]] [] r h:=.of func19 A19 H
def XW(b:Rw)(H:aw (decide (a<6)) ((0<=a/\a<6)/\∃m,([vW c,vW d,vU e,vU f,vU g,vU i,vU j,vU k,vU l]:List AV)[3+toNat a*1+0]?=some (.v (U m))/\∃n,al 37 [.own 0 0 1 b,vU m,vN 8] [] [.own 0 0 1 n] []/\au (a+1)/\I7 n (a+1) c d e f g i j k l r h)
 (Fi r h [.own 0 0 1 b] [])):
  I7 b a c d e f g i j k l r h:=.of A19 H
abbrev Nq(a:Rw)(b c d:Int)r h:=Lp f37 0 ⟨aO 24 [(0,.own 0 0 1 a),(1,vU b),(2,vN c),(7,vN d)],[some 0],[]⟩ 0 r h
def A37:bu:={cut:=[(2,{bl:=[0,1,2,7],cW:=[(0,1)],owns:=[0]})]}
def W37(H:Nq a b c 0 r h):
  al 37 [.own 0 0 1 a,vU b,vN c] [] r h:=.of func37 A37 H
def XX(b:Rw)(H:aw (decide (a<d)) (au ((8:Int)*a)/\0<=(wrap .u64 ((8:Int)*a))/\(b++([[Y (wrap .u8 (cH .and .u64 (fdiv c (2^(min (toNat (wrap .u64 ((8:Int)*a))) (IntKind.bits .u64)))) 255))]]:Rw)).length*1<=2^47/\au (a+1)/\Nq (b++([[Y (wrap .u8 (cH .and .u64 (fdiv c (2^(min (toNat (wrap .u64 ((8:Int)*a))) (IntKind.bits .u64)))) 255))]]:Rw)) c d (a+1) r h)
 (Fi r h [.own 0 0 1 b] [])):
  Nq b c d a r h:=.of A37 H
def A66:bu:={an:=[(1,3,aa),(1,4,aa),(1,7,aa),(1,8,aa),(1,9,aa),(1,10,aa),(1,11,aa),(1,12,aa),(1,15,aa),(1,16,aa)]}
def W66(H:Fi r h [vB (bif(bif(bif(decide (a>=97))then(decide (a<=122))else false)then true else(bif(decide (a>=65))then(decide (a<=90))else false))then true else(a==95))] []):
  al 66 [vY a] [] r h:=.of func66 A66 H
def A67:bu:={an:=[(1,3,aa),(1,4,aa)]}
def W67(H:Fi r h [vB (bif(decide (a>=48))then(decide (a<=57))else false)] []):
  al 67 [vY a] [] r h:=.of func67 A67 H
def A72:bu:={an:=[(3,2,ah)]}
def W72(a:Int)(H:(10:Int)≠0/\(10:Int)≠0/\(0<=(tmod a 10)/\(tmod a 10)<=(wrap .u64 ((tmod a 10)+1))/\(wrap .u64 ((tmod a 10)+1))<=(([48,49,50,51,52,53,54,55,56,57]:By).length:Int))/\aw (decide (a>9)) ((10:Int)≠0/\x7 72 [vU (wrap .u64 (tdiv a 10))] [] fun b=>b.length+(drop (toNat (tmod a 10)) (take (toNat (wrap .u64 ((tmod a 10)+1))) ([48,49,50,51,52,53,54,55,56,57]:By))).length<=9223372036854775807/\Fi r h [vS (b++(drop (toNat (tmod a 10)) (take (toNat (wrap .u64 ((tmod a 10)+1))) ([48,49,50,51,52,53,54,55,56,57]:By))))] [])
 (Fi r h [vS (drop (toNat (tmod a 10)) (take (toNat (wrap .u64 ((tmod a 10)+1))) ([48,49,50,51,52,53,54,55,56,57]:By)))] [])):
  al 72 [vU a] [] r h:=.of func72 A72 H
def C66(c:Int):al 66 [vY c] [] [vB (df c)] []:=by
 apply W66;refine ai ?_ rfl;unfold df;cases(c==95)<;>cases(bif decide (c>=97)then decide (c<=122)else false)<;>cases(bif decide (c>=65)then decide (c<=90)else false)<;>rfl
def C67(c:Int):al 67 [vY c] [] [vB (gD c)] []:=by apply W67;exact fi
def C68(l:List By)(s:By)(k:l.length<=2^40):al 68 [vL 1 (aI l),vS s] [] [vB (fW s l)] []:=by
 have b:(aI l).length=l.length:=ao ..;have key:∀(t:List By)(i:Nat),l.drop i=t->Np (aI l) s i [vB (fW s t)] []:=by
  intro t;induction t with
  |nil=>intro i a;apply XU;rw[b];exact aP (l:=l) rfl a fi
  |cons x t g=>
   intro i a;obtain⟨c,d,j⟩:=drop_cons a;apply XU;rw[b];refine aK (l:=l) rfl a ⟨x,by omega,aQ c,ad (fun h=>ai ?_ rfl) fun h=>⟨aC,?_⟩⟩
   .rw[fW,il,eq_of_beq h];simp
   .have f:(s==x)=false:=by rw[ki]at h⊢; intro e;exact h (by rw[eq_of_beq e];simp)
    have:=g (i+1) d;rw[fW,il,f,mS];exact this
 apply W68;exact key l 0 rfl
def Gk(p:Int->Bool):∀(s:By),((runN p s:Int)==(s.length:Int))=s.all fun c=>p c.toNat
 |[]=>rfl
 |c::s=>by
  have a:=Gk p s;unfold runN;rw[bG,<-a];cases hc:p (c.toNat:Int)
  .simp only[af,Bool.false_and,aE]
   rw[fY];omega
  .simp only[aj,Bool.true_and,aE]
   rw[Bool.eq_iff_iff,beq_iff_eq,beq_iff_eq];omega
def ZX(s:By)(o:s.length<=2^40):al 40 [vS s] [] [vB (bL s)] []:=by
 have key:∀(t:By)(i:Nat),s.drop i=t->I0 s i [vB (bif t.all (fun c=>bN c.toNat)then !fW s keys else false)] []:=by
  intro t;induction t with
  |nil=>
   intro i e;apply XM;exact aP (l:=s) rfl e ⟨_,C68 keys s (by decide),fi⟩
  |cons c t m=>
   intro i e;obtain⟨j,d,n⟩:=drop_cons e;have k:=byte_at j;apply XM;rw[k];have g:=m (i+1) d;refine aK (l:=s) rfl e ⟨⟨by omega,by omega⟩,_,C66 _,ad (fun h=>⟨⟨by omega,by omega⟩,_,C67 _,ad (fun f=>ai ?_ rfl) fun f=>⟨aC,?_⟩⟩) fun h=>⟨aC,?_⟩⟩
   .have a:df (c.toNat:Int)=false:=by simpa using h
    have b:gD (c.toNat:Int)=false:=by simpa using f
    rw[bG,bN,a,b];rfl
   .have a:df (c.toNat:Int)=false:=by simpa using h
    have b:gD (c.toNat:Int)=true:=by simpa using f
    rw[bG,bN,a,b];exact g
   .have a:df (c.toNat:Int)=true:=by simpa using h
    rw[bG,bN,a];exact g
 apply W40;refine ad (fun h=>ai (by rw[bL,mh,h];rfl) rfl) fun h=>?_
 have p:0<s.length:=by
  cases s with
  |nil=>simp at h
  |cons c s=>simp
 refine⟨⟨by omega,by omega⟩,_,C66 _,ad (fun d=>ai ?_ rfl) fun d=>?_⟩
 .rw[bL,mh,h]
  rw[show df (UInt8.toNat (s.getD 0 0):Int)=false from by simpa using d];rfl
 .rw[bL,mh,h]
  rw[show df (UInt8.toNat (s.getD 0 0):Int)=true from by simpa using d,Gk]
  exact key s 0 rfl
def C43(l:List By)(j:l.length<=2^40)(e:∀s∈l,s.length<=2^40):al 43 [vL 1 (aI l)] [] [vB (l.all bL)] []:=by
 have c:(aI l).length=l.length:=ao ..;have key:∀(t:List By)(i:Nat),l.drop i=t->Nl (aI l) i [vB (t.all bL)] []:=by
  intro t;induction t with
  |nil=>intro i a;apply XO;rw[c];exact aP (l:=l) rfl a fi
  |cons x t f=>
   intro i a;obtain⟨b,d,g⟩:=drop_cons a;apply XO;rw[c];refine aK (l:=l) rfl a ⟨x,by omega,aQ b,_,ZX x (e x (aM b)),ad (fun h=>ai ?_ rfl) fun h=>⟨aC,?_⟩⟩
   .rw[bG,show bL x=false by simpa using h];rfl
   .rw[bG,show bL x=true by simpa using h];exact f (i+1) d
 apply W43;exact key l 0 rfl
def eo(l:List Ex):(br l).length=l.length:=by rw[dq,ao]
def eL{i:Nat}(h:l[i]?=some x):(br l)[toNat (i:Int)]?=some [N x.kind,S x.op,S x.name,U x.num,L 5 (br x.kids)]:=by
 rw[dq,<-Ex.cp];exact aQ h
def C69(e:Ex)(g:rP e):al 69 [oz e] [] [vB (fA e)] []:=by
 have c:=((ky e).1 g).2.1;obtain⟨k,o,n,m,l⟩:=e;have c:n.length<=2^40:=c;apply W69;rw[eo];refine ad (fun h=>?_) fun h=>ad (fun a=>ad (fun b=>⟨_,ZX n c,ai ?_ rfl⟩) fun b=>ai ?_ rfl) fun a=>ai ?_ rfl
 .have h:(k==7)=true:=h
  have f:=eq_of_beq h;refine ai ?_ rfl;have d:(k==5)=false:=by rw[f];rfl
  unfold fA fj ej;simp only[Ex.kind,Ex.op,Ex.name,Ex.num,Ex.kids,h,d];cases o==[]<;>cases n==[]<;>cases((l.length:Int)==0)<;>rfl
 .have a:(k==5)=true:=a
  have h:(k==7)=false:=h;have b:(o==[])=true:=b;unfold fA fj ej;simp only[Ex.kind,Ex.op,Ex.name,Ex.num,Ex.kids,h,a,b];cases bL n<;>cases m==0<;>cases((l.length:Int)==0)<;>rfl
 .have a:(k==5)=true:=a
  have h:(k==7)=false:=h;have b:(o==[])=false:=b;unfold fA fj ej;simp only[Ex.kind,Ex.op,Ex.name,Ex.num,Ex.kids,h,a,b];cases bL n<;>cases m==0<;>cases((l.length:Int)==0)<;>rfl
 .have a:(k==5)=false:=a
  have h:(k==7)=false:=h;unfold fA fj ej;simp only[Ex.kind,Ex.op,Ex.name,Ex.num,Ex.kids,h,a];rfl
def C41:∀(d:Nat)(e:Ex),bK e<=d->rP e->al 41 [oz e] [] [vB (gn e)] []
 |0,e,h,_=>by rw[cI]at h;omega
 |d+1,e,h,j=>by
  have f:=((ky e).1 j).2.2.2;obtain⟨k,o,n,m,l⟩:=e;have f:UI l:=f;have h:ct l+1<=d+1:=h;apply W41;rw[eo];refine ad (fun a=>⟨_,C69 _ j,ai ?_ rfl⟩) fun a=>?_
  .have a:(k !=8)=true:=a
   rw[yF (by simpa using a)]
  .have a:(k !=8)=false:=a
   obtain rfl:k=8:=by simpa using a
   have p:dV (.mk 8 o n m l)=(bif(bif(bif o==[]then n==[]else false)then m==0 else false)then((l.length:Int)==2)else false):=by
    unfold dV;simp only[Ex.kind,Ex.op,Ex.name,Ex.num,Ex.kids];cases o==[]<;>cases n==[]<;>cases m==0<;>cases((l.length:Int)==2)<;>rfl
   refine ad (fun c=>?_) fun c=>ai (by rw[Lg (by rw[p];exact c)]) rfl
   have q:dV (.mk 8 o n m l)=true:=by rw[p];exact c
   obtain⟨x,y,rfl⟩:=Od (cg (b:=(bif(bif o==[]then n==[]else false)then m==0 else false)) c).2;have s:=dU (l:=[x,y]) f x (by simp)
   have t:=dU (l:=[x,y]) f y (by simp)
   have u:=ei (l:=[x,y]) x (by simp)
   refine⟨_,_,_,_,_,by omega,eL (i:=0) (x:=x) rfl,_,C41 d x (by omega) s,ad (fun g=>⟨_,_,_,_,_,by omega,eL (i:=1) (x:=y) rfl,_,C69 y t,ai ?_ rfl⟩) fun g=>ai ?_ rfl⟩
   .simp only[gn,q,g];cases fA y<;>rfl
   .simp only[gn,q,g];cases fA y<;>rfl
def PH(s:By):Int:=bif s==[61,61]then 1 else bif s==[33,61]then 2 else bif s==[60]then 3 else bif s==[60,61]then 4 else bif s==[62]then 5 else bif s==[62,61]then 6 else 0
def C73(s:By):al 73 [vS s] [] [vN (PH s)] []:=by
 apply W73;exact ad (fun h=>ai (by rw[PH,h];rfl) rfl) fun a=>ad (fun h=>ai (by rw[PH,a,h];rfl) rfl) fun b=>ad (fun h=>ai (by rw[PH,a,b,h];rfl) rfl) fun c=>ad (fun h=>ai (by rw[PH,a,b,c,h];rfl) rfl) fun d=>
  ad (fun h=>ai (by rw[PH,a,b,c,d,h];rfl) rfl) fun e=>ad (fun h=>ai (by rw[PH,a,b,c,d,e,h];rfl) rfl) fun h=>ai (by rw[PH,a,b,c,d,e,h];rfl) rfl
def Nr(s:By):(PH s==0)= !fW s ops:=by
 unfold PH fW ops;simp only[il,List.any_nil,Bool.or_false];cases s==[61,61]<;>cases s==[33,61]<;>cases s==[60]<;>cases s==[60,61]<;>cases s==[62]<;>cases s==[62,61]<;>rfl
def C71:∀(d:Nat)(e:Ex),bK e<=d->d<=2^41->mi e->al 71 [oz e] [] [vN (bK e)] []
 |0,e,h,_,_=>by rw[cI]at h;omega
 |d+1,e,h,s,m=>by
  rw[cI]at h;obtain⟨u,p⟩:=(z1 e).1 m;have key:∀(t:List Ex)(i:Nat)(n:Nat),e.kids.drop i=t->max n (ct t)<=2^41->I6 (n:Int) i e.kind e.op e.name e.num (br e.kids) [vN ((max n (ct t)+1:Nat):Int)] []:=by
   intro t;induction t with
   |nil=>
    intro i n a b;apply XV;rw[eo];exact aP (l:=e.kids) rfl a ⟨aC (by omega) (by simp[ct]at b;omega),ai (by simp[ct]) rfl⟩
   |cons x t o=>
    intro i n a b;obtain⟨g,k,q⟩:=drop_cons a;have j:=aM g;have v:=ei x j;have f:max n (ct (x::t))=max (max n (bK x)) (ct t):=by simp only[ct];omega
    rw[f]at b;have K:=o (i+1) _ k b;apply XV;rw[eo,f];refine aK (l:=e.kids) rfl a ⟨x.kind,x.op,x.name,x.num,br x.kids,by omega,eL g,_,C71 d x (by omega) (by omega) (sN p x j),ad (fun c=>⟨aC,?_⟩) fun c=>⟨aC,?_⟩⟩
    .have:=aV c
     rw[show max n (bK x)=bK x by omega]at K⊢
     exact K
    .have:=bI c
     rw[show max n (bK x)=n by omega]at K⊢
     exact K
  have:=key e.kids 0 0 rfl (by omega)
  rw[show max 0 (ct e.kids)+1=bK e by rw[cI];omega]at this
  apply W71;exact this
def Bl{o n:By}(h:(bif !(n==[])then true else m !=0)=true)(l:List Ex):dV (.mk k o n m l)=false/\iF (.mk k o n m l)=false/\fQ (.mk k o n m l)=false:=by
 unfold dV iF fQ;simp only[Ex.kind,Ex.op,Ex.name,Ex.num,Ex.kids];generalize(bif(bif k==1 then true else k==2)then true else k==8)=a;cases hn:n==[]<;>cases hm:m==0
 .cases a<;>cases k==4<;>cases k==3<;>cases o==[]<;>exact⟨rfl,rfl,rfl⟩
 .cases a<;>cases k==4<;>cases k==3<;>cases o==[]<;>exact⟨rfl,rfl,rfl⟩
 .cases a<;>cases k==4<;>cases k==3<;>cases o==[]<;>exact⟨rfl,rfl,rfl⟩
 .rw[hn,bne,hm]at h;simp at h
def O8{o n:By}(h:(bif !(n==[])then true else m !=0)=true):∀(l:List Ex),cu (.mk k o n m l)=false
 |[]=>rfl
 |[x]=>by simp only[cu,(Bl h [x]).2.2];cases k==3<;>rfl
 |[x,y]=>by simp only[cu,(Bl h [x,y]).1,(Bl h [x,y]).2.1];cases(bif k==1 then true else k==2)<;>cases k==4<;>rfl
 |_::_::_::_=>rfl
def C70:∀(d:Nat)(e:Ex),bK e<=d->rP e->al 70 [oz e] [] [vB (cu e)] []
 |0,e,h,_=>by rw[cI]at h;omega
 |d+1,e,h,hs=>by
  have b6:=(ky e).1 hs;obtain⟨k,o,n,m,l⟩:=e;have Z:UI l:=b6.2.2.2;have h:ct l+1<=d+1:=h;have a1:∀x∈l,al 70 [oz x] [] [vB (cu x)] []:=fun x u=>C70 d x (by have:=ei x u;omega) (dU Z x u)
  apply W70;rw[eo];refine ad (fun c=>ai (by rw[show cu (.mk k o n m l)=false from O8 (k:=k) (o:=o) (n:=n) (m:=m) c l]) rfl) fun c=>?_
  have c:(bif !(n==[])then true else m !=0)=false:=c;have b4:n=[]/\m=0:=by
   cases hn:n==[]
   .rw[hn]at c;simp at c
   .rw[hn]at c;exact⟨by simpa using hn,by simpa using c⟩
  obtain⟨rfl,rfl⟩:=b4;have a6:∀{r:List AV}{s:List Bx},(k=1\/k=2)->([vB (cu (.mk k o [] 0 l))]=r)->([]=s)->aw (bif o==[]then((l.length:Int)==2)else false) (∃v w D E G,0<=(0:Int)/\(br l)[toNat 0]?=some [N v,S w,S D,U E,L 5 G]/\∃b,al 70 [.agg [N v,S w,S D,U E,L 5 G]] [] [vB b] []/\
    aw b (∃v w D E G,0<=(1:Int)/\(br l)[toNat 1]?=some [N v,S w,S D,U E,L 5 G]/\∃b1,al 70 [.agg [N v,S w,S D,U E,L 5 G]] [] [vB b1] []/\Fi r s [vB b1] []) (Fi r s [vB false] [])) (Fi r s [vB false] []):=by
   rintro r s R rfl rfl;have t:dV (.mk k o [] 0 l)=(bif o==[]then((l.length:Int)==2)else false):=by
    unfold dV;simp only[Ex.kind,Ex.op,Ex.name,Ex.num,Ex.kids];rcases R with rfl|rfl<;>cases o==[]<;>cases((l.length:Int)==2)<;>rfl
   have a2:(bif k==1 then true else k==2)=true:=by rcases R with rfl|rfl<;>rfl
   have b0:(k==3)=false:=by rcases R with rfl|rfl<;>rfl
   refine ad (fun f=>?_) fun f=>?_
   .have Q:dV (.mk k o [] 0 l)=true:=by rw[t];exact f
    obtain⟨x,y,rfl⟩:=Od (cg (b:=o==[]) f).2;refine⟨_,_,_,_,_,by omega,eL (i:=0) (x:=x) rfl,_,a1 x (by simp),ad (fun g=>⟨_,_,_,_,_,by omega,eL (i:=1) (x:=y) rfl,_,a1 y (by simp),ai ?_ rfl⟩) fun g=>ai ?_ rfl⟩
    .simp only[cu,a2,Q,g];rfl
    .simp only[cu,a2,Q,g];rfl
   .have Q:dV (.mk k o [] 0 l)=false:=by rw[t];exact f
    refine ai ?_ rfl;match l with
    |[]=>rfl
    |[x]=>simp only[cu,b0];rfl
    |[x,y]=>simp only[cu,a2,Q];rfl
    |_::_::_::_=>rfl
  refine ad (fun T=>a6 (.inl (eq_of_beq T)) rfl rfl) fun T=>ad (fun f=>a6 (.inr (eq_of_beq f)) rfl rfl) fun f=>ad (fun g=>?_) fun g=>ad (fun H=>?_) fun H=>?_
  .obtain rfl:k=3:=eq_of_beq g
   have t:fQ (.mk 3 o [] 0 l)=(bif o==[]then((l.length:Int)==1)else false):=by
    unfold fQ;simp only[Ex.kind,Ex.op,Ex.name,Ex.num,Ex.kids];cases o==[]<;>cases((l.length:Int)==1)<;>rfl
   refine ad (fun a=>?_) fun a=>ai ?_ rfl
   .have A:fQ (.mk 3 o [] 0 l)=true:=by rw[t];exact a
    obtain⟨x,rfl⟩:=Qb (cg (b:=o==[]) a).2;refine⟨_,_,_,_,_,by omega,eL (i:=0) (x:=x) rfl,_,a1 x (by simp),ai ?_ rfl⟩
    simp only[cu,A];rfl
   .have A:fQ (.mk 3 o [] 0 l)=false:=by rw[t];exact a
    match l with
    |[]=>rfl
    |[x]=>simp only[cu,A];rfl
    |[x,y]=>rfl
    |_::_::_::_=>rfl
  .obtain rfl:k=4:=eq_of_beq H
   refine ad (fun a=>ai ?_ rfl) fun a=>?_
   .match l,a with
    |[],_=>rfl
    |[x],_=>rfl
    |_::_::_::_,_=>rfl
   .obtain⟨x,y,rfl⟩:=Od (l:=l) (by have a:((l.length:Int) !=2)=false:=a;simpa using a)
    have u:=dU Z x (by simp)
    have hy:=dU Z y (by simp)
    have dy:=ei (l:=[x,y]) y (by simp)
    have Y:cu (.mk 4 o [] 0 [x,y])=bif fW o ops then(bif jY x then gn y else false)else false:=rfl;refine⟨_,C73 o,ad (fun q=>ai ?_ rfl) fun q=>⟨_,_,_,_,_,by omega,eL (i:=1) (x:=y) rfl,_,C41 d y (by omega) hy,ad (fun X=>ai ?_ rfl) fun X=>?_⟩⟩
    .rw[Nr]at q
     rw[Y,show fW o ops=false by simpa using q];rfl
    .rw[Y,show gn y=false by simpa using X]
     cases fW o ops<;>cases jY x<;>rfl
    .rw[Nr]at q
     have hm:fW o ops=true:=by simpa using q
     have b5:gn y=true:=by simpa using X
     have J:cu (.mk 4 o [] 0 [x,y])=jY x:=by rw[Y,hm,b5];cases jY x<;>rfl
     have a5:=(ky x).1 u;refine⟨_,_,_,_,_,by omega,eL (i:=0) (x:=x) rfl,ad (fun I=>⟨_,C69 x u,ai ?_ rfl⟩) fun I=>?_⟩
     .rw[J]
      have b3:fj x=false:=by unfold fj;rw[eq_of_beq I];rfl
      have b2:iE x=false:=by unfold iE;rw[eq_of_beq I];rfl
      unfold jY fA;rw[b3,b2];cases ej x<;>rfl
     .have a0:ej x=false:=by unfold ej;rw[I];rfl
      have a3:iE x=(bif(bif x.kind==6 then x.op==[]else false)then(bif x.num==0 then((x.kids.length:Int)==1)else false)else false):=by
       unfold iE;cases x.kind==6<;>cases x.op==[]<;>cases x.num==0<;>cases((x.kids.length:Int)==1)<;>rfl
      rw[eo];have last:∀b,(bif x.kind==6 then x.op==[]else false)=true->bL x.name=b->aw (bif(bif b then x.num==0 else false)then((x.kids.length:Int)==1)else false) (∃y0 y1 y2 y3 y4,0<=(0:Int)/\(br x.kids)[toNat 0]?=some [N y0,S y1,S y2,U y3,L 5 y4]/\∃p,al 69 [.agg [N y0,S y1,S y2,U y3,L 5 y4]] [] [vB p] []/\Fi [vB (cu (.mk 4 o [] 0 [x,y]))] [] [vB p] [])
        (Fi [vB (cu (.mk 4 o [] 0 [x,y]))] [] [vB false] []):=by
       intro b j a4;refine ad (fun K=>?_) fun K=>ai ?_ rfl
       .obtain⟨a7,M⟩:=cg (b:=(bif b then x.num==0 else false)) K
        obtain⟨a8,a9⟩:=cg (b:=b) a7;obtain⟨z,F⟩:=Qb M;have b7:rP z:=dU a5.2.2.2 z (by rw[F];simp)
        refine⟨_,_,_,_,_,by omega,eL (i:=0) (x:=z) (by rw[F];rfl),_,C69 z b7,ai ?_ rfl⟩
        rw[J,jY,a0,a3,j,a9,M,a4,a8,kM,F];rfl
       .rw[J,jY,a0,a3,j,a4]
        cases b<;>cases hq:x.num==0<;>cases hr:((x.kids.length:Int)==1)<;>rw[hq,hr]at K<;>first|rfl|simp at K
      refine ad (fun j=>⟨_,ZX x.name a5.2.1,?_⟩) fun j=>?_
      .exact last _ j rfl
      .refine aU ?_ (ai ?_ rfl)
       .rfl
       .rw[J,jY,a0,a3,j];rfl
  .refine ai ?_ rfl
   have M:(bif k==1 then true else k==2)=false:=by rw[show(k==1)=false from T];exact f
   have g3:(k==3)=false:=g;have g4:(k==4)=false:=H;clear g H;match l with
   |[]=>rfl
   |[x]=>simp only[cu,g3];rfl
   |[x,y]=>simp only[cu,M,g4];rfl
   |_::_::_::_=>rfl
abbrev Ns(a b:Int)(c d e:Rw)(f g:Int)r h:=Lp f38 0 ⟨aO 184 [(1,.aB 0 0),(3,vN a),(4,vN b)],[],[.aH [vL 6 c,vL 2 d,vL 1 e,vN f,vN g]]⟩ 0 r h
abbrev Nt(a b:Int)(c d e:Rw)(f g:Int)r h:=Lp f38 1 ⟨aO 184 [(1,.aB 0 0),(3,vN a),(5,vN b)],[],[.aH [vL 6 c,vL 2 d,vL 1 e,vN f,vN g]]⟩ 0 r h
abbrev Nu(a b:Int)(c d e:Rw)(f g:Int)r h:=Lp f38 2 ⟨aO 184 [(1,.aB 0 0),(3,vN a),(6,vN b)],[],[.aH [vL 6 c,vL 2 d,vL 1 e,vN f,vN g]]⟩ 0 r h
abbrev Nv(a b:Int)(c:Rw)(d:Int)(e f g:Rw)(i j:Int)r h:=Lp f38 3 ⟨aO 184 [(1,.aB 0 0),(3,vN a),(6,vN b),(7,vL 4 c),(8,vN d)],[],[.aH [vL 6 e,vL 2 f,vL 1 g,vN i,vN j]]⟩ 0 r h
abbrev Nw(a b:Int)(c:Rw)(d e:Int)(f g i:Rw)(j k:Int)r h:=Lp f38 4 ⟨aO 184 [(1,.aB 0 0),(3,vN a),(6,vN b),(7,vL 4 c),(8,vN d),(9,vN e)],[],[.aH [vL 6 f,vL 2 g,vL 1 i,vN j,vN k]]⟩ 0 r h
abbrev Nx(a b:Int)(c:Rw)(d e f:Int)(g i j:Rw)(k l:Int)(m:By)(n o:Rw)r h:=Lp f38 5 ⟨aO 184 [(1,.aB 0 0),(3,vN a),(6,vN b),(7,vL 4 c),(8,vN d),(9,vN e),(10,.aB 1 0),(11,vN f)],[],[.aH [vL 6 g,vL 2 i,vL 1 j,vN k,vN l],.aH [vS m,vL 1 n,vL 5 o]]⟩ 0 r h
abbrev Ny(a b:Int)(c:Rw)(d e f:Int)(g i j:Rw)(k l:Int)(m:By)(n o:Rw)r h:=Lp f38 6 ⟨aO 184 [(1,.aB 0 0),(3,vN a),(6,vN b),(7,vL 4 c),(8,vN d),(9,vN e),(10,.aB 1 0),(12,vN f)],[],[.aH [vL 6 g,vL 2 i,vL 1 j,vN k,vN l],.aH [vS m,vL 1 n,vL 5 o]]⟩ 0 r h
def XY:bu:={an:=[(1,5,aa),(1,6,aa),(1,7,aa),(1,8,aa),(1,11,aa),(1,12,aa),(1,13,aa),(1,14,aa),(7,5,ah),(7,6,ah),(7,14,ah),(12,4,ah),(17,5,ah),(18,9,ah),(23,4,ah),(23,12,ah),(26,5,ah),(28,4,ah),(28,7,ah),(30,5,aa),(30,6,aa),(30,7,aa),(30,8,aa),(30,11,aa),(30,12,aa),(30,13,aa),(30,14,aa),(30,17,aa),(30,18,aa),(35,4,ah),(40,4,ah),(40,5,ah)],cut:=[(10,{bl:=[1,3,5]}),(15,{bl:=[1,3,6]}),(21,{bl:=[1,3,6,7,8]}),(26,{bl:=[1,3,6,7,8,9]}),(33,{bl:=[1,3,6,7,8,9,10,11]}),(38,{bl:=[1,3,6,7,8,9,10,12]}),(5,{bl:=[1,3,4]})]}
def W38(H:aw (bif(bif(decide ((a.length:Int)>12))then true else(decide ((b.length:Int)>8)))then true else(decide ((c.length:Int)>8))) (Fi r h [vB false] [])
 (Ns 0 0 a b c d e r h)):
  al 38 [.agg [L 6 a,L 2 b,L 1 c,N d,N e]] [] r h:=.of func38 XY H
def XZ(H:aw (decide (a<(b.length:Int))) (eh b a fun p i j k l m=>cc 63 [.agg [N i,S j,S k,U l,L 5 m]] [] fun n=>aw (!n) (Fi r h [vB false] []) (eh b a fun o q s t u v=>aw (decide ((o.length:Int)>60)) (Fi r h [vB false] [])
 (au (a+1)/\Ns c (a+1) b d e f g r h)))
 (Nt c 0 b d e f g r h)):
  Ns c a b d e f g r h:=.of XY H
def X1(H:aw (decide (a<(b.length:Int))) (Ho b a fun i=>aw (decide ((i.length:Int)>60)) (Fi r h [vB false] [])
 (au (a+1)/\Nt c (a+1) d e b f g r h))
 (Nu c 0 d e b f g r h)):
  Nt c a d e b f g r h:=.of XY H
def X2(H:aw (decide (a<(b.length:Int))) (lO b a fun k i=>aw (decide ((i.length:Int)>12)) (Fi r h [vB false] []) (lO b a fun j l=>aw (decide ((j.length:Int)>60)) (Fi r h [vB false] [])
 (Nv c a i 0 d b e f g r h)))
 (Fi r h [vB true] [])):
  Nu c a d b e f g r h:=.of XY H
def X4(H:aw (decide (b<(a.length:Int))) (gC a b fun k m n o=>aw (decide ((k.length:Int)>60)) (Fi r h [vB false] []) (gC a b fun p q s l=>aw (decide ((l.length:Int)>12)) (Fi r h [vB false] [])
 (Nw d c a b 0 e f g i j r h)))
 (au (c+1)/\Nu d (c+1) e f g i j r h)):
  Nv d c a b e f g i j r h:=.of XY H
def X6(H:gC c a fun q s t o=>aw (decide (d<(o.length:Int))) (gC c a fun u v w p=>pH p d fun l m n=>au (b+1)/\aw (bif(bif(bif(decide ((l.length:Int)>60))then true else(decide ((m.length:Int)>10)))then true else(decide ((n.length:Int)>3)))then true else(decide ((b+1)>60))) (Fi r h [vB false] [])
 (Nx (b+1) e c a d 0 f g i j k l m n r h))
 (au (a+1)/\Nv b e c (a+1) f g i j k r h)):
  Nw b e c a d f g i j k r h:=.of XY H
def X7(H:aw (decide (a<(b.length:Int))) (Ho b a fun p=>aw (decide ((p.length:Int)>60)) (Fi r h [vB false] [])
 (au (a+1)/\Nx c d e f g (a+1) i j k l m n b o r h))
 (Ny c d e f g 0 i j k l m n b o r h)):
  Nx c d e f g a i j k l m n b o r h:=.of XY H
def X8(H:aw (decide (a<(c.length:Int))) (bq c a fun p q s t u=>cc 63 [.agg [N p,S q,S s,U t,L 5 u]] [] fun v=>aw (!v) (Fi r h [vB false] [])
 (au (a+1)/\Ny d e f g b (a+1) i j k l m n o c r h))
 (au (b+1)/\Nw d e f g (b+1) i j k l m r h)):
  Ny d e f g b a i j k l m n o c r h:=.of XY H
def A63:bu:={an:=[(1,1,ah)]}
def W63(H:kL 92 [.agg [N a,S b,S c,U d,L 5 e],vN 0] [] fun f=>Fi r h [vB (decide (f<=300))] []):
  al 63 [.agg [N a,S b,S c,U d,L 5 e]] [] r h:=.of func63 A63 H
abbrev Nz(a b c d:Int)(e f:By)(g:Int)(i:Rw)r h:=Lp f92 0 ⟨aO 43 [(1,vN a),(2,.aB 0 0),(5,vN b),(6,vN c)],[],[.aH [vN d,vS e,vS f,vU g,vL 5 i]]⟩ 0 r h
def A92:bu:={an:=[(1,3,aa),(1,4,aa),(1,5,aa),(1,6,aa),(1,9,aa),(1,10,aa),(1,11,aa),(1,12,aa),(5,6,aa),(5,7,aa),(7,5,ah),(7,8,ah)],cut:=[(5,{bl:=[1,2,5,6]})]}
def W92(H:aw (bif(bif(decide (c>100))then true else(decide ((b.length:Int)>60)))then true else(decide ((a.length:Int)>20))) (Fi r h [vN 1000] [])
 (Nz c 1 0 d a b e f r h)):
  al 92 [.agg [N d,S a,S b,U e,L 5 f],vN c] [] r h:=.of func92 A92 H
def T7(H:aw (bif(decide (b<(d.length:Int)))then(decide (a<1000))else false) (bq d b fun k l m n o=>au (c+1)/\kL 92 [.agg [N k,S l,S m,U n,L 5 o],vN (c+1)] [] fun j=>au (a+j)/\au (b+1)/\Nz c (a+j) (b+1) e f g i d r h)
 (Fi r h [vN a] [])):
  Nz c a b e f g i d r h:=.of A92 H
abbrev NA(a:Int)(b c d:Rw)(e f:Int)r h:=Lp f39 0 ⟨aO 23 [(1,.aB 0 0),(3,vN a)],[],[.aH [vL 6 b,vL 2 c,vL 1 d,vN e,vN f]]⟩ 0 r h
def A39:bu:={an:=[(4,5,ah),(4,6,ah),(6,2,ah)],cut:=[(2,{bl:=[1,3]})]}
def W39(H:NA 0 a b c d e r h):
  al 39 [.agg [L 6 a,L 2 b,L 1 c,N d,N e]] [] r h:=.of func39 A39 H
def X9(H:aw (decide (a<(b.length:Int))) (eh b a fun o g i j k l=>kL 64 [.agg [N g,S i,S j,U k,L 5 l]] [] fun m=>aw (decide (m>3)) (Fi r h [vB false] [])
 (au (a+1)/\NA (a+1) b c d e f r h))
 (kL 65 [vL 2 c] [] fun n=>Fi r h [vB (decide (n<=3))] [])):
  NA a b c d e f r h:=.of A39 H
abbrev I8(a b c:Int)(d e:By)(f:Int)(g:Rw)r h:=Lp f64 0 ⟨aO 24 [(1,.aB 0 0),(3,vN a),(4,vN b)],[],[.aH [vN c,vS d,vS e,vU f,vL 5 g]]⟩ 0 r h
def A64:bu:={an:=[(7,5,ah),(7,6,ah)],cut:=[(5,{bl:=[1,3,4]})]}
def W64(H:aw (a==5) (I8 1 0 a b c d e r h)
 (I8 0 0 a b c d e r h)):
  al 64 [.agg [N a,S b,S c,U d,L 5 e]] [] r h:=.of func64 A64 H
def Ya(H:aw (decide (a<(c.length:Int))) (bq c a fun j k l m n=>kL 64 [.agg [N j,S k,S l,U m,L 5 n]] [] fun i=>au (b+i)/\au (a+1)/\I8 (b+i) (a+1) d e f g c r h)
 (Fi r h [vN b] [])):
  I8 b a d e f g c r h:=.of A64 H
abbrev I9(a:Rw)(b c:Int)r h:=Lp f65 0 ⟨aO 40 [(0,vL 2 a),(3,vN b),(4,vN c)],[],[]⟩ 0 r h
abbrev Ja(a:Rw)(b c d e:Int)r h:=Lp f65 1 ⟨aO 40 [(0,vL 2 a),(3,vN b),(4,vN c),(5,vN d),(6,vN e)],[],[]⟩ 0 r h
def A65:bu:={an:=[(7,5,ah),(9,4,ah),(9,8,ah)],cut:=[(3,{bl:=[0,3,4]}),(7,{bl:=[0,3,4,5,6]})]}
def W65(H:I9 a 0 0 r h):
  al 65 [vL 2 a] [] r h:=.of func65 A65 H
def Yb(H:aw (decide (c<(a.length:Int))) (Ja a b c 0 0 r h)
 (Fi r h [vN b] [])):
  I9 a b c r h:=.of A65 H
def Yc(H:lO b a fun j f=>aw (decide (c<(f.length:Int))) (lO b a fun k g=>gC g c fun i l m n=>aw (!(i==[])) (au (d+1)/\au (c+1)/\Ja b e a (d+1) (c+1) r h)
 (au (c+1)/\Ja b e a d (c+1) r h))
 (aw (decide (d>e)) (au (a+1)/\I9 b d (a+1) r h)
 (au (a+1)/\I9 b e (a+1) r h))):
  Ja b e a d c r h:=.of A65 H
def A21:bu:={an:=[(1,1,ah),(1,4,ah)]}
def W21(H:cc 38 [.agg [L 6 a,L 2 b,L 1 c,N d,N e]] [] fun f=>aw f (cc 39 [.agg [L 6 a,L 2 b,L 1 c,N d,N e]] [] fun g=>Fi r h [vB g] []) (Fi r h [vB false] [])):
  al 21 [.agg [L 6 a,L 2 b,L 1 c,N d,N e]] [] r h:=.of func21 A21 H
mutual
def mo:Ex->Int->Int
 |.mk _ o n _ l,d=>bif(bif(bif decide (d>100)then true else decide ((n.length:Int)>60))then true else decide ((o.length:Int)>20))then 1000 else nH l d 1
def nH:List Ex->Int->Int->Int
 |[],_,n=>n
 |x::t,d,n=>bif decide (n<1000)then nH t d (n+mo x (d+1))else n
end
mutual
def dv:Ex->Int|.mk _ _ _ _ l=>cG l+1
def cG:List Ex->Int|[]=>0|x::t=>dv x+cG t
end
mutual
theorem eM:∀e,1<=dv e
 |.mk _ _ _ _ l=>by have:=lq l;simp only[dv];omega
theorem lq:∀l,0<=cG l
 |[]=>ez _
 |x::t=>by have:=eM x;have:=lq t;simp only[cG];omega
end
mutual
def oE:Ex->Prop|.mk _ o n _ l=>o.length<=20/\n.length<=60/\Bn l
def Bn:List Ex->Prop|[]=>True|x::t=>oE x/\Bn t
end
mutual
theorem Bo:∀(e:Ex)(d:Int),1<=mo e d
 |.mk k o n m l,d=>by
  unfold mo;cases(bif(bif decide (d>100)then true else decide ((n.length:Int)>60))then true else decide ((o.length:Int)>20))
  .exact xh l d 1
  .show(1:Int)<=1000;decide
theorem xh:∀(l:List Ex)(d n:Int),n<=nH l d n
 |[],_,n=>ez n
 |x::t,d,n=>by
  unfold nH;have a:=Bo x (d+1);have b:=xh t d (n+mo x (d+1));cases decide (n<1000)
  .exact ez n
  .simp only[aj];omega
end
mutual
theorem Du:∀(e:Ex)(d:Int),mo e d<1000->mo e d=dv e/\oE e
 |.mk k o n m l,d,h=>by
  unfold mo at h⊢;cases hb:(bif(bif decide (d>100)then true else decide ((n.length:Int)>60))then true else decide ((o.length:Int)>20))<;>rw[hb]at h
  .obtain⟨b,j⟩:=Bp l d 1 (ez 1) h
   refine⟨by rw[af,b];simp only[dv];omega,?_⟩
   have p:decide ((o.length:Int)>20)=false:=by
    cases hq:(bif decide (d>100)then true else decide ((n.length:Int)>60))<;>rw[hq]at hb
    .exact hb
    .simp at hb
   have a:decide ((n.length:Int)>60)=false:=by
    cases hd:decide (d>100)<;>rw[hd]at hb
    .cases a:decide ((n.length:Int)>60)with
     |false=>rfl
     |true=>rw[a]at hb;simp at hb
    .simp at hb
   have:=bI p;have:=bI a;exact⟨by omega,by omega,j⟩
  .simp at h
theorem Bp:∀(l:List Ex)(d n:Int),1<=n->nH l d n<1000->nH l d n=n+cG l/\Bn l
 |[],_,n,_,h=>⟨by simp[nH,cG],trivial⟩
 |x::t,d,n,s,h=>by
  unfold nH at h⊢;cases a:decide (n<1000)<;>rw[a]at h
  .have:=bI a
   have:n<1000:=h;omega
  .rw[aj]at h⊢
   have q:=xh t d (n+mo x (d+1));have b:=Bo x (d+1);obtain⟨c,f⟩:=Bp t d _ (by omega) h
   obtain⟨g,i⟩:=Du x (d+1) (by omega)
   exact⟨by rw[c,g];simp only[cG];omega,i,f⟩
end
mutual
def Gl:Ex->Prop|.mk _ _ _ _ l=>l.length<=2^47/\O9 l
def O9:List Ex->Prop|[]=>True|e::l=>Gl e/\O9 l
end
def Jb:∀{l:List Ex},O9 l->∀x∈l,Gl x
 |[],_,_,h=>by simp at h
 |e::l,a,x,h=>by
  unfold O9 at a;rcases aZ.1 h with rfl|h
  .exact a.1
  .exact Jb a.2 x h
structure Yd (r:gu):Prop where
 pl:r.params.length<=2^47
 cl:r.cond.length<=2^47
 cond:∀e∈r.cond,Gl e
structure Ye (p:cK):Prop where
 rl:p.bj.length<=2^47
 bj:∀r∈p.bj,Yd r
structure Yf (p:cL):Prop where
 pl:p.aT.length<=2^47
 aT:∀x∈p.aT,Ye x
structure Jc (u:fH):Prop where
 dl:u.aF.length<=2^47
 aF:∀d∈u.aF,Gl d.ex
 pl:u.aA.length<=2^47
 aA:∀p∈u.aA,Yf p
 ml:u.main.length<=2^47
def C92:∀(m:Nat)(e:Ex)(d:Int),Gl e->0<=d->d+m=101->al 92 [oz e,vN d] [] [vN (mo e d)] []/\mo e d<=1000*((m:Int)+1)
 |m,e,d,g,D,G=>by
  obtain⟨k,o,n,v,l⟩:=e;unfold Gl at g;obtain⟨hlen,u⟩:=g;cases hb:(bif(bif decide (d>100)then true else decide ((n.length:Int)>60))then true else decide ((o.length:Int)>20))with
  |true=>
   refine⟨?_,by unfold mo;rw[hb];simp only[aj];omega⟩
   apply W92;exact bt hb (ai (by unfold mo;rw[hb];rfl) rfl)
  |false=>
   have E:d<=100:=by
    cases hq:decide (d>100)<;>rw[hq]at hb
    .have:=bI hq;omega
    .simp at hb
   obtain⟨a,rfl⟩:∃a,m=a+1:=⟨m-1,by omega⟩
   have h:=fun(x:Ex)(w:x∈l)=>C92 a x (d+1) (Jb u x w) (by omega) (by omega)
   have key:∀(t:List Ex)(i:Nat)(q:Int),l.drop i=t->1<=q->q<=999+1000*((a:Int)+1)->Nz d q i k o n v (br l) [vN (nH t d q)] []/\nH t d q<=999+1000*((a:Int)+1):=by
    intro t;induction t with
    |nil=>
     intro i q f s b;have:=drop_nil f;refine⟨?_,b⟩;apply T7;rw[eo];exact aU (by rw[bV (by omega)];rfl) fi
    |cons x t z=>
     intro i q f s b;obtain⟨j,y,H⟩:=drop_cons f;obtain⟨c,r⟩:=h x (aM j);have lo:=Bo x (d+1);unfold nH;cases hq:decide (q<1000)with
     |false=>
      refine⟨?_,b⟩;apply T7;rw[eo];exact aU (by rw[bE (by omega),hq];rfl) fi
     |true=>
      have I:=aV hq;obtain⟨K,p⟩:=z (i+1) (q+mo x (d+1)) y (by omega) (by omega)
      refine⟨?_,p⟩;apply T7;rw[eo];exact bt (by rw[bE (by omega),hq];rfl) ⟨_,_,_,_,_,by omega,eL j,aC,_,c,aC,aC,K⟩
   obtain⟨K,p⟩:=key l 0 1 rfl (by omega) (by omega)
   refine⟨?_,by unfold mo;rw[hb];simp only[af];omega⟩
   apply W92;refine aU hb ?_;unfold mo;rw[hb];exact K
def qM(e:Ex):Bool:=decide (mo e 0<=300)
def C63(e:Ex)(a:Gl e):al 63 [oz e] [] [vB (qM e)] []:=by
 apply W63;exact⟨_,(C92 101 e 0 a (by omega) (by omega)).1,fi⟩
def yM(h:qM e=true):dv e<=300/\oE e:=by
 have h:=aV h;obtain⟨b,a⟩:=Du e 0 (by omega)
 exact⟨by omega,a⟩
def iL(s:By):Bool :=!decide ((s.length:Int)>60)
def Bq(d:cT):Bool:=bif qM d.ex then iL d.name else false
def oi:List gu->Int->Option Int
 |[],n=>some n
 |r::t,n=>bif(bif(bif(bif decide ((r.call.length:Int)>60)then true else decide ((r.params.length:Int)>10))then true else decide ((r.cond.length:Int)>3))then true else decide (n+1>60))then none else
  bif !r.params.all iL then none else bif !r.cond.all qM then none else oi t (n+1)
def oj:List cK->Int->Option Int
 |[],n=>some n
 |p::t,n=>bif decide ((p.use.length:Int)>60)then none else bif decide ((p.bj.length:Int)>12)then none else(oi p.bj n).bind (oj t)
def mq:List cL->Int->Option Int
 |[],n=>some n
 |p::t,n=>bif decide ((p.aT.length:Int)>12)then none else bif decide ((p.name.length:Int)>60)then none else(oj p.aT n).bind (mq t)
def xi(u:fH):Bool:=bif(bif(bif decide ((u.aF.length:Int)>12)then true else decide ((u.aA.length:Int)>8))then true else decide ((u.main.length:Int)>8))then false else
 bif !u.aF.all Bq then false else bif !u.main.all iL then false else(mq u.aA 0).isSome
def C38(u:fH)(h:Jc u):al 38 [qg u] [] [vB (xi u)] []:=by
 have ld:(u.aF.map cT.row).length=u.aF.length:=ao ..;have T:(u.aA.map cL.row).length=u.aA.length:=ao ..;have Q:(aI u.main).length=u.main.length:=ao ..;have a2:=h.dl;have a4:=h.pl;have a3:=h.ml;have k2:∀(t:List cL)(i:Nat)(n:Int),u.aA.drop i=t->0<=n->n<=60->Nu n i (u.aF.map cT.row) (u.aA.map cL.row) (aI u.main) u.bO.kind u.bO.data [vB (mq t n).isSome] []:=by
  intro t;induction t with
  |nil=>
   intro i n c _ _;apply X2;rw[T];exact aP (l:=u.aA) rfl c fi
  |cons p t D=>
   intro i n c k g;obtain⟨m,y,h3⟩:=drop_cons c;have hp:=h.aA p (aM m);have a5:=hp.pl;have E:(u.aA.map cL.row)[toNat (i:Int)]?=some [S p.name,L 4 (p.aT.map cK.row)]:=aQ m;have Z:(p.aT.map cK.row).length=p.aT.length:=ao ..;have k3:∀(v:List cK)(j:Nat)(n:Int),p.aT.drop j=v->0<=n->n<=60->Nv n i (p.aT.map cK.row) j (u.aF.map cT.row) (u.aA.map cL.row) (aI u.main) u.bO.kind u.bO.data [vB ((oj v n).bind (mq t)).isSome] []:=by
    intro v;induction v with
    |nil=>
     intro j n H k g;apply X4;rw[Z];exact aP (l:=p.aT) rfl H ⟨aC,D (i+1) n y k g⟩
    |cons x v a0=>
     intro j n H k g;obtain⟨j1,j2,j3⟩:=drop_cons H;have hx:=hp.aT x (aM j1);have a8:=hx.rl;have R:(x.bj.map gu.row).length=x.bj.length:=ao ..;have G:(p.aT.map cK.row)[toNat (j:Int)]?=some [S x.use,N x.act.kind,N x.act.data,L 3 (x.bj.map gu.row)]:=aQ j1;have k4:∀(w:List gu)(q:Nat)(n:Int),x.bj.drop q=w->0<=n->n<=60->Nw n i (p.aT.map cK.row) j q (u.aF.map cT.row) (u.aA.map cL.row) (aI u.main) u.bO.kind u.bO.data [vB (((oi w n).bind (oj v)).bind (mq t)).isSome] []:=by
      intro w;induction w with
      |nil=>
       intro q n I k g;apply X6;refine⟨_,_,_,_,by omega,G,?_⟩
       simp only[R];exact aP (l:=x.bj) rfl I ⟨aC,a0 (j+1) n j2 k g⟩
      |cons r w a1=>
       intro q n I k g;obtain⟨q1,q2,q3⟩:=drop_cons I;have M:=hx.bj r (aM q1);have a7:=M.pl;have a6:=M.cl;have A:(aI r.params).length=r.params.length:=ao ..;have F:(r.cond.map Ex.row).length=r.cond.length:=ao ..;apply X6;refine⟨_,_,_,_,by omega,G,?_⟩
       simp only[R];refine aK (l:=x.bj) rfl I ⟨_,_,_,_,by omega,G,_,_,_,by omega,aQ q1,aC,?_⟩
       rw[A,F];refine ad (fun a=>ai (by rw[oi,a];rfl) rfl) fun a=>?_
       have h4:n+1<=60:=by
        cases hz:(bif(bif decide ((r.call.length:Int)>60)then true else decide ((r.params.length:Int)>10))then true else decide ((r.cond.length:Int)>3))<;>rw[hz]at a
        .have:=bI a;omega
        .simp at a
       have e0:oi (r::w) n=bif !r.params.all iL then none else bif !r.cond.all qM then none else oi w (n+1):=by rw[oi,a];rfl
       have k6:∀(z:List Ex)(s:Nat),r.cond.drop s=z->Ny (n+1) i (p.aT.map cK.row) j q s (u.aF.map cT.row) (u.aA.map cL.row) (aI u.main) u.bO.kind u.bO.data r.call (aI r.params) (r.cond.map Ex.row) [vB (((bif !z.all qM then none else oi w (n+1)).bind (oj v)).bind (mq t)).isSome] []:=by
        intro z;induction z with
        |nil=>
         intro s f;apply X8;rw[F];exact aP (l:=r.cond) rfl f ⟨aC,a1 (q+1) (n+1) q2 (by omega) h4⟩
        |cons e z Y=>
         intro s f;obtain⟨J,X,s3⟩:=drop_cons f;apply X8;rw[F];refine aK (l:=r.cond) rfl f ⟨_,_,_,_,_,by omega,(aQ J).trans (by rw[Ex.cp]),_,C63 e (M.cond e (aM J)),ad (fun b=>ai ?_ rfl) fun b=>⟨aC,?_⟩⟩
         .rw[bG,show qM e=false by simpa using b];rfl
         .rw[bG,show qM e=true by simpa using b];exact Y (s+1) X
       have k5:∀(z:List By)(s:Nat),r.params.drop s=z->Nx (n+1) i (p.aT.map cK.row) j q s (u.aF.map cT.row) (u.aA.map cL.row) (aI u.main) u.bO.kind u.bO.data r.call (aI r.params) (r.cond.map Ex.row) [vB (((bif !z.all iL then none else bif !r.cond.all qM then none else oi w (n+1)).bind (oj v)).bind (mq t)).isSome] []:=by
        intro z;induction z with
        |nil=>
         intro s f;apply X7;rw[A];exact aP (l:=r.params) rfl f (k6 r.cond 0 rfl)
        |cons e z Y=>
         intro s f;obtain⟨J,X,s3⟩:=drop_cons f;apply X7;rw[A];refine aK (l:=r.params) rfl f ⟨_,by omega,aQ J,ad (fun b=>ai ?_ rfl) fun b=>⟨aC,?_⟩⟩
         .rw[bG,iL,b];rfl
         .rw[bG,iL,b];exact Y (s+1) X
       rw[e0];exact k5 r.params 0 rfl
     apply X4;rw[Z];refine aK (l:=p.aT) rfl H ⟨_,_,_,_,by omega,G,ad (fun a=>ai (by rw[oj,a];rfl) rfl) fun a=>⟨_,_,_,_,by omega,G,?_⟩⟩
     simp only[R];refine ad (fun o=>ai (by rw[oj,a,o];rfl) rfl) fun o=>?_
     rw[oj,a,o];exact k4 x.bj 0 n rfl k g
   apply X2;rw[T];refine aK (l:=u.aA) rfl c ⟨_,_,by omega,E,?_⟩
   simp only[Z];refine ad (fun a=>ai (by rw[mq,a];rfl) rfl) fun a=>⟨_,_,by omega,E,ad (fun o=>ai (by rw[mq,a,o];rfl) rfl) fun o=>?_⟩
   rw[mq,a,o];exact k3 p.aT 0 n rfl k g
 have k1:∀(t:List By)(i:Nat),u.main.drop i=t->Nt 0 i (u.aF.map cT.row) (u.aA.map cL.row) (aI u.main) u.bO.kind u.bO.data [vB (bif !t.all iL then false else(mq u.aA 0).isSome)] []:=by
  intro t;induction t with
  |nil=>intro i c;apply X1;rw[Q];exact aP (l:=u.main) rfl c (k2 u.aA 0 0 rfl (by omega) (by omega))
  |cons s t D=>
   intro i c;obtain⟨m,y,h3⟩:=drop_cons c;apply X1;rw[Q];refine aK (l:=u.main) rfl c ⟨_,by omega,aQ m,ad (fun b=>ai ?_ rfl) fun b=>⟨aC,?_⟩⟩
   .rw[bG,iL,b];rfl
   .rw[bG,iL,b];exact D (i+1) y
 have k0:∀(t:List cT)(i:Nat),u.aF.drop i=t->Ns 0 i (u.aF.map cT.row) (u.aA.map cL.row) (aI u.main) u.bO.kind u.bO.data [vB (bif !t.all Bq then false else bif !u.main.all iL then false else(mq u.aA 0).isSome)] []:=by
  intro t;induction t with
  |nil=>intro i c;apply XZ;rw[ld];exact aP (l:=u.aF) rfl c (k1 u.main 0 rfl)
  |cons d t D=>
   intro i c;obtain⟨m,y,h3⟩:=drop_cons c;have hd:=h.aF d (aM m);have E:(u.aF.map cT.row)[toNat (i:Int)]?=some [S d.name,N d.ex.kind,S d.ex.op,S d.ex.name,U d.ex.num,L 5 (br d.ex.kids)]:=(aQ m).trans (by rw[cT.row,Ex.cp])
   apply XZ;rw[ld];refine aK (l:=u.aF) rfl c ⟨_,_,_,_,_,_,by omega,E,_,C63 d.ex hd,ad (fun b=>ai ?_ rfl) fun b=>⟨_,_,_,_,_,_,by omega,E,ad (fun K=>ai ?_ rfl) fun K=>⟨aC,?_⟩⟩⟩
   .rw[bG,Bq,show qM d.ex=false by simpa using b];rfl
   .rw[bG,Bq,show qM d.ex=true by simpa using b,iL,K];rfl
   .rw[bG,Bq,show qM d.ex=true by simpa using b,iL,K];exact D (i+1) y
 apply W38;rw[ld,T,Q];refine ad (fun a=>ai (by rw[xi,a];rfl) rfl) fun a=>?_
 rw[xi,a];exact k0 u.aF 0 rfl
def Br(h:(bif b then true else c)=false):b=false/\c=false:=by cases b<;>cases c<;>simp at h⊢
def vP(h:(bif b then none else x)=some y):b=false/\x=some y:=by cases b<;>simp_all
def ph{a b:Int}(h:decide (a>b)=false):a<=b:=by have:=bI h;omega
def s5{l:List By}(h:l.all iL=true):∀s∈l,s.length<=60:=fun s c=>by
 have:=bf.1 h s c;unfold iL at this;have:=ph (a:=(s.length:Int)) (b:=60) (by simpa using this)
 omega
def Dv:∀(l:List gu)(n m:Int),oi l n=some m->∀r∈l,r.call.length<=60/\r.params.length<=10/\r.cond.length<=3/\(∀s∈r.params,s.length<=60)/\∀e∈r.cond,qM e=true
 |[],_,_,_=>by simp
 |r::t,n,m,h=>by
  unfold oi at h;obtain⟨f,h⟩:=vP h;obtain⟨g,h⟩:=vP h;obtain⟨i,h⟩:=vP h;obtain⟨j,-⟩:=Br f;obtain⟨k,d⟩:=Br j;obtain⟨b,c⟩:=Br k;have b:=ph b;have c:=ph c;have d:=ph d;intro x a;rcases aZ.1 a with rfl|a
  .exact⟨by omega,by omega,by omega,s5 (by simpa using g),bf.1 (by simpa using i)⟩
  .exact Dv t _ m h x a
def Dw:∀(l:List cK)(n m:Int),oj l n=some m->∀x∈l,x.use.length<=60/\x.bj.length<=12/\∃n m,oi x.bj n=some m
 |[],_,_,_=>by simp
 |p::t,n,m,h=>by
  unfold oj at h;obtain⟨b,h⟩:=vP h;obtain⟨c,h⟩:=vP h;have b:=ph b;have c:=ph c;obtain⟨k,d,e⟩:=cQ.1 h;intro x a;rcases aZ.1 a with rfl|a
  .exact⟨by omega,by omega,_,_,d⟩
  .exact Dw t _ m e x a
def Dx:∀(l:List cL)(n m:Int),mq l n=some m->∀p∈l,p.name.length<=60/\p.aT.length<=12/\∃n m,oj p.aT n=some m
 |[],_,_,_=>by simp
 |p::t,n,m,h=>by
  unfold mq at h;obtain⟨b,h⟩:=vP h;obtain⟨c,h⟩:=vP h;have b:=ph b;have c:=ph c;obtain⟨k,d,e⟩:=cQ.1 h;intro x a;rcases aZ.1 a with rfl|a
  .exact⟨by omega,by omega,_,_,d⟩
  .exact Dx t _ m e x a
mutual
theorem T8:∀e:Ex,oE e->dv e<=300->rP e/\(bK e:Int)<=dv e
 |.mk k o n v l,h,b=>by
  unfold oE at h;unfold dv at b;obtain⟨a,d,c⟩:=NB l h.2.2 (by omega)
  unfold rP bK dv;exact⟨⟨by omega,by omega,by omega,a⟩,by omega⟩
theorem NB:∀l:List Ex,Bn l->cG l<=299->UI l/\(ct l:Int)<=cG l/\(l.length:Int)<=cG l
 |[],_,_=>⟨trivial,by simp[ct,cG],by simp[cG]⟩
 |x::t,h,b=>by
  unfold Bn at h;unfold cG at b;have i:=eM x;have j:=lq t;obtain⟨a,d⟩:=T8 x h.1 (by omega)
  obtain⟨c,f,g⟩:=NB t h.2 (by omega)
  unfold UI ct cG;exact⟨⟨a,c⟩,by omega,by simp;omega⟩
end
def LA(h:xi u=true):oe u:=by
 unfold xi at h;cases h1:(bif(bif decide ((u.aF.length:Int)>12)then true else decide ((u.aA.length:Int)>8))then true else decide ((u.main.length:Int)>8))<;>rw[h1]at h
 .obtain⟨v,j⟩:=Br h1
  obtain⟨k,n⟩:=Br v;have j:=ph j;have k:=ph k;have n:=ph n;have o:∀e:Ex,qM e=true->rP e/\bK e<=300:=fun e c=>by
   obtain⟨g,i⟩:=yM c;obtain⟨a,q⟩:=T8 e i g;exact⟨a,by omega⟩
  cases h6 : !u.aF.all Bq<;>rw[h6]at h
  .cases h7 : !u.main.all iL<;>rw[h7]at h
   .simp only[af]at h
    obtain⟨m,w⟩:=uD.1 h;refine⟨by omega,fun d z=>?_,by omega,fun p D=>?_,by omega,fun s f=>by have:=s5 (by simpa using h7) s f;omega⟩
    .obtain⟨y,J⟩:=cg (b:=qM d.ex) (bf.1 (show u.aF.all Bq=true by simpa using h6) d z)
     have X:=s5 (l:=[d.name]) (by simp[J]) d.name (by simp)
     exact⟨by omega,(o _ y).1⟩
    .obtain⟨g,i,_,_,a⟩:=Dx _ _ _ w p D
     refine⟨by omega,by omega,fun x G=>?_⟩
     obtain⟨q,K,_,_,t⟩:=Dw _ _ _ a x G;refine⟨by omega,by omega,fun r E=>?_⟩
     obtain⟨M,Q,T,H,I⟩:=Dv _ _ _ t r E;exact⟨by omega,by omega,fun s f=>by have:=H s f;omega,by omega,fun e c=>by have:=o e (I e c);exact⟨this.1,by omega⟩⟩
   .simp at h
  .simp at h
 .simp at h
mutual
def tm:Ex->Int|.mk k _ _ _ l=>ue l (bif k==5 then 1 else 0)
def ue:List Ex->Int->Int|[],n=>n|x::t,n=>ue t (n+tm x)
end
mutual
theorem Jd:∀e,0<=tm e/\tm e<=dv e
 |.mk k _ _ _ l=>by
  have a:=xj l 1;have b:=xj l 0;simp only[tm,dv];cases k==5<;>simp only[aj,af]<;>omega
theorem xj:∀l n,n<=ue l n/\ue l n<=n+cG l
 |[],n=>⟨ez n,by simp[ue,cG]⟩
 |x::t,n=>by
  have a:=Jd x;have c:=xj t (n+tm x);simp only[ue,cG];omega
end
def Bt:∀{l:List Ex}{x:Ex},x∈l->dv x<=cG l
 |y::l,x,h=>by
  have:=lq l;have:=eM y;rcases aZ.1 h with rfl|h
  .simp only[cG];omega
  .have:=Bt h;simp only[cG];omega
def C64:∀(m:Nat)(e:Ex),bK e<=m->dv e<=300->rP e->al 64 [oz e] [] [vN (tm e)] []
 |0,e,h,_,_=>by rw[cI]at h;omega
 |m+1,e,h,f,p=>by
  have w:=((ky e).1 p).2.2;obtain⟨k,o,n,v,l⟩:=e;obtain⟨hlen,c⟩:=w;have hlen:l.length<=2^40:=hlen;have c:UI l:=c;have h:ct l+1<=m+1:=h;have f:cG l+1<=300:=f;have key:∀(t:List Ex)(i:Nat)(q:Int),l.drop i=t->0<=q->q+cG t<=300->I8 q i k o n v (br l) [vN (ue t q)] []:=by
   intro t;induction t with
   |nil=>intro i q a _ _;apply Ya;rw[eo];exact aP (l:=l) rfl a fi
   |cons x t u=>
    intro i q a y j;obtain⟨g,s,r⟩:=drop_cons a;have d:=aM g;have D:=ei x d;have G:=Bt d;have z:=Jd x;have E:=lq t;simp only[cG]at j;apply Ya;rw[eo];exact aK (l:=l) rfl a ⟨_,_,_,_,_,by omega,eL g,_,C64 m x (by omega) (by omega) (dU c x d),aC,aC,u (i+1) _ s (by omega) (by omega)⟩
  apply W64;refine ad (fun b=>?_) fun b=>?_
  .have:=key l 0 1 rfl (by omega) (by omega)
   rw[tm,show(k==5)=true from b];exact this
  .have:=key l 0 0 rfl (by omega) (by omega)
   rw[tm,show(k==5)=false from b];exact this
def oF:List cK->Int->Int
 |[],n=>n
 |p::t,n=>bif !(p.use==[])then oF t (n+1)else oF t n
def sh:List cL->Int->Int
 |[],b=>b
 |p::t,b=>bif decide (oF p.aT 0>b)then sh t (oF p.aT 0)else sh t b
def C65(l:List cL)(z:l.length<=2^40)(w:∀p∈l,p.aT.length<=2^40):al 65 [vL 2 (l.map cL.row)] [] [vN (sh l 0)] []:=by
 have o:(l.map cL.row).length=l.length:=ao ..;have key:∀(t:List cL)(i:Nat)(b:Int),l.drop i=t->I9 (l.map cL.row) b i [vN (sh t b)] []:=by
  intro t;induction t with
  |nil=>intro i b a;apply Yb;rw[o];exact aP (l:=l) rfl a fi
  |cons p t k=>
   intro i b a;obtain⟨f,g,r⟩:=drop_cons a;have E:=w p (aM f);have d:(l.map cL.row)[toNat (i:Int)]?=some [S p.name,L 4 (p.aT.map cK.row)]:=aQ f;have s:(p.aT.map cK.row).length=p.aT.length:=ao ..;have inner:∀(v:List cK)(j:Nat)(n:Int),p.aT.drop j=v->0<=n->n<=j->Ja (l.map cL.row) b i n j [vN (bif decide (oF v n>b)then sh t (oF v n)else sh t b)] []:=by
    intro v;induction v with
    |nil=>
     intro j n c e u;apply Yc;refine⟨_,_,by omega,d,?_⟩
     simp only[s];refine aP (l:=p.aT) rfl c (ad (fun h=>⟨aC,?_⟩) fun h=>⟨aC,?_⟩)
     .rw[oF,h];exact k (i+1) n g
     .rw[oF,h];exact k (i+1) b g
    |cons x v q=>
     intro j n c e u;obtain⟨y,m,D⟩:=drop_cons c;apply Yc;refine⟨_,_,by omega,d,?_⟩
     simp only[s];refine aK (l:=p.aT) rfl c ⟨_,_,by omega,d,_,_,_,_,by omega,aQ y,ad (fun h=>⟨aC,aC,?_⟩) fun h=>⟨aC,?_⟩⟩
     .rw[oF,show(!(x.use==[]))=true from h];exact q (j+1) (n+1) m (by omega) (by omega)
     .rw[oF,show(!(x.use==[]))=false from h];exact q (j+1) n m e (by omega)
   apply Yb;rw[o];exact aK (l:=l) rfl a (inner p.aT 0 0 rfl (by omega) (by omega))
 apply W65;exact key l 0 0 rfl
def acX(u:fH):Bool:=bif u.aF.all (fun d => !decide (tm d.ex>3))then decide (sh u.aA 0<=3)else false
def C39(u:fH)(h:oe u)(j:∀d∈u.aF,dv d.ex<=300):al 39 [qg u] [] [vB (acX u)] []:=by
 have ld:(u.aF.map cT.row).length=u.aF.length:=ao ..;have q:=h.dl;have key:∀(t:List cT)(i:Nat),u.aF.drop i=t->NA i (u.aF.map cT.row) (u.aA.map cL.row) (aI u.main) u.bO.kind u.bO.data [vB (bif t.all (fun d => !decide (tm d.ex>3))then decide (sh u.aA 0<=3)else false)] []:=by
  intro t;induction t with
  |nil=>intro i a;apply X9;rw[ld];exact aP (l:=u.aF) rfl a ⟨_,C65 u.aA h.pl (fun p k=>(h.aA p k).pl),fi⟩
  |cons d t m=>
   intro i a;obtain⟨c,f,o⟩:=drop_cons a;have e:=aM c;have g:=h.aF d e;have n:(u.aF.map cT.row)[toNat (i:Int)]?=some [S d.name,N d.ex.kind,S d.ex.op,S d.ex.name,U d.ex.num,L 5 (br d.ex.kids)]:=(aQ c).trans (by rw[cT.row,Ex.cp])
   apply X9;rw[ld];refine aK (l:=u.aF) rfl a ⟨_,_,_,_,_,_,by omega,n,_,C64 _ d.ex (ar _) (j d e) g.2,ad (fun b=>ai ?_ rfl) fun b=>⟨aC,?_⟩⟩
   .rw[bG,b];rfl
   .rw[bG,b];exact m (i+1) f
 apply W39;exact key u.aF 0 rfl
def T9(h:xi u=true):∀d∈u.aF,dv d.ex<=300:=by
 unfold xi at h;cases h1:(bif(bif decide ((u.aF.length:Int)>12)then true else decide ((u.aA.length:Int)>8))then true else decide ((u.main.length:Int)>8))<;>rw[h1]at h
 .cases h2 : !u.aF.all Bq<;>rw[h2]at h
  .intro d a
   have:=bf.1 (show u.aF.all Bq=true by simpa using h2) d a
   exact(yM (cg (b:=qM d.ex) this).1).1
  .simp at h
 .simp at h
def Pb(u:fH):Bool:=bif xi u then acX u else false
def C21(u:fH)(h:Jc u):al 21 [qg u] [] [vB (Pb u)] []:=by
 apply W21;exact⟨_,C38 u h,ad (fun a=>⟨_,C39 u (LA a) (T9 a),ai (by rw[Pb,a];rfl) rfl⟩) fun a=>ai (by rw[Pb,a];rfl) rfl⟩
def C13(a:Act):al 13 [zW a] [] [vW (cd a).1,vB (cd a).2] []:=by
 obtain⟨k,d⟩:=a;have j:∀(n:Int)(b:Bool),fP k=(n,true)->(bif(bif(k==3)then true else(k==4))then true else(k==5))=b->qo n b k d [vW (cd ⟨k,d⟩).1,vB (cd ⟨k,d⟩).2] []:=by
  intro n b c y;have z:cd ⟨k,d⟩=bif(bif decide (d<0)then true else decide (d>(bif b then 65535 else 0)))then(0,false)else(wrap .u32 (n+wrap .u32 d),true):=by
   unfold cd;rw[c,y];rfl
  have x:(bif(bif b then(bif(decide (d<0))then true else(decide (d>65535)))else false)then true else(bif(!b)then(d !=0)else false))=(bif decide (d<0)then true else decide (d>(bif b then 65535 else 0))):=by
   cases b
   .simp only[af,kh,aj]
    cases h:decide (d<0)
    .have:=bI h
     simp only[af];rw[Bool.eq_iff_iff,bne_iff_ne,decide_eq_true_iff];omega
    .have:=aV h
     simp only[aj];rw[bne_iff_ne];omega
   .simp only[aj,ec,af]
    cases(bif decide (d<0)then true else decide (d>65535))<;>rfl
  apply ZV;rw[z,x];exact ad (fun h=>ai (by rw[h];rfl) rfl) fun h=>ai (by rw[h];rfl) rfl
 apply W13;refine ad (fun h=>j _ _ ?_ ?_) fun p=>ad (fun h=>j _ _ ?_ ?_) fun q=>ad (fun h=>j _ _ ?_ ?_) fun s=>ad (fun h=>j _ _ ?_ ?_) fun t=>ad (fun h=>j _ _ ?_ ?_) fun u=>ad (fun h=>j _ _ ?_ ?_) fun v=>ad (fun h=>j _ _ ?_ ?_) fun w=>ai ?_ ?_
 all_goals first
  |rfl
  |(obtain rfl:=eq_of_beq h;rfl)
  |skip
 have e:(k==1)=false:=p;have f:(k==2)=false:=q;have g:(k==3)=false:=s;have i:(k==4)=false:=t;have l:(k==5)=false:=u;have m:(k==6)=false:=v;have o:(k==7)=false:=w;have c:fP k=(0,false):=by unfold fP;rw[e,f,g,i,l,m,o];rfl
 unfold cd;rw[show fP (Act.mk k d).kind=(0,false)from c];rfl
def C42(p:cK)(h:xD p):al 42 [OM p] [] [vB (kR p)] []:=by
 have o:(p.bj.map gu.row).length=p.bj.length:=ao ..;have J:=h.rl;have key:∀(t:List gu)(i:Nat)(v:Bool),p.bj.drop i=t->qE v i p.use p.act.kind p.act.data (p.bj.map gu.row) [vB (bif v then t.all lQ else false)] []:=by
  intro t;induction t with
  |nil=>
   intro i v n;have:=drop_nil n;apply XN;rw[o];exact aU (by rw[bV (by omega)];rfl) (ai (by cases v<;>rfl) rfl)
  |cons r t E=>
   intro i v n;obtain⟨q,z,I⟩:=drop_cons n;have j:=h.bj r (aM q);apply XN;rw[o];refine ad (fun a=>?_) fun a=>ai ?_ rfl
   .have a:v=true:=by rw[bE (by omega)]at a;exact a
    subst a;have G:(r.cond.map Ex.row).length=r.cond.length:=ao ..;have d:∀b,lQ r=b->au ((i:Int)+1)/\qE b ((i:Int)+1) p.use p.act.kind p.act.data (p.bj.map gu.row) [vB (bif true then(r::t).all lQ else false)] []:=fun b f=>⟨aC,by
     rw[bG,f];have:=E (i+1) b z;cases b<;>exact this⟩
    refine⟨_,_,_,by omega,aQ q,_,ZX r.call j.call,ad (fun c=>⟨_,C43 r.params (by have:=j.pl;omega) j.params,?_⟩) fun c=>aU rfl (d false (by rw[lQ,c];rfl))⟩
    rw[G];refine ad (fun g=>?_) fun g=>d false ?_
    .obtain⟨H,x⟩:=cg (b:=r.params.all bL) g
     have x:=aV x;have y:lQ r=r.cond.all xE:=by
      rw[lQ,c,H,bV (by omega)];rfl
     refine ad (fun l=>d true ?_) fun l=>?_
     .have D:r.cond=[]:=hX.1 (by have:=eq_of_beq l;omega)
      rw[y,D];rfl
     .obtain⟨e,m⟩:∃e,r.cond=[e]:=List.length_eq_one_iff.1 (by have:=gJ l;omega)
      have w:=j.cond e (by rw[m];simp)
      have s:(r.cond.map Ex.row)[toNat 0]?=some [N e.kind,S e.op,S e.name,U e.num,L 5 (br e.kids)]:=by rw[m,<-Ex.cp];rfl
      have u:lQ r=xE e:=by rw[y,m];simp
      refine⟨_,_,_,_,_,by omega,s,_,C70 _ e (ar _) w.1,ad (fun f=>⟨_,_,_,_,_,by omega,s,_,C71 _ e (ar _) (by omega) (vr e w.1),d _ ?_⟩) fun f=>d false ?_⟩
      .rw[u,xE,f];rfl
      .rw[u,xE,f];rfl
    .rw[lQ,c]
     cases hq:r.params.all bL
     .rfl
     .rw[hq]at g
      have:=bI g;rw[bE (by omega)];rfl
   .have a:v=false:=by rw[bE (by omega)]at a;exact a
    subst a;rfl
 apply W42;rw[o];refine ad (fun k=>⟨_,ZX p.use h.use,ad (fun c=>ai (by rw[kR,k,c];rfl) rfl) fun c=>ai (by rw[kR,k,c];rfl) rfl⟩) fun k=>⟨_,_,C13 p.act,?_⟩
 have:=key p.bj 0 (cd p.act).2 rfl;have e:kR p=bif(cd p.act).2 then p.bj.all lQ else false:=by rw[kR,k];rfl
 rw[e];exact this
def C22(u:fH)(h:oe u):al 22 [qg u] [] [vB (ji u)] []:=by
 have ld:(u.aF.map cT.row).length=u.aF.length:=ao ..;have z:(u.aA.map cL.row).length=u.aA.length:=ao ..;have J:(aI u.main).length=u.main.length:=ao ..;have T:=h.dl;have X:=h.pl;have K:=h.ml;have I:∀(t:List cL)(i:Nat),u.aA.drop i=t->M8 i (u.aF.map cT.row) (u.aA.map cL.row) (aI u.main) u.bO.kind u.bO.data [vB (bif(bif t.all wS then decide ((u.main.length:Int)>0)else false)then(bif u.main.all bL then(cd u.bO).2 else false)else false)] []:=by
  intro t;induction t with
  |nil=>
   intro i c;apply XC;rw[z,J];refine aP (l:=u.aA) rfl c ⟨_,_,C13 u.bO,ad (fun k=>?_) fun k=>ai ?_ rfl⟩
   .obtain⟨q,E⟩:=cg (b:=(cd u.bO).2) k
    refine⟨_,C43 u.main K h.main,ai ?_ rfl⟩;rw[mQ,E,q];cases u.main.all bL<;>rfl
   .rw[mQ]
    cases q:(cd u.bO).2
    .cases decide ((u.main.length:Int)>0)<;>cases u.main.all bL<;>rfl
    .rw[q]at k
     rw[show decide ((u.main.length:Int)>0)=false from k];rfl
  |cons p t s=>
   intro i c;obtain⟨g,n,D⟩:=drop_cons c;have o:=h.aA p (aM g);have Y:=o.pl;have f:(u.aA.map cL.row)[toNat (i:Int)]?=some [S p.name,L 4 (p.aT.map cK.row)]:=aQ g;apply XC;rw[z];refine aK (l:=u.aA) rfl c ⟨_,_,by omega,f,_,ZX p.name o.name,ad (fun a=>ai ?_ rfl) fun a=>?_⟩
   .rw[bG,wS,show bL p.name=false by simpa using a];rfl
   .have a:bL p.name=true:=by simpa using a
    have r:(p.aT.map cK.row).length=p.aT.length:=ao ..;have inner:∀(v:List cK)(j:Nat),p.aT.drop j=v->M9 i j (u.aF.map cT.row) (u.aA.map cL.row) (aI u.main) u.bO.kind u.bO.data [vB (bif(bif(v.all kR&&t.all wS)then decide ((u.main.length:Int)>0)else false)then(bif u.main.all bL then(cd u.bO).2 else false)else false)] []:=by
     intro v;induction v with
     |nil=>
      intro j m;apply XD;refine⟨_,_,by omega,f,?_⟩
      simp only[r];exact aP (l:=p.aT) rfl m ⟨aC,s (i+1) n⟩
     |cons x v M=>
      intro j m;obtain⟨y,G,Q⟩:=drop_cons m;apply XD;refine⟨_,_,by omega,f,?_⟩
      simp only[r];refine aK (l:=p.aT) rfl m ⟨_,_,by omega,f,_,_,_,_,by omega,aQ y,_,C42 x (o.aT x (aM y)),ad (fun e=>ai ?_ rfl) fun e=>⟨aC,?_⟩⟩
      .rw[bG,show kR x=false by simpa using e];rfl
      .rw[bG,show kR x=true by simpa using e]
       exact M (j+1) G
    rw[bG,wS,a];exact inner p.aT 0 rfl
 have H:∀(t:List cT)(i:Nat),u.aF.drop i=t->M7 i (u.aF.map cT.row) (u.aA.map cL.row) (aI u.main) u.bO.kind u.bO.data [vB (bif t.all Ag then(bif(bif u.aA.all wS then decide ((u.main.length:Int)>0)else false)then(bif u.main.all bL then(cd u.bO).2 else false)else false)else false)] []:=by
  intro t;induction t with
  |nil=>
   intro i c;apply XB;rw[ld];exact aP (l:=u.aF) rfl c (I u.aA 0 rfl)
  |cons d t s=>
   intro i c;obtain⟨g,n,D⟩:=drop_cons c;have w:=h.aF d (aM g);have f:(u.aF.map cT.row)[toNat (i:Int)]?=some [S d.name,N d.ex.kind,S d.ex.op,S d.ex.name,U d.ex.num,L 5 (br d.ex.kids)]:=(aQ g).trans (by rw[cT.row,Ex.cp])
   apply XB;rw[ld];refine aK (l:=u.aF) rfl c ⟨_,_,_,_,_,_,by omega,f,_,ZX d.name w.1,ad (fun a=>ai ?_ rfl) fun a=>⟨_,_,_,_,_,_,by omega,f,_,C41 _ d.ex (ar _) w.2,ad (fun e=>ai ?_ rfl) fun e=>⟨aC,?_⟩⟩⟩
   .rw[bG,Ag,show bL d.name=false by simpa using a];rfl
   .rw[bG,Ag,show bL d.name=true by simpa using a,show gn d.ex=false by simpa using e];rfl
   .rw[bG,Ag,show bL d.name=true by simpa using a,show gn d.ex=true by simpa using e]
    exact s (i+1) n
 apply W22;exact H u.aF 0 rfl
def C15(a:By):al 15 [vS a] [] [vW (dc a).1,vB (dc a).2] []:=by
 apply W15;exact ad (fun h=>ai (by rw[dc,h];rfl) rfl) fun b=>ad (fun h=>ai (by rw[dc,b,h];rfl) rfl) fun c=>ad (fun h=>ai (by rw[dc,b,c,h];rfl) rfl) fun h=>ai (by rw[dc,b,c,h];rfl) rfl
structure Bu where
 name:By
 params:List By
 amd:Int
 x86:Int
 arm:Int
def Bu.row(r:Bu):List PV:=[S r.name,L 1 (aI r.params),N r.amd,N r.x86,N r.arm]
def iW:List Bu:=lR.map fun r=>⟨r.name,jA r.params,r.n2,r.n1,r.n0⟩
def C20:al 20 [] [] [vL 5 (iW.map Bu.row)] []:=W20 (ai rfl rfl)
def NC(aq:By)(r:Bu):Int:=bif aq==[97,97,114,99,104,54,52]then r.arm else bif aq==[105,51,56,54]then r.x86 else bif aq==[120,56,54,95,54,52]then r.amd else -1
def lE(aq:By):List Bu->List Cl
 |[]=>[]
 |r::t=>bif decide (NC aq r>=0)then⟨r.name,wrap .u32 (NC aq r),r.params⟩::lE aq t else lE aq t
def mf(aq:By):List Cl:=lE aq iW
def xT(aq:By):∀l,(lE aq l).length<=l.length
 |[]=>ar _
 |r::t=>by
  have:=xT aq t;unfold lE;cases decide (NC aq r>=0)<;>simp only[aj,af,aE]<;>omega
def C7(aq:By):al 7 [vS aq] [] [vL 3 ((mf aq).map Cl.row)] []:=by
 have g:(iW.map Bu.row).length=iW.length:=ao ..;have p:iW.length=17:=by decide
 have key:∀(t:List Bu)(i:Nat)(a:List Cl),iW.drop i=t->a.length<=i->T0 aq (a.map Cl.row) (iW.map Bu.row) i [.own 0 0 3 ((a++lE aq t).map Cl.row)] []:=by
  intro t;induction t with
  |nil=>intro i a c _;apply acT;rw[g];exact aP (l:=iW) rfl c (ai (by simp[lE]) rfl)
  |cons r t f=>
   intro i a c o;obtain⟨m,e,n⟩:=drop_cons c;have b:(iW.map Bu.row)[toNat (i:Int)]?=some [S r.name,L 1 (aI r.params),N r.amd,N r.x86,N r.arm]:=aQ m;have j:Ds aq (a.map Cl.row) (iW.map Bu.row) i (NC aq r) [.own 0 0 3 ((a++lE aq (r::t)).map Cl.row)] []:=by
    apply acU;refine ad (fun h=>⟨_,_,_,_,_,by omega,b,_,_,_,_,_,by omega,b,by simp;omega,aC,?_⟩) fun h=>⟨aC,?_⟩
    .have:=f (i+1) (a++[⟨r.name,wrap .u32 (NC aq r),r.params⟩]) e (by simp;omega)
     rw[lE,h,aj];rw[bp]at this;rw[bM (l₁:=a) (l₂:=[(⟨r.name,wrap .u32 (NC aq r),r.params⟩:Cl)])]at this;exact this
    .rw[lE,h,af]
     exact f (i+1) a e (by omega)
   apply acT;rw[g];refine aK (l:=iW) rfl c (ad (fun h=>⟨_,_,_,_,_,by omega,b,?_⟩) fun d=>ad (fun h=>⟨_,_,_,_,_,by omega,b,?_⟩) fun k=>ad (fun h=>⟨_,_,_,_,_,by omega,b,?_⟩) fun h=>?_)
   .rw[show NC aq r=r.arm by rw[NC,h];rfl]at j;exact j
   .rw[show NC aq r=r.x86 by rw[NC,d,h];rfl]at j;exact j
   .rw[show NC aq r=r.amd by rw[NC,d,k,h];rfl]at j;exact j
   .rw[show NC aq r = -1 by rw[NC,d,k,h];rfl]at j;exact j
 have w:al 7 [vS aq] [] [.own 0 0 3 ((mf aq).map Cl.row)] []:=by
  apply W7;exact⟨_,C20,key iW 0 [] rfl (by simp)⟩
 exact Go.Ac.al.soft w rfl
def Je(aq name:By):Option Cl:=(mf aq).find? fun c=>c.name==name
def C9(aq name:By):al 9 [vS aq,vS name] [] [clA ((Je aq name).getD ⟨[],0,[]⟩),vB (Je aq name).isSome] []:=by
 have d:((mf aq).map Cl.row).length=(mf aq).length:=ao ..;have j:(mf aq).length<=17:=dR (xT aq iW) (by decide)
 have key:∀(t:List Cl)(i:Nat),(mf aq).drop i=t->V3 name ((mf aq).map Cl.row) i [] 0 [] [clA ((t.find? fun c=>c.name==name).getD ⟨[],0,[]⟩),vB (t.find? fun c=>c.name==name).isSome] []:=by
  intro t;induction t with
  |nil=>intro i a;apply acV;rw[d];exact aP (l:=mf aq) rfl a fi
  |cons c t f=>
   intro i a;obtain⟨b,e,g⟩:=drop_cons a;apply acV;rw[d];refine aK (l:=mf aq) rfl a ⟨_,_,_,by omega,aQ b,ad (fun h=>⟨_,_,_,by omega,aQ b,ai (by rw[cj,show(c.name==name)=true from h];rfl) rfl⟩) fun h=>⟨aC,by rw[cj,show(c.name==name)=false from h];exact f (i+1) e⟩⟩
 apply W9;exact⟨_,C7 aq,key (mf aq) 0 rfl⟩
def alu(h:0<=y)(b:y<18446744073709551616):wrap .u8 (cH .and .u64 y 255)=wrap .u8 y:=by
 obtain⟨Y,rfl⟩:=iO h;have a:∀n:Int,wrap .u8 n=n%256:=fun n=>by simp[wrap,IntKind.signed,IntKind.bits]
 have e:cH .and .u64 (Y:Int) 255=((Y%256:Nat):Int):=by
  show wrap .u64 ((BitVec.ofInt 64 (Y:Int) &&& BitVec.ofInt 64 ((255:Nat):Int)).toNat:Int)=_
  rw[BitVec.toNat_and,yj,yj,ye,ye,mV (by omega),mV (by decide)]
  rw[show Y &&& 255=Y%2^8 from Nat.and_two_pow_sub_one_eq_mod Y 8,qD (by omega) (by omega)]
 rw[e,a,a];omega
def C37(b:List Int)(n:Int)(k:Nat)(c:0<=n/\n<18446744073709551616)(o:k<=8)(l:b.length<=2^40):al 37 [.own 0 0 1 (gX b),vU n,vN k] [] [.own 0 0 1 (gX (b++iJ n k 0))] []:=by
 have key:∀(m i:Nat)(a:List Int),i+m=k->a.length<=2^40+i->Nq (gX a) n k i [.own 0 0 1 (gX (a++iJ n m i))] []:=by
  intro m;induction m with
  |zero=>intro i a e _;apply XX;exact aU (bV (by omega)) (ai (by simp[iJ]) rfl)
  |succ m j=>
   intro i a e p;have g:toNat (wrap .u64 ((8:Int)*i))=toNat ((8:Int)*i):=by rw[qD (by omega) (by omega)]
   have f:0<=fdiv n (2^(min (toNat ((8:Int)*i)) (IntKind.bits .u64)))/\fdiv n (2^(min (toNat ((8:Int)*i)) (IntKind.bits .u64)))<=n:=by
    have d:(0:Int)<2^(min (toNat ((8:Int)*i)) (IntKind.bits .u64)):=oH (by decide)
    rw[yt _ (jk d)];exact⟨Int.ediv_nonneg c.1 (jk d),Int.ediv_le_self _ c.1⟩
   apply XX;rw[g,alu f.1 (by omega)]
   refine bt (bE (by omega)) ⟨aC,by rw[qD (by omega) (by omega)];omega,by simp[gX];omega,aC,?_⟩
   have:=j (i+1) (a++[kG n i]) (by omega) (by simp;omega)
   rw[bp]at this;rw[<-vG]at this;exact this
 apply W37;exact key k 0 b (by omega) (by omega)
def C19(d:Da)(h:Dc d):al 19 [UJ d] [] [vL 1 (gX (pf d))] []:=by
 have w:al 19 [UJ d] [] [.own 0 0 1 (gX (pf d))] []:=by
  apply W19;rw[qD h.nr.1 (by have:=h.nr.2;omega),qD h.aq.1 (by have:=h.aq.2;omega)]
  refine⟨_,C37 [] d.nr 4 ⟨h.nr.1,by have:=h.nr.2;omega⟩ (by decide) (by simp),_,C37 _ d.aq 4 ⟨h.aq.1,by have:=h.aq.2;omega⟩ (by decide) (by simp[dX]),_,C37 _ d.ip 8 h.ip (by decide) (by simp[dX]),?_⟩
  have a:∀(i:Nat)(b:List Int)(x:Int){r:List AV}{c:List Bx},i<6->b.length<=100->0<=x/\x<18446744073709551616->([vW d.nr,vW d.aq,vU d.ip,vU d.a0,vU d.a1,vU d.a2,vU d.a3,vU d.a4,vU d.a5]:List AV)[3+i*1+0]?=some (.v (U x))->I7 (gX (b++iJ x 8 0)) ((i:Int)+1) d.nr d.aq d.ip d.a0 d.a1 d.a2 d.a3 d.a4 d.a5 r c ->
    I7 (gX b) i d.nr d.aq d.ip d.a0 d.a1 d.a2 d.a3 d.a4 d.a5 r c:=by
   intro i b x r c g j f e K;apply XW;exact bt (bE (by omega)) ⟨⟨by omega,by omega⟩,x,e,_,C37 b x 8 f (by decide) (by omega),aC,K⟩
  refine a 0 _ d.a0 (by decide) (by simp[dX]) h.a0 rfl (a 1 _ d.a1 (by decide) (by simp[dX]) h.a1 rfl (a 2 _ d.a2 (by decide) (by simp[dX]) h.a2 rfl (a 3 _ d.a3 (by decide) (by simp[dX]) h.a3 rfl (a 4 _ d.a4 (by decide) (by simp[dX]) h.a4 rfl (a 5 _ d.a5 (by decide) (by simp[dX]) h.a5 rfl ?_)))))
  apply XW;exact aU rfl fi
 exact Go.Ac.al.soft w rfl
section
set_option maxRecDepth 10000
def LB(n:Int):UInt8:=UInt8.ofNat (48+n.toNat)
def pj:Nat->Int->By
 |0,n=>[LB (n%10)]
 |k+1,n=>bif decide (n>9)then pj k (n/10)++[LB (n%10)]else[LB (n%10)]
def pn(n:Int):By:=pj 20 n
def Bv:∀k n,(pj k n).length<=k+1
 |0,n=>by simp[pj]
 |k+1,n=>by
  have:=Bv k (n/10);unfold pj;cases decide (n>9)<;>simp<;>omega
def Pd(a:0<=d)(h:d<10):drop (toNat d) (take (toNat (d+1)) ([48,49,50,51,52,53,54,55,56,57]:By))=[LB d]:=by
 have:d=0\/d=1\/d=2\/d=3\/d=4\/d=5\/d=6\/d=7\/d=8\/d=9:=by omega
 rcases this with rfl|rfl|rfl|rfl|rfl|rfl|rfl|rfl|rfl|rfl<;>rfl
def acY:∀(k:Nat)(n:Int),k<=100->0<=n->n<10^(k+1)->n<18446744073709551616->al 72 [vU n] [] [vS (pj k n)] []
 |k,n,g,a,b,f=>by
  have d:tmod n 10=n%10:=uG a;have c:tdiv n 10=n/10:=yu a;apply W72;rw[d,c,qD (n:=n%10+1) (by omega) (by omega),qD (n:=n/10) (by omega) (by omega),Pd (by omega) (by omega)]
  refine⟨by decide,by decide,⟨by omega,by omega,by show n%10+1<=((10:Nat):Int);omega⟩,?_⟩
  match k with
  |0=>
   have:n<10:=b;exact aU (bV (by omega)) (ai rfl rfl)
  |k+1=>
   have e:n/10<10^(k+1):=by
    rw[Int.pow_succ]at b;omega
   refine ad (fun h=>⟨by decide,_,acY k (n/10) (by omega) (by omega) e (by omega),?_,ai (by rw[pj,h];rfl) rfl⟩) fun h=>ai (by rw[pj,h];rfl) rfl
   have:=Bv k (n/10);simp;omega
def C72(n:Int)(h:0<=n/\n<18446744073709551616):al 72 [vU n] [] [vS (pn n)] []:=acY 20 n (by decide) h.1 (by have:(10:Int)^(20+1)=1000000000000000000000:=rfl;omega) h.2
def Bw(n:Int):(pn n).length<=21:=Bv 20 n
inductive G:Ex->Prop
 |num (m:Int):0<=m/\m<18446744073709551616->G (.mk 7 [] [] m [])
 |name (n:By):G (.mk 5 [] n 0 [])
 |mask (n:By) {x:Ex}:G x->G (.mk 6 [] n 0 [x])
 |bits {x y:Ex}:G x->G y->G (.mk 8 [] [] 0 [x,y])
 |or {x y:Ex}:G x->G y->G (.mk 1 [] [] 0 [x,y])
 |and {x y:Ex}:G x->G y->G (.mk 2 [] [] 0 [x,y])
 |not {x:Ex}:G x->G (.mk 3 [] [] 0 [x])
 |cmp (o:By) {x y:Ex}:G x->G y->G (.mk 4 o [] 0 [x,y])
def cP:Ex->By
 |.mk k o _ _ [x,y]=>bif k==1 then[40]++cP x++[32,124,124,32]++cP y++[41]else bif k==2 then[40]++cP x++[32,38,38,32]++cP y++[41]else
  bif k==4 then cP x++[32]++o++[32]++cP y else cP x++[32,124,32]++cP y
 |.mk k _ n _ [x]=>bif k==3 then[33]++cP x else n++[32,38,32]++cP x
 |.mk k _ n m _=>bif k==7 then pn m else n
def dJ(g:G e):oE e->((cP e).length:Int)<=100*dv e:=by
 induction g with
 |num m h=>intro _;have:=Bw m;show((pn m).length:Int)<=100*(cG []+1);simp only[cG];omega
 |name n=>intro h;have:n.length<=60:=h.2.1;show(n.length:Int)<=100*(cG []+1);simp only[cG];omega
 |mask n _ c=>
  intro h;have:=h.2.1;have:=c h.2.2.1;simp only[cP,dv,cG];simp;omega
 |bits _ _ a b|or _ _ a b|and _ _ a b=>
  intro h;have:=a h.2.2.1;have:=b h.2.2.2.1;simp only[cP,dv,cG];simp;omega
 |not _ c=>
  intro h;have:=c h.2.2.1;simp only[cP,dv,cG];simp;omega
 |cmp o _ _ a b=>
  intro h;have:=h.1;have:=a h.2.2.1;have:=b h.2.2.2.1;simp only[cP,dv,cG];simp;omega
def C44(g:G e):oE e->dv e<=10000->al 44 [oz e] [] [vS (cP e)] []:=by
 induction g with
 |num m h=>
  intro _ _;apply XP;exact aU rfl (aU rfl (aU rfl (aU rfl (aU rfl (aU rfl (bt rfl ⟨_,C72 m h,ai rfl rfl⟩))))))
 |name n=>
  intro _ _;apply XP;exact aU rfl (aU rfl (aU rfl (aU rfl (aU rfl (aU rfl (aU rfl (ai rfl rfl)))))))
 |mask n g q=>
  intro h a;have v:=dJ g h.2.2.1;have:=h.2.1;simp only[dv,cG]at a;have c:=q h.2.2.1 (by omega)
  apply XP;exact aU rfl (aU rfl (aU rfl (aU rfl (bt rfl ⟨by simp[Ex.name];omega,_,_,_,_,_,by omega,eL (i:=0) rfl,_,c,by simp[Ex.name];omega,ai rfl rfl⟩))))
 |@bits x y f j k l=>
  intro h a;have p:=dJ f h.2.2.1;have s:=dJ j h.2.2.2.1;have t:=eM x;have u:=eM y;simp only[dv,cG]at a;have b:=k h.2.2.1 (by omega)
  have d:=l h.2.2.2.1 (by omega)
  apply XP;exact aU rfl (aU rfl (aU rfl (aU rfl (aU rfl (bt rfl ⟨_,_,_,_,_,by omega,eL (i:=0) rfl,_,b,by simp;omega,_,_,_,_,_,by omega,eL (i:=1) rfl,_,d,by simp;omega,ai rfl rfl⟩)))))
 |@or x y f j k l=>
  intro h a;have p:=dJ f h.2.2.1;have s:=dJ j h.2.2.2.1;have t:=eM x;have u:=eM y;simp only[dv,cG]at a;have b:=k h.2.2.1 (by omega)
  have d:=l h.2.2.2.1 (by omega)
  apply XP;exact bt rfl ⟨_,_,_,_,_,by omega,eL (i:=0) rfl,_,b,by simp;omega,by simp;omega,_,_,_,_,_,by omega,eL (i:=1) rfl,_,d,by simp;omega,by simp;omega,ai rfl rfl⟩
 |@and x y f j k l=>
  intro h a;have p:=dJ f h.2.2.1;have s:=dJ j h.2.2.2.1;have t:=eM x;have u:=eM y;simp only[dv,cG]at a;have b:=k h.2.2.1 (by omega)
  have d:=l h.2.2.2.1 (by omega)
  apply XP;exact aU rfl (bt rfl ⟨_,_,_,_,_,by omega,eL (i:=0) rfl,_,b,by simp;omega,by simp;omega,_,_,_,_,_,by omega,eL (i:=1) rfl,_,d,by simp;omega,by simp;omega,ai rfl rfl⟩)
 |@not x g q=>
  intro h a;have p:=dJ g h.2.2.1;simp only[dv,cG]at a;have b:=q h.2.2.1 (by omega)
  apply XP;exact aU rfl (aU rfl (bt rfl ⟨_,_,_,_,_,by omega,eL (i:=0) rfl,_,b,by simp;omega,ai rfl rfl⟩))
 |@cmp o x y f j k l=>
  intro h a;have w:=h.1;have p:=dJ f h.2.2.1;have s:=dJ j h.2.2.2.1;have t:=eM x;have u:=eM y;simp only[dv,cG]at a;have b:=k h.2.2.1 (by omega)
  have d:=l h.2.2.2.1 (by omega)
  apply XP;exact aU rfl (aU rfl (aU rfl (bt rfl ⟨_,_,_,_,_,by omega,eL (i:=0) rfl,_,b,by simp;omega,by simp[Ex.op];omega,by simp[Ex.op];omega,_,_,_,_,_,by omega,eL (i:=1) rfl,_,d,by simp[Ex.op];omega,ai rfl rfl⟩)))
def lY(b:By):List By->By
 |[]=>[]
 |x::t=>x++t.flatMap fun y=>b++y
def Jf(b:By)(n:Nat):∀(l:List By),(∀s∈l,s.length<=n)->(l.flatMap fun y=>b++y).length<=l.length*(b.length+n)
 |[],_=>by simp
 |x::t,h=>by
  have:=h x aX;have c:=Jf b n t fun s a=>h s (aW _ a)
  simp only[fe,dw,aE,bZ,cM];omega
def mN(b:By)(n:Nat)(l:List By)(h:∀s∈l,s.length<=n):(lY b l).length<=l.length*(b.length+n):=by
 cases l with
 |nil=>simp[lY]
 |cons x t=>
  have:=h x aX;have c:=Jf b n t fun s a=>h s (aW _ a)
  simp only[lY,dw,aE,bZ,cM];omega
def C47(b:By)(n:Nat)(l:List By)(h:∀s∈l,s.length<=n)(f:l.length*(b.length+n)<=2^60)(q:l.length<=2^40)(p:b.length+n<=2^60):al 47 [vL 1 (aI l),vS b] [] [vS (lY b l)] []:=by
 have c:(aI l).length=l.length:=ao ..;have key:∀(t:List By)(i:Nat)(s:By),l.drop (i+1)=t->s.length+t.length*(b.length+n)<=2^60+2^60->I2 (aI l) b s ((i:Int)+1) [vS (s++t.flatMap fun y=>b++y)] []:=by
  intro t;induction t with
  |nil=>
   intro i s a _;have:=drop_nil a;apply Nn;rw[c];exact aU (bV (by omega)) (ai (by simp) rfl)
  |cons x t k=>
   intro i s a g;obtain⟨d,e,o⟩:=drop_cons a;have j:=h x (aM d);have m:(aI l)[toNat ((i:Int)+1)]?=some [S x]:=by rw[show toNat ((i:Int)+1)=i+1 by omega];exact aQ (i:=i+1) d
   simp only[aE,bZ,cM]at g;apply Nn;rw[c];refine bt (bE (by omega)) (bt (bE (by omega)) ⟨by omega,x,by omega,m,by simp;omega,aC,?_⟩)
   have:=k (i+1) (s++b++x) e (by simp;omega)
   rw[fe,show s++(b++x++t.flatMap fun y=>b++y)=s++b++x++t.flatMap fun y=>b++y by simp]
   exact this
 apply W47;cases l with
 |nil=>apply Nn;exact aU rfl fi
 |cons x t=>
  have j:=h x aX;simp only[aE,bZ,cM]at f;apply Nn;rw[c];refine bt (bE (by simp only[aE];omega)) (aU rfl ⟨x,by omega,rfl,by simp;omega,aC,?_⟩)
  exact key t 0 x rfl (by omega)
def po(l:List By):By:=bif(l.length:Int)==0 then[123,32,125]else[123,32]++lY [44,32] l++[32,125]
def s6(n:Nat)(l:List By)(h:∀s∈l,s.length<=n):(po l).length<=l.length*(2+n)+4:=by
 have:=mN [44,32] n l h;unfold po;cases(l.length:Int)==0
 .simp at this⊢; omega
 .simp
def C46(n:Nat)(l:List By)(h:∀s∈l,s.length<=n)(c:l.length<=2^20)(f:n<=2^30):al 46 [vL 1 (aI l)] [] [vS (po l)] []:=by
 have d:(aI l).length=l.length:=ao ..;have e:l.length*(2+n)<=2^20*(2+2^30):=ir c (by omega)
 have b:=mN [44,32] n l h;have b:(lY [44,32] l).length<=l.length*(2+n):=b;apply W46;rw[d];exact ad (fun a=>ai (by rw[po,a];rfl) rfl) fun a=>⟨_,C47 [44,32] n l h (by show l.length*(2+n)<=_;omega) (by omega) (by simp;omega),by simp;omega,by simp;omega,ai (by rw[po,a];rfl) rfl⟩
def fr:List By:=[[],[75,73,76,76,95,80,82,79,67,69,83,83],[75,73,76,76],[84,82,65,80],[69,82,82,78,79],[84,82,65,67,69],[76,79,71],[65,76,76,79,87]]
def nI(a:Act):By:=bif(bif decide (a.kind>=3)then decide (a.kind<=5)else false)then fr.getD a.kind.toNat []++[40]++pn a.data++[41]else fr.getD a.kind.toNat []
def Gm(h:(cd a).2=true):1<=a.kind/\a.kind<=7/\0<=a.data/\a.data<=65535/\((bif decide (a.kind>=3)then decide (a.kind<=5)else false)=false->a.data=0):=by
 obtain⟨k,d⟩:=a;unfold cd at h;cases hb:(bif(bif !(fP k).2 then true else decide (d<0))then true else decide (d>(bif(bif(bif(k==3)then true else(k==4))then true else(k==5))then 65535 else 0)))with
 |true=>simp only[hb]at h;simp at h
 |false=>
  have i:(fP k).2=true/\0<=d/\d<=(bif(bif(bif(k==3)then true else(k==4))then true else(k==5))then 65535 else 0):=by
   cases hp:(fP k).2<;>rw[hp]at hb
   .simp at hb
   .cases hd:decide (d<0)<;>rw[hd]at hb
    .have:=bI hd
     have:=bI hb;exact⟨rfl,by omega,by omega⟩
    .simp at hb
  obtain⟨f,j,c⟩:=i;have g:1<=k/\k<=7:=by
   unfold fP at f;cases q1:k==1<;>cases q2:k==2<;>cases q3:k==3<;>cases q4:k==4<;>cases q5:k==5<;>cases q6:k==6<;>cases q7:k==7<;>simp only[q1,q2,q3,q4,q5,q6,q7,aj,af]at f<;>simp only[beq_iff_eq,fY]at* <;> first|omega|simp at f
  refine⟨g.1,g.2,j,?_,?_⟩
  .cases e:(bif(bif(k==3)then true else(k==4))then true else(k==5))<;>rw[e]at c<;>simp only[aj,af]at c<;>show d<=65535<;>omega
  .intro e
   have:(bif(bif(k==3)then true else(k==4))then true else(k==5))=false:=by
    have l:¬(3<=k/\k<=5):=by
     rintro⟨a,b⟩;rw[show(bif decide ((Act.mk k d).kind>=3)then decide ((Act.mk k d).kind<=5)else false)=true by show(bif decide (k>=3)then decide (k<=5)else false)=true;rw[bE a,bE b];rfl]at e
     simp at e
    cases q3:k==3<;>cases q4:k==4<;>cases q5:k==5<;>simp only[beq_iff_eq,fY]at* <;> first|rfl|omega
   rw[this]at c;show d=0
   simp only[af]at c;omega
def Jg(i:Nat):(fr.getD i []).length<=12:=by
 rw[bW];match i with
 |0|1|2|3|4|5|6|7=>decide
 |n+8=>simp[fr]
def qp(a:Act):(nI a).length<=40:=by
 have:=Jg a.kind.toNat;have:=Bw a.data;unfold nI;generalize fr.getD a.kind.toNat []=z at*;cases(bif decide (a.kind>=3)then decide (a.kind<=5)else false)<;>simp<;>omega
def C48(a:Act)(h:(cd a).2=true):al 48 [zW a] [] [vS (nI a)] []:=by
 obtain⟨l,m,c,i,-⟩:=Gm h;have g:(aI fr)[toNat a.kind]?=some [S (fr.getD a.kind.toNat [])]:=by
  have d:a.kind.toNat<fr.length:=by show a.kind.toNat<8;omega
  rw[aI,bw,bo d,bW,bo d];rfl
 have k:=Jg a.kind.toNat;have j:=Bw a.data;apply W48;have e:(bif decide (a.kind>=3)then decide (a.kind<=5)else false)=true->nI a=fr.getD a.kind.toNat []++[40]++pn a.data++[41]:=fun b=>by rw[nI,b];rfl
 have f:(bif decide (a.kind>=3)then decide (a.kind<=5)else false)=false->nI a=fr.getD a.kind.toNat []:=fun b=>by rw[nI,b];rfl
 generalize fr.getD a.kind.toNat []=z at*;refine⟨_,by omega,g,ad (fun b=>?_) fun b=>ai (by rw[f b]) rfl⟩
 rw[qD c (by omega)]
 exact⟨by simp;omega,_,C72 a.data ⟨c,by omega⟩,by simp;omega,by simp;omega,ai (by rw[e b]) rfl⟩
structure PrR (r:gu):Prop where
 call:r.call.length<=60
 pl:r.params.length<=10
 params:∀s∈r.params,s.length<=60
 cond:∀e∈r.cond,G e/\oE e/\dv e<=300
def nJ(r:gu):By:=bif decide ((r.params.length:Int)>0)then r.call++[40]++lY [44,32] r.params++[41]else r.call
def iM(r:gu):By:=match r.cond with
 |[]=>nJ r
 |e::_=>nJ r++[32,123,32]++cP e++[32,125]
def Dy(h:PrR r):(nJ r).length<=1000:=by
 have c:=h.call;have b:=h.pl;have a:=mN [44,32] 60 r.params h.params;have d:r.params.length*(2+60)<=10*62:=ir b (ar _);have a:(lY [44,32] r.params).length<=r.params.length*(2+60):=a;unfold nJ;cases decide ((r.params.length:Int)>0)<;>simp<;>omega
def uf(h:PrR r):(iM r).length<=32000:=by
 have c:=Dy h;unfold iM;split
 .omega
 .rename_i e t a
  obtain⟨g,b,d⟩:=h.cond e (by rw[a];simp)
  have:=dJ g b;simp;omega
structure PrP (p:cK):Prop where
 use:p.use.length<=60
 rl:p.bj.length<=12
 bj:∀r∈p.bj,PrR r
 act:p.use=[]->(cd p.act).2=true
def gg(p:cK):By:=bif !(p.use==[])then[85,83,69,32]++p.use else nI p.act++[32]++po (p.bj.map iM)
def si(h:PrP p):(gg p).length<=400000:=by
 have e:=h.use;have a:=h.rl;have f:=qp p.act;have b:=s6 32000 (p.bj.map iM) fun s d=>by
  obtain⟨r,c,rfl⟩:=bh.1 d;exact uf (h.bj r c)
 rw[ao]at b;have g:p.bj.length*(2+32000)<=12*32002:=ir a (ar _);unfold gg;cases !(p.use==[])<;>simp<;>omega
def C45(p:cK)(h:PrP p):al 45 [OM p] [] [vS (gg p)] []:=by
 have v:(p.bj.map gu.row).length=p.bj.length:=ao ..;have A:=h.use;have a1:=h.rl;have n:∀(a:List By)(s:By),aI a++([[S s]]:Rw)=aI (a++[s]):=fun a s=>by simp[aI,Hp]
 have w:∀a:List By,(aI a).length=a.length:=fun a=>ao ..
 have key:∀(t:List gu)(i:Nat)(a:List By),p.use=[]->p.bj.drop i=t->a=(p.bj.take i).map iM->I1 (aI a) i p.use p.act.kind p.act.data (p.bj.map gu.row) [vS (gg p)] []:=by
  intro t;induction t with
  |nil=>
   intro i a m k c;have D:=drop_nil k;have c:a=p.bj.map iM:=by rw[c,dH D]
   have X:=qp p.act;have Y:=s6 32000 a fun s d=>by
    rw[c]at d;obtain⟨r,b,rfl⟩:=bh.1 d;exact uf (h.bj r b)
   have G:a.length=p.bj.length:=by rw[c,ao]
   have T:a.length*(2+32000)<=12*32002:=ir (by omega) (ar _)
   apply XQ;rw[v];refine aP (l:=p.bj) rfl k ⟨_,C48 p.act (h.act m),by simp;omega,_,C46 32000 a (fun s d=>?_) (by omega) (by decide),by simp;omega,ai ?_ rfl⟩
   .rw[c]at d
    obtain⟨r,b,rfl⟩:=bh.1 d;exact uf (h.bj r b)
   .rw[gg,m,<-c];rfl
  |cons r t E=>
   intro i a m k c;obtain⟨o,y,M⟩:=drop_cons k;have b:=h.bj r (aM o);have Z:=Dy b;have H:=b.pl;have G:a.length<=12:=by rw[c,ao,oK];omega
   have J:(aI r.params).length=r.params.length:=ao ..;have I:(r.cond.map Ex.row).length=r.cond.length:=ao ..;have K:=E (i+1) (a++[iM r]) m y (by rw[c,eO,o];simp)
   have j:Gj (aI a) i (nJ r) p.use p.act.kind p.act.data (p.bj.map gu.row) r.call (aI r.params) (r.cond.map Ex.row) [vS (gg p)] []:=by
    apply ZW;rw[I];cases f:r.cond with
    |nil=>
     have e:iM r=nJ r:=by rw[iM,f]
     rw[e]at K;refine aU rfl ⟨?_,aC,?_⟩
     .rw[n,w];simp;omega
     .rw[n];exact K
    |cons e z=>
     obtain⟨g,d,F⟩:=b.cond e (by rw[f];simp)
     have a0:=dJ g d;have x:iM r=nJ r++[32,123,32]++cP e++[32,125]:=by rw[iM,f]
     rw[x]at K;refine bt (bE (by simp)) ⟨by simp;omega,_,_,_,_,_,by omega,by rw[bH,Ex.cp];rfl,_,C44 g d (by omega),by simp;omega,by simp;omega,?_,aC,?_⟩
     .rw[n,w];simp;omega
     .rw[n];exact K
   have u:=mN [44,32] 60 r.params b.params;have u:(lY [44,32] r.params).length<=r.params.length*(2+60):=u;have Q:r.params.length*(2+60)<=10*62:=ir H (ar _);have R:=b.call;apply XQ;rw[v];refine aK (l:=p.bj) rfl k ⟨_,_,_,by omega,aQ o,?_⟩
   simp only[J];refine ad (fun q=>⟨by simp;omega,_,C47 [44,32] 60 r.params b.params (by show r.params.length*(2+60)<=_;omega) (by omega) (by decide),by simp;omega,by simp;omega,?_⟩) fun q=>?_
   .rw[show nJ r=r.call++[40]++lY [44,32] r.params++[41] by rw[nJ,q];rfl]at j
    exact j
   .rw[show nJ r=r.call by rw[nJ,q];rfl]at j
    exact j
 apply W45;refine ad (fun f=>⟨by simp;omega,ai (by rw[gg,f];rfl) rfl⟩) fun f=>?_
 exact key p.bj 0 [] (by simpa using f) rfl rfl
structure PrU (u:fH):Prop where
 dl:u.aF.length<=12
 aF:∀d∈u.aF,d.name.length<=60/\G d.ex/\oE d.ex/\dv d.ex<=300
 pl:u.aA.length<=8
 aA:∀p∈u.aA,p.name.length<=60/\p.aT.length<=12/\∀x∈p.aT,PrP x
 ml:u.main.length<=8
 main:∀s∈u.main,s.length<=60
 act:(cd u.bO).2=true
def mg(d:cT):By:=[35,100,101,102,105,110,101,32]++d.name++[32]++cP d.ex++[10]
def kI(p:cL):By:=[80,79,76,73,67,89,32]++p.name++[32]++po (p.aT.map gg)++[10]
def lr(u:fH):By:=[85,83,69,32]++lY [44,32] u.main++[32,68,69,70,65,85,76,84,32]++nI u.bO++[10]
def ft(u:fH):By:=u.aF.flatMap mg++u.aA.flatMap kI++lr u
def C23(u:fH)(h:PrU u)(q:oe u)(X:ji u=true):al 23 [qg u] [] [vS (ft u)] []:=by
 have ld:(u.aF.map cT.row).length=u.aF.length:=ao ..;have I:(u.aA.map cL.row).length=u.aA.length:=ao ..;have a4:=h.dl;have a7:=h.pl;have A:=h.ml;have a8:∀d∈u.aF,(mg d).length<=40000:=fun d z=>by
  obtain⟨m,g,n,w⟩:=h.aF d z;have:=dJ g n;simp[mg];omega
 have a3:∀p∈u.aA,(po (p.aT.map gg)).length<=5000000:=fun p T=>by
  obtain⟨m,n,w⟩:=h.aA p T;have H:=s6 400000 (p.aT.map gg) fun s q=>by
   obtain⟨x,r,rfl⟩:=bh.1 q;exact si (w x r)
  rw[ao]at H;have h5:p.aT.length*(2+400000)<=12*400002:=ir n (ar _);omega
 have a2:∀a:List By,(aI a).length=a.length:=fun a=>ao ..
 have Q:∀(a:List By)(s:By),aI a++([[S s]]:Rw)=aI (a++[s]):=fun a s=>by simp[aI,Hp]
 have F:∀(t:List cL)(i:Nat)(s:By),u.aA.drop i=t->s.length+10000000*t.length<=2^41->Nb s i (u.aF.map cT.row) (u.aA.map cL.row) (aI u.main) u.bO.kind u.bO.data [vS (s++(t.flatMap kI++lr u))] []:=by
  intro t;induction t with
  |nil=>
   intro i s b k;have:=drop_nil b;have a6:s.length<=2^41:=k;have f:=mN [44,32] 60 u.main h.main;have f:(lY [44,32] u.main).length<=u.main.length*(2+60):=f;have H:u.main.length*(2+60)<=8*62:=ir A (ar _);have ha:=qp u.bO;apply XF;rw[I];exact aP (l:=u.aA) rfl b ⟨by simp;omega,_,C47 [44,32] 60 u.main h.main (by show u.main.length*(2+60)<=_;omega) (by omega) (by decide),by simp;omega,by simp;omega,_,C48 u.bO h.act,by simp;omega,by simp;omega,ai (by simp[lr]) rfl⟩
  |cons p t D=>
   intro i s b k;obtain⟨m,n,w⟩:=drop_cons b;have y:=aM m;obtain⟨p1,p2,J⟩:=h.aA p y;simp only[aE]at k;have a1:=a3 p y;have o:(u.aA.map cL.row)[toNat (i:Int)]?=some [S p.name,L 4 (p.aT.map cK.row)]:=aQ m;have M:(p.aT.map cK.row).length=p.aT.length:=ao ..;have inner:∀(v:List cK)(j:Nat)(a:List By),p.aT.drop j=v->a=(p.aT.take j).map gg->Nc s i (aI a) j (u.aF.map cT.row) (u.aA.map cL.row) (aI u.main) u.bO.kind u.bO.data [vS (s++((p::t).flatMap kI++lr u))] []:=by
    intro v;induction v with
    |nil=>
     intro j a f c;have z:=drop_nil f;have c:a=p.aT.map gg:=by rw[c,dH z]
     have R:a.length=p.aT.length:=by rw[c,ao]
     apply XG;refine⟨_,_,by omega,o,?_⟩
     simp only[M];rw[<-c]at a1;refine aP (l:=p.aT) rfl f ⟨by simp;omega,_,_,by omega,o,by simp;omega,by simp;omega,_,C46 400000 a (fun s q=>?_) (by omega) (by decide),by simp;omega,by simp;omega,aC,?_⟩
     .rw[c]at q
      obtain⟨x,r,rfl⟩:=bh.1 q;exact si (J x r)
     .have K:=D (i+1) (s++[80,79,76,73,67,89,32]++p.name++[32]++po a++[10]) n (by simp;omega)
      have e:s++[80,79,76,73,67,89,32]++p.name++[32]++po a++[10]++(t.flatMap kI++lr u)=s++((p::t).flatMap kI++lr u):=by simp[kI,c]
      rw[e]at K;exact K
    |cons x v a0=>
     intro j a f c;obtain⟨E,Y,j3⟩:=drop_cons f;have R:a.length<=12:=by rw[c,ao,oK];omega
     apply XG;refine⟨_,_,by omega,o,?_⟩
     simp only[M];refine aK (l:=p.aT) rfl f ⟨_,_,by omega,o,_,_,_,_,by omega,aQ E,_,C45 x (J x (aM E)),?_,aC,?_⟩
     .rw[Q,a2];simp;omega
     .rw[Q]
      exact a0 (j+1) _ Y (by rw[c,eO,E];simp)
   apply XF;rw[I];exact aK (l:=u.aA) rfl b (inner p.aT 0 [] rfl rfl)
 have Z:∀(t:List cT)(i:Nat)(s:By),u.aF.drop i=t->s.length+40000*t.length<=2^40->Na s i (u.aF.map cT.row) (u.aA.map cL.row) (aI u.main) u.bO.kind u.bO.data [vS (s++(t.flatMap mg++(u.aA.flatMap kI++lr u)))] []:=by
  intro t;induction t with
  |nil=>
   intro i s b k;have k:s.length<=2^40:=k;apply XE;rw[ld];exact aP (l:=u.aF) rfl b (F u.aA 0 s rfl (by omega))
  |cons d t D=>
   intro i s b k;obtain⟨m,n,w⟩:=drop_cons b;have y:=aM m;obtain⟨d1,g,G,d3⟩:=h.aF d y;simp only[aE]at k;have a5:=dJ g G;have o:(u.aF.map cT.row)[toNat (i:Int)]?=some [S d.name,N d.ex.kind,S d.ex.op,S d.ex.name,U d.ex.num,L 5 (br d.ex.kids)]:=(aQ m).trans (by rw[cT.row,Ex.cp])
   have K:=D (i+1) (s++[35,100,101,102,105,110,101,32]++d.name++[32]++cP d.ex++[10]) n (by simp;omega)
   have e:s++[35,100,101,102,105,110,101,32]++d.name++[32]++cP d.ex++[10]++(t.flatMap mg++(u.aA.flatMap kI++lr u))=s++((d::t).flatMap mg++(u.aA.flatMap kI++lr u)):=by simp[mg]
   rw[e]at K;apply XE;rw[ld];exact aK (l:=u.aF) rfl b ⟨by simp;omega,_,_,_,_,_,_,by omega,o,by simp;omega,by simp;omega,_,_,_,_,_,_,by omega,o,_,C44 g G (by omega),by simp;omega,by simp;omega,aC,K⟩
 apply W23;refine⟨_,C22 u q,aU (by rw[X];rfl) ?_⟩
 have:=Z u.aF 0 [] rfl (by simp;omega)
 rw[show ft u=[]++(u.aF.flatMap mg++(u.aA.flatMap kI++lr u)) by simp[ft]]
 exact this
end
section
set_option maxRecDepth 10000
inductive Prim:Ex->Prop
 |num (m:Int):0<=m/\m<18446744073709551616->Prim (.mk 7 [] [] m [])
 |name (n:By):bL n=true->Prim (.mk 5 [] n 0 [])
inductive Jh:Ex->Prop
 |V4 {e:Ex}:Prim e->Jh e
 |bits {x y:Ex}:Jh x->Prim y->Jh (.mk 8 [] [] 0 [x,y])
inductive Gn:Ex->Prop
 |name (n:By):bL n=true->Gn (.mk 5 [] n 0 [])
 |mask (n:By) {x:Ex}:bL n=true->Prim x->Gn (.mk 6 [] n 0 [x])
inductive B5:Ex->Prop
 |or {x y:Ex}:B5 x->B5 y->B5 (.mk 1 [] [] 0 [x,y])
 |and {x y:Ex}:B5 x->B5 y->B5 (.mk 2 [] [] 0 [x,y])
 |not {x:Ex}:B5 x->B5 (.mk 3 [] [] 0 [x])
 |cmp (o:By) {x y:Ex}:o∈ops->Gn x->Jh y->B5 (.mk 4 o [] 0 [x,y])
def Prim.g(h:Prim e):G e:=by cases h with|num m h=>exact .num m h|name n h=>exact .name n
def Jh.g(h:Jh e):G e:=by induction h with|V4 h=>exact h.g|bits _ h2 ih=>exact .bits ih h2.g
def Gn.g(h:Gn e):G e:=by cases h with|name n h=>exact .name n|mask n _ h=>exact .mask n h.g
def B5.g(h:B5 e):G e:=by
 induction h with
 |or _ _ a b=>exact .or a b
 |and _ _ a b=>exact .and a b
 |not _ h=>exact .not h
 |cmp o _ a b=>exact .cmp o a.g b.g
abbrev KT:=Int×By
abbrev sg(x:By):KT:=(3,x)
abbrev wd(x:By):KT:=(1,x)
abbrev nu(m:Int):KT:=(2,pn m)
def nK:Cx->List KT->List Tok
 |_,[]=>[]
 |c,(k,x)::t=>⟨k,x,0,c⟩::nK none t
def kJ:∀(c:Cx)(T:List KT),(nK c T).length=T.length
 |_,[]=>rfl
 |c,(k,x)::t=>by rw[nK,aE,kJ none t,aE]
def cC:Ex->List KT
 |.mk k o _ _ [x,y]=>bif k==1 then sg [40]::(cC x++sg [124,124]::(cC y++[sg [41]]))else bif k==2 then sg [40]::(cC x++sg [38,38]::(cC y++[sg [41]]))else
  bif k==4 then cC x++sg o::cC y else cC x++sg [124]::cC y
 |.mk k _ n _ [x]=>bif k==3 then sg [33]::cC x else wd n::sg [38]::cC x
 |.mk k _ n m _=>bif k==7 then[nu m]else[wd n]
section
variable {A:Pa} {f:Int} {c:Cx}
def Q(f:Int)(c:Cx)(sp:Cx)(T:List KT):Ps:=⟨nK sp T,0,f,c⟩
def ju(T:List KT)(k:Int)(t:By):Bool:=match T with|[]=>false|(k',x)::_=>bif k'==k then x==t else false
def dN(sp:Cx)(T:List KT)(k:Int)(t:By):iZ (Q f c sp T) k t=ju T k t:=by
 cases T with
 |nil=>rfl
 |cons x T=>rfl
def eG(h:ju T k t=false):aL (Q f c sp T) k t=Q f c sp T:=by
 unfold aL;rw[dN,h];rfl
def eD:aL (Q f c sp ((k,t)::T)) k t=Q f c none T:=by
 unfold aL;rw[dN,show ju ((k,t)::T) k t=true by simp[ju]];rfl
def jv:eF A (Q f c sp ((k,t)::T)) k t=Q f c none T:=by
 unfold eF;rw[dN,show ju ((k,t)::T) k t=true by simp[ju],eD];rfl
def Dz(h:bL n=true):fN (Q f c sp (wd n::T))=true:=h
def kK(h:bL n=true):bB A (Q f c sp (wd n::T))=(n,Q f c none T):=by
 unfold bB;rw[Dz h];rfl
def DA(b:oZ (pn m)=(m,true))(h:m<=a):fO A (Q f c sp (nu m::T)) a=(m,Q f c none T):=by
 show(bif(2:Int)==2 then(bif(bif(oZ (pn m)).2 then decide ((oZ (pn m)).1<=a)else false)then((oZ (pn m)).1,{Q f c sp (nu m::T)with l:=(Q f c sp (nu m::T)).l.tail})else(0,gm A (Q f c sp (nu m::T)) 3))else(0,gm A (Q f c sp (nu m::T)) 3))=_
 rw[b];simp only[bE h];rfl
def V5(a:0<=d)(h:d<10):eK (LB d).toNat=d:=by
 have:d=0\/d=1\/d=2\/d=3\/d=4\/d=5\/d=6\/d=7\/d=8\/d=9:=by omega
 rcases this with rfl|rfl|rfl|rfl|rfl|rfl|rfl|rfl|rfl|rfl<;>rfl
def ND(a:0<=d)(h:d<10):gD (LB d).toNat=true:=by
 have:d=0\/d=1\/d=2\/d=3\/d=4\/d=5\/d=6\/d=7\/d=8\/d=9:=by omega
 rcases this with rfl|rfl|rfl|rfl|rfl|rfl|rfl|rfl|rfl|rfl<;>rfl
def DB(b:Int):∀(s t:By)(n m:Int),oY b s n=some m->oY b (s++t) n=oY b t m
 |[],t,n,m,h=>by simp[oY]at h;subst h;rfl
 |x::s,t,n,m,h=>by
  unfold oY at h;rw[dm,oY];cases hb:(bif decide (eK x.toNat>=b)then true else decide (n*b+eK x.toNat>=18446744073709551616))<;>rw[hb]at h
  .exact DB b s t _ m h
  .simp at h
def xk(a:0<=d)(h:d<10)(b:0<=n)(e:n*10+d<18446744073709551616):oY 10 [LB d] n=some (n*10+d):=by
 unfold oY;rw[V5 a h,bV (by omega),af,bV (by omega)]
 rfl
def DC:∀(k:Nat)(n:Int),0<=n->n<10^(k+1)->n<18446744073709551616->oY 10 (pj k n) 0=some n
 |0,n,b,a,e=>by
  have a:n<10:=a;have:=xk (d:=n%10) (n:=0) (by omega) (by omega) (by omega) (by omega)
  rw[pj,this];congr 1;omega
 |k+1,n,b,a,e=>by
  have g:n/10<10^(k+1):=by
   rw[Int.pow_succ]at a;omega
  unfold pj;cases hd:decide (n>9)
  .have:=bI hd
   have:=xk (d:=n%10) (n:=0) (by omega) (by omega) (by omega) (by omega)
   rw[af,this];congr 1;omega
  .rw[aj,DB 10 _ _ 0 (n/10) (DC k (n/10) (by omega) g (by omega)),xk (by omega) (by omega) (by omega) (by omega)]
   congr 1;omega
def xl:∀(k:Nat)(n:Int),(pj k n).all fun x=>gD x.toNat
 |0,n=>by
  have:=ND (d:=n%10) (by omega) (by omega)
  simp[pj,this]
 |k+1,n=>by
  have a:=ND (d:=n%10) (by omega) (by omega)
  have b:=xl k (n/10);unfold pj;cases decide (n>9)
  .simp[a]
  .simp only[aj,List.all_append,b,bG,mQ,a];rfl
def NF(k:Nat)(n:Int):pj k n≠[]:=by
 cases k with
 |zero=>simp[pj]
 |succ k=>unfold pj;cases decide (n>9)<;>simp
def Gp(h:0<=m/\m<18446744073709551616):oZ (pn m)=(m,true):=by
 have g:=DC 20 m h.1 (by have:(10:Int)^(20+1)=1000000000000000000000:=rfl;omega) h.2
 have i:List.isPrefixOf [48,120] (pn m)=false:=by
  have d:=xl 20 m;unfold pn;match hq:pj 20 m with
  |[]=>rfl
  |[a]=>simp[List.isPrefixOf]
  |a::b::t=>
   rw[hq]at d;simp only[bG,cb]at d;have e:=d.2.1;cases hab:List.isPrefixOf [48,120] (a::b::t)with
   |false=>rfl
   |true=>
    simp[List.isPrefixOf]at hab;rw[<-hab.2]at e;exact absurd e (by decide)
 have j:(pn m==[])=false:=by
  have:=NF 20 m;unfold pn;cases hq:pj 20 m with
  |nil=>exact(this hq).elim
  |cons=>rfl
 unfold oZ;simp only[i,af];unfold pn at*;rw[g];simp only[j];rfl
def LC(h:Prim e)(R:List KT):gS A (Q f c sp (cC e++R))=(e,Q f c none R):=by
 cases h with
 |name n a=>
  show gS A (Q f c sp (wd n::R))=_
  unfold gS;rw[Dz a,kK a];rfl
 |num m b=>
  show gS A (Q f c sp (nu m::R))=_
  unfold gS;rw[show fN (Q f c sp (nu m::R))=false from rfl,DA (Gp b) (by omega)];rfl
def Pe(h:Jh e):∃(p:Ex)(ps:List Ex),Prim p/\(∀x∈ps,Prim x)/\e=ps.foldl (fun a b=>.mk 8 [] [] 0 [a,b]) p/\cC e=cC p++ps.flatMap fun x=>sg [124]::cC x:=by
 induction h with
 |V4 h=>exact⟨_,[],h,by simp,rfl,by simp⟩
 |@bits x y _ l m=>
  obtain⟨p,ps,g,i,j,k⟩:=m;refine⟨p,ps++[y],g,fun z d=>?_,by rw[List.foldl_append,<-j];rfl,?_⟩
  .rcases bn.1 d with d|d
   .exact i z d
   .simp at d;subst d;exact l
  .show cC x++sg [124]::cC y=_
   rw[k];simp
def DD(d:ju R 3 [124]=false):∀(ps:List Ex)(n:Nat)(e:Ex),(∀x∈ps,Prim x)->ps.length<n ->
  eR [124] 8 (gS A) n e (Q f c none ((ps.flatMap fun x=>sg [124]::cC x)++R))=(ps.foldl (fun a b=>.mk 8 [] [] 0 [a,b]) e,Q f c none R)
 |[],n+1,e,_,_=>by
  show eR [124] 8 (gS A) (n+1) e (Q f c none R)=_
  rw[eR,dN,d,eG d];rfl
 |x::ps,n+1,e,g,i=>by
  have k:=g x aX;rw[fe];simp only[dm,bp];rw[eR,dN,show ju (sg [124]::(cC x++((ps.flatMap fun x=>sg [124]::cC x)++R))) 3 [124]=true from rfl,eD,LC k,aj]
  exact DD d ps n _ (fun y j=>g y (aW _ j)) (by simpa using i)
 |[],0,_,_,h=>absurd h (jl _)
 |_::_,0,_,_,h=>absurd h (jl _)
def V6(ps:List Ex):ps.length<=(ps.flatMap fun x=>sg [124]::cC x).length:=by
 induction ps with
 |nil=>simp
 |cons x ps a=>simp only[fe,dw,aE];omega
def DE(h:Jh e)(g:ju R 3 [124]=false):jB A (Q f c sp (cC e++R))=(e,Q f c none R):=by
 obtain⟨p,ps,a,b,rfl,d⟩:=Pe h;rw[d,bp];unfold jB;rw[LC a];refine DD g ps _ p b ?_;show ps.length<(nK sp _).length+1
 rw[kJ];have:=V6 ps;simp only[dw];omega
def ac1(h:o∈ops)(R:List KT):Vt A (Q f c sp (sg o::R))=(o,Q f c none R):=by
 have a:∀(l:List By),o∈l->zY A l (Q f c sp (sg o::R))=(o,Q f c none R):=by
  intro l;induction l with
  |nil=>intro h;simp at h
  |cons x l b=>
   intro h;rw[zY,dN];cases hx:ju (sg o::R) 3 x
   .rw[af,eG hx]
    rcases aZ.1 h with rfl|h
    .simp[ju]at hx
    .exact b h
   .have:o=x:=by simpa[ju]using hx
    subst this;rw[aj,eD]
 exact a ops h
def Ua(h:o∈ops)(b:Jh y)(a:ju R 3 [124]=false):zZ A x (Q f c sp (sg o::(cC y++R)))=(.mk 4 o [] 0 [x,y],Q f c none R):=by
 unfold zZ;rw[ac1 h];simp only[DE b a]
def V7(b:o∈ops)(k:Gn x)(g:Jh y)(d:ju R 3 [124]=false):oa A (Q f c sp (cC x++sg o::(cC y++R)))=(.mk 4 o [] 0 [x,y],Q f c none R):=by
 have i:ju (sg o::(cC y++R)) 3 [38]=false:=by
  have:o≠[38]:=by
   intro e;subst e;exact absurd b (by decide)
  show(bif(3:Int)==3 then o==[38]else false)=false
  simpa using this
 cases k with
 |name n a=>
  show oa A (Q f c sp (wd n::sg o::(cC y++R)))=_
  unfold oa;rw[kK a];simp only[dN,i,af,eG i];exact Ua b g d
 |@mask n p a j=>
  show oa A (Q f c sp (wd n::sg [38]::(cC p++sg o::(cC y++R))))=_
  unfold oa;rw[kK a];simp only[dN,show ju (sg [38]::(cC p++sg o::(cC y++R))) 3 [38]=true from rfl,aj,eD,LC j]
  exact Ua b g d
def Bz(h:pl s=(e,Q f c none R))(a:ju R 3 [38,38]=false):ob pl s=(e,Q f c none R):=by
 unfold ob;rw[h,eR,dN,a,eG a];rfl
def Ji(h:ob pl s=(e,Q f c none R))(a:ju R 3 [124,124]=false):rM pl s=(e,Q f c none R):=by
 unfold rM;rw[h,eR,dN,a,eG a];rfl
def Ub(h:pl s=(x,Q f c none (sg [38,38]::T)))(b:pl (Q f c none T)=(y,Q f c none R))(a:ju R 3 [38,38]=false)(e:1<=s.l.length):ob pl s=(.mk 2 [] [] 0 [x,y],Q f c none R):=by
 unfold ob;obtain⟨k,d⟩:∃k,s.l.length+1=k+1+1:=⟨s.l.length-1,by omega⟩
 rw[h,d,eR,dN,show ju (sg [38,38]::T) 3 [38,38]=true from rfl,eD,b,aj,eR,dN,a,eG a];rfl
def Uc(h:ob pl s=(x,Q f c none (sg [124,124]::T)))(b:ob pl (Q f c none T)=(y,Q f c none R))(a:ju R 3 [124,124]=false)(e:1<=s.l.length):rM pl s=(.mk 1 [] [] 0 [x,y],Q f c none R):=by
 unfold rM;obtain⟨k,d⟩:∃k,s.l.length+1=k+1+1:=⟨s.l.length-1,by omega⟩
 rw[h,d,eR,dN,show ju (sg [124,124]::T) 3 [124,124]=true from rfl,eD,b,aj,eR,dN,a,eG a];rfl
def Ud(h:B5 e):∀(n:Nat)(sp:Cx)(R:List KT),(cC e).length<n->ju R 3 [124]=false->eV A n (Q f c sp (cC e++R))=(e,Q f c none R):=by
 induction h with
 |@or x y g j q s=>
  intro n sp R a d;have b:cC (.mk 1 [] [] 0 [x,y])=sg [40]::(cC x++sg [124,124]::(cC y++[sg [41]])):=rfl;rw[b]at a⊢;simp only[aE,dw]at a;obtain⟨k,rfl⟩:∃k,n=k+1:=⟨n-1,by omega⟩
  simp only[dm,bp,dT];rw[eV,jh,dN];rw[show ju (sg [40]::(cC x++sg [124,124]::(cC y++sg [41]::R))) 3 [33]=false from rfl,af,eG (show ju (sg [40]::(cC x++sg [124,124]::(cC y++sg [41]::R))) 3 [33]=false from rfl),dN]
  rw[show ju (sg [40]::(cC x++sg [124,124]::(cC y++sg [41]::R))) 3 [40]=true from rfl,aj,eD]
  have l:=Bz (q k none (sg [124,124]::(cC y++sg [41]::R)) (by omega) rfl) rfl
  have p:=Bz (s k none (sg [41]::R) (by omega) rfl) rfl
  rw[Uc l p rfl (by show 1<=(nK none _).length;rw[kJ];simp;omega),jv]
 |@and x y g j q s=>
  intro n sp R a d;have b:cC (.mk 2 [] [] 0 [x,y])=sg [40]::(cC x++sg [38,38]::(cC y++[sg [41]])):=rfl;rw[b]at a⊢;simp only[aE,dw]at a;obtain⟨k,rfl⟩:∃k,n=k+1:=⟨n-1,by omega⟩
  simp only[dm,bp,dT];rw[eV,jh,dN];rw[show ju (sg [40]::(cC x++sg [38,38]::(cC y++sg [41]::R))) 3 [33]=false from rfl,af,eG (show ju (sg [40]::(cC x++sg [38,38]::(cC y++sg [41]::R))) 3 [33]=false from rfl),dN]
  rw[show ju (sg [40]::(cC x++sg [38,38]::(cC y++sg [41]::R))) 3 [40]=true from rfl,aj,eD]
  have l:=q k none (sg [38,38]::(cC y++sg [41]::R)) (by omega) rfl
  have p:=s k none (sg [41]::R) (by omega) rfl
  rw[Ji (Ub l p rfl (by show 1<=(nK none _).length;rw[kJ];simp;omega)) rfl,jv]
 |@not x g v=>
  intro n sp R a d;have b:cC (.mk 3 [] [] 0 [x])=sg [33]::cC x:=rfl;rw[b]at a⊢;simp only[aE]at a;obtain⟨k,rfl⟩:∃k,n=k+1:=⟨n-1,by omega⟩
  rw[dm,eV,jh,dN,show ju (sg [33]::(cC x++R)) 3 [33]=true from rfl,aj,eD,v k none R (by omega) d]
 |@cmp o x y u g j=>
  intro n sp R a d;have b:cC (.mk 4 o [] 0 [x,y])=cC x++sg o::cC y:=rfl;rw[b]at a⊢;obtain⟨k,rfl⟩:∃k,n=k+1:=⟨n-1,by omega⟩
  rw[bp,dm];have i:∃m T,cC x++sg o::(cC y++R)=wd m::T:=by cases g<;>exact⟨_,_,rfl⟩
  have t:=V7 (A:=A) (f:=f) (c:=c) u g j (sp:=sp) d;obtain⟨m,T,i⟩:=i;rw[i]at t⊢;rw[eV,jh,dN,show ju (wd m::T) 3 [33]=false from rfl,af,eG (show ju (wd m::T) 3 [33]=false from rfl),dN,show ju (wd m::T) 3 [40]=false from rfl,af,eG (show ju (wd m::T) 3 [40]=false from rfl)]
  exact t
def Pf(h:B5 e):ew A (Q f c sp (cC e++sg [125]::R))=(e,Q f c none (sg [125]::R)):=by
 unfold ew;refine Ji (Bz (Ud h _ sp _ ?_ rfl) rfl) rfl;show _<(nK sp _).length+1
 rw[kJ,dw];omega
def nL:List By->List KT
 |[]=>[]
 |x::t=>wd x::t.flatMap fun y=>[sg [44],wd y]
def BA(b:ju R 3 [44]=false):∀(l:List By)(n:Nat)(a:List By),(∀x∈l,bL x=true)->l.length<n->ia A n a (Q f c none ((l.flatMap fun y=>[sg [44],wd y])++R))=(a++l,Q f c none R)
 |[],n+1,a,_,_=>by
  show ia A (n+1) a (Q f c none R)=_
  rw[ia,dN,b,eG b,fa];rfl
 |x::l,n+1,a,d,e=>by
  show ia A (n+1) a (Q f c none (sg [44]::wd x::((l.flatMap fun y=>[sg [44],wd y])++R)))=_
  rw[ia,dN,show ju (sg [44]::wd x::((l.flatMap fun y=>[sg [44],wd y])++R)) 3 [44]=true from rfl,aj,eD,kK (d x aX)]
  have:=BA b l n (a++[x]) (fun y g=>d y (aW _ g)) (by simpa using e)
  rw[bp]at this;exact this
 |[],0,_,_,h=>absurd h (jl _)
 |_::_,0,_,_,h=>absurd h (jl _)
def Jj(b:l≠[])(h:∀x∈l,bL x=true)(d:ju R 3 [44]=false):eU A (Q f c sp (nL l++R))=(l,Q f c none R):=by
 cases l with
 |nil=>exact(b rfl).elim
 |cons x t=>
  show eU A (Q f c sp (wd x::((t.flatMap fun y=>[sg [44],wd y])++R)))=_
  unfold eU;rw[kK (h x aX)];refine BA d t _ [x] (fun y e=>h y (aW _ e)) ?_
  show t.length<(nK sp _).length+1
  rw[kJ];have:t.length<=(t.flatMap fun y=>[sg [44],wd y]).length:=by
   clear b h;induction t with
   |nil=>simp
   |cons a t g=>simp only[fe,dw,aE,cN];omega
  simp only[aE,dw];omega
def ug(a:Act):List KT:=wd (fr.getD a.kind.toNat [])::(bif(bif decide (a.kind>=3)then decide (a.kind<=5)else false)then[sg [40],nu a.data,sg [41]]else[])
def DF(h:(cd a).2=true):dh A (Q f c sp (ug a++R))=(a,Q f c none R):=by
 obtain⟨m,o,g,i,e⟩:=Gm h;obtain⟨k,d⟩:=a;have m:1<=k:=m;have o:k<=7:=o;have g:0<=d:=g;have i:d<=65535:=i;have s:∀R,vn A (Q f c none (sg [40]::nu d::sg [41]::R))=(d,Q f c none R):=by
  intro R;unfold vn;rw[jv,DA (Gp ⟨g,by omega⟩) i,jv,show wrap .i64 d=d from qX aC]
 have p:∀(n:By)(T:List KT)(j:Int),n9 n=(j,true)->jW (Q f c sp (wd n::T))=(j,true):=fun n T j b=>b
 have plain:∀(n:By)(j:Int),n9 n=(j,true)->[3,4,5].any (j == ·)=false->dh A (Q f c sp (wd n::R))=(⟨j,0⟩,Q f c none R):=by
  intro n j b l;unfold dh;rw[p n R j b];simp only[l];rfl
 have more:∀(n:By)(j:Int),n9 n=(j,true)->[3,4,5].any (j == ·)=true->dh A (Q f c sp (wd n::sg [40]::nu d::sg [41]::R))=(⟨j,d⟩,Q f c none R):=by
  intro n j b l;unfold dh;rw[p n _ j b];simp only[l,show UH (Q f c sp (wd n::sg [40]::nu d::sg [41]::R))=Q f c none (sg [40]::nu d::sg [41]::R)from rfl,s R]
  rfl
 have q:k=1\/k=2\/k=3\/k=4\/k=5\/k=6\/k=7:=by omega
 rcases q with rfl|rfl|rfl|rfl|rfl|rfl|rfl
 .have:d=0:=e rfl
  subst this;exact plain _ 1 rfl rfl
 .have:d=0:=e rfl
  subst this;exact plain _ 2 rfl rfl
 .exact more _ 3 rfl rfl
 .exact more _ 4 rfl rfl
 .exact more _ 5 rfl rfl
 .have:d=0:=e rfl
  subst this;exact plain _ 6 rfl rfl
 .have:d=0:=e rfl
  subst this;exact plain _ 7 rfl rfl
end
end
section
set_option maxRecDepth 10000
section
variable {A:Pa} {f:Int} {c:Cx}
def Jk:List Ex->List KT
 |[]=>[]
 |e::_=>sg [123]::(cC e++[sg [125]])
def DG:List By->List KT
 |[]=>[]
 |x::t=>sg [40]::(nL (x::t)++[sg [41]])
def yc(r:gu):List KT:=wd r.call::(DG r.params++Jk r.cond)
structure Yg (r:gu):Prop where
 call:bL r.call=true
 params:∀x∈r.params,bL x=true
 cond:r.cond=[]\/∃e,r.cond=[e]/\B5 e/\bK e<=30
def V8(R:List KT):Prop:=∃T,R=sg [44]::T\/R=sg [125]::T
def V9(h:l=[]\/∃e,l=[e]/\B5 e/\bK e<=30)(b:ju R 3 [123]=false):
  eB A name params (Q f c none (Jk l++R))=(⟨name,params,l⟩,Q f c none R):=by
 rcases h with rfl|⟨e,rfl,d,i⟩
 .show eB A name params (Q f c none R)=_
  unfold eB;rw[dN,b,eG b];rfl
 .show eB A name params (Q f c none (sg [123]::((cC e++[sg [125]])++R)))=_
  rw[bp];unfold eB;rw[dN,show ju (sg [123]::(cC e++([sg [125]]++R))) 3 [123]=true from rfl,eD]
  have a:=Pf (A:=A) (f:=f) (c:=c) d (sp:=none) (R:=R);have a:ew A (Q f c none (cC e++([sg [125]]++R)))=(e,Q f c none (sg [125]::R)):=a;rw[a];have g:oc A (Q f c none (sg [123]::(cC e++([sg [125]]++R)))) (e,Q f c none (sg [125]::R))=Q f c none (sg [125]::R):=by
   unfold oc;rw[show lB (e,Q f c none (sg [125]::R)).2=true from rfl,bV (by show¬((bK e:Int)>30);omega)];rfl
  rw[g];simp only[ec,af,jv]
def Wa(h:Yg r)(g:V8 R):jr A (Q f c sp (yc r++R))=(r,Q f c none R):=by
 have d:=h.call;have b:=h.params;have a:=h.cond;obtain⟨call,params,l⟩:=r;clear h;have a:l=[]\/∃e,l=[e]/\B5 e/\bK e<=30:=a;have b:∀x∈params,bL x=true:=b;have d:bL call=true:=d;have p:ju R 3 [123]=false:=by obtain⟨T,rfl|rfl⟩:=g<;>rfl
 have i:ju (Jk l++R) 3 [40]=false:=by
  rcases a with rfl|⟨e,rfl,_⟩
  .obtain⟨T,rfl|rfl⟩:=g<;>rfl
  .rfl
 have j:=V9 (A:=A) (f:=f) (c:=c) (name:=call) (params:=params) a p;have m:yc ⟨call,params,l⟩++R=wd call::(DG params++(Jk l++R)):=by
  show wd call::((DG params++Jk l)++R)=_
  rw[bp]
 rw[m];generalize Jk l++R=K at*;unfold jr;rw[kK d];cases params with
 |nil=>
  show(bif iZ (Q f c none K) 3 [40]then _ else eB A call [] (aL (Q f c none K) 3 [40]))=_
  rw[dN,i,af,eG i];exact j
 |cons x t=>
  have n:DG (x::t)++K=sg [40]::(nL (x::t)++(sg [41]::K)):=by
   show sg [40]::((nL (x::t)++[sg [41]])++K)=_
   rw[bp];rfl
  rw[n];have k:ju (nL (x::t)++sg [41]::K) 3 [41]=false:=rfl;have o:=Jj (A:=A) (f:=f) (c:=c) (l:=x::t) (by simp) b (sp:=none) (R:=sg [41]::K) rfl
  simp only[dN,show ju (sg [40]::(nL (x::t)++sg [41]::K)) 3 [40]=true from rfl,aj,eD,k,eG k,kh,o,jv]
  exact j
def vQ:List (List KT)->List KT
 |[]=>[]
 |x::t=>x++t.flatMap fun y=>sg [44]::y
def nM(l:List (List KT)):List KT:=sg [123]::(vQ l++[sg [125]])
def Jl{g:Ps->α×Ps}{tk:α->List KT}{R:List KT}:∀(l:List α)(x:α)(n:Nat)(more:Bool)(a:List α)(sp:Cx),(∀y∈x::l,∀(sp:Cx)(R:List KT),V8 R->g (Q f c sp (tk y++R))=(y,Q f c none R))->(∀y∈x::l,∀T,ju (tk y++T) 3 [125]=false)->l.length+1<n ->
  jM A g n more a (Q f c sp (tk x++((l.flatMap fun y=>sg [44]::tk y)++sg [125]::R)))=(a++x::l,Q f c none R)
 |l,x,0,_,_,_,_,_,h=>absurd h (jl _)
 |[],x,n+1,more,a,sp,d,b,e=>by
  have i:=d x aX sp (sg [125]::R) ⟨R,.inr rfl⟩;obtain⟨m,rfl⟩:∃m,n=m+1:=⟨n-1,by simp at e;omega⟩
  show jM A g (m+1+1) more a (Q f c sp (tk x++sg [125]::R))=_
  rw[jM,dN,b x aX];rw[show lB (Q f c sp (tk x++sg [125]::R))=true from rfl]
  rw[show(bif true then(bif more then true else !false)else false)=true by cases more<;>rfl,aj,i]
  simp only[dN,show ju (sg [125]::R) 3 [44]=false from rfl,eG (show ju (sg [125]::R) 3 [44]=false from rfl)]
  rw[jM,dN,show ju (sg [125]::R) 3 [125]=true from rfl,jv]
  rfl
 |z::l,x,n+1,more,a,sp,d,b,e=>by
  have k:((z::l).flatMap fun y=>sg [44]::tk y)++sg [125]::R=sg [44]::(tk z++((l.flatMap fun y=>sg [44]::tk y)++sg [125]::R)):=by simp
  rw[k];have i:=d x aX sp (sg [44]::(tk z++((l.flatMap fun y=>sg [44]::tk y)++sg [125]::R))) ⟨_,.inl rfl⟩
  rw[jM,dN,b x aX];rw[show∀T,lB (Q f c sp T)=true from fun _=>rfl]
  rw[show(bif true then(bif more then true else !false)else false)=true by cases more<;>rfl,aj,i]
  simp only[dN,show∀T,ju (sg [44]::T) 3 [44]=true from fun _=>rfl,eD]
  have:=Jl (R:=R) l z n true (a++[x]) none (fun y j=>d y (aW _ j)) (fun y j=>b y (aW _ j)) (by simpa using e)
  rw[bp]at this;exact this
def NG(e:∀y∈l,∀(sp:Cx)(R:List KT),V8 R->g (Q f c sp (tk y++R))=(y,Q f c none R))(d:∀y∈l,∀T,ju (tk y++T) 3 [125]=false):
  rN A g (Q f c sp (nM (l.map tk)++R))=(l,Q f c none R):=by
 unfold rN nM;rw[dm,bp,jv];cases l with
 |nil=>
  show jM A g ((nK none (sg [125]::R)).length+2) false [] (Q f c none (sg [125]::R))=_
  rw[kJ,jM,dN,show ju (sg [125]::R) 3 [125]=true from rfl,jv];rfl
 |cons x t=>
  have b:vQ ((x::t).map tk)++([sg [125]]++R)=tk x++((t.flatMap fun y=>sg [44]::tk y)++sg [125]::R):=by
   simp[vQ,List.flatMap_map]
  rw[b];refine Jl t x _ false [] none e d ?_;show _<(nK none _).length+2
  rw[kJ];have:t.length<=(t.flatMap fun y=>sg [44]::tk y).length:=by
   clear e d b;induction t with
   |nil=>simp
   |cons a t i=>simp only[fe,dw,aE];omega
  simp only[dw,aE];omega
def tb(p:cK):List KT:=bif !(p.use==[])then[wd fX,wd p.use]else ug p.act++nM (p.bj.map yc)
structure UK (p:cK):Prop where
 use:p.use≠[]->bL p.use=true/\p.act=⟨0,0⟩/\p.bj=[]
 act:p.use=[]->(cd p.act).2=true
 bj:∀r∈p.bj,Yg r
def Wb(h:(cd a).2=true):(fr.getD a.kind.toNat []==fX)=false/\∀T,ju (ug a++T) 3 [125]=false:=by
 obtain⟨b,e,-⟩:=Gm h;obtain⟨k,d⟩:=a;have b:1<=k:=b;have e:k<=7:=e;refine⟨?_,fun T=>rfl⟩
 have g:k=1\/k=2\/k=3\/k=4\/k=5\/k=6\/k=7:=by omega
 rcases g with rfl|rfl|rfl|rfl|rfl|rfl|rfl<;>rfl
def Wc(h:UK p)(g:V8 R):ib A (Q f c sp (tb p++R))=(p,Q f c none R):=by
 obtain⟨use,a,bj⟩:=p;cases hu:use==[]with
 |true=>
  have o:use=[]:=by simpa using hu
  subst o;have i:=h.act rfl;have m:=(Wb i).1;have b:tb ⟨[],a,bj⟩++R=ug a++(nM (bj.map yc)++R):=by
   show ug a++nM (bj.map yc)++R=_
   rw[bp]
  have k:ju (ug a++(nM (bj.map yc)++R)) 1 fX=false:=by
   show(bif(1:Int)==1 then fr.getD a.kind.toNat []==fX else false)=false
   rw[m];rfl
  rw[b];unfold ib;rw[dN,k,eG k,DF i];simp only[af];rw[NG (fun y j sp R g=>Wa (h.bj y j) g) (fun y j T=>rfl)]
 |false=>
  have n:use≠[]:=by simpa using hu
  obtain⟨l,d,e⟩:=h.use n;have d:a=⟨0,0⟩:=d;have e:bj=[]:=e;subst d e;have b:tb ⟨use,⟨0,0⟩,[]⟩++R=wd fX::wd use::R:=by
   unfold tb;simp only[hu];rfl
  rw[b];unfold ib;rw[dN,show ju (wd fX::wd use::R) 1 fX=true by simp[ju],aj,eD,kK l]
def B6(p:cL):List KT:=wd di::wd p.name::nM (p.aT.map tb)
def Gq(d:cT):List KT:=(5,bS)::wd d.name::cC d.ex
def B7(u:fH):List KT:=wd fX::(nL u.main++wd fJ::ug u.bO)
def nT(u:fH):List KT:=u.aF.flatMap Gq++(u.aA.flatMap B6++B7 u)
structure PI (u:fH):Prop where
 aF:∀d∈u.aF,bL d.name=true/\Jh d.ex
 aA:∀p∈u.aA,bL p.name=true/\∀x∈p.aT,UK x
 mne:u.main≠[]
 main:∀s∈u.main,bL s=true
 act:(cd u.bO).2=true
def LD(h:UK p):∀T,ju (tb p++T) 3 [125]=false:=by
 intro T;obtain⟨use,a,bj⟩:=p;unfold tb;cases hu : !(use==[])
 .rfl
 .rfl
def Ue(h:bL d.name=true/\Jh d.ex)(a:ju R 3 [124]=false):db A (Q f c sp (Gq d++R))=({A with ds:=A.ds++[d]},Q f c none R):=by
 show db A (Q f c sp ((5,bS)::wd d.name::(cC d.ex++R)))=_
 unfold db;rw[dN,show ju ((5,bS)::wd d.name::(cC d.ex++R)) 5 bS=true from rfl,aj,eD,kK h.1]
 simp only[DE h.2 a]
def Uf(h:bL p.name=true/\∀x∈p.aT,UK x):db A (Q f c sp (B6 p++R))=({A with ps:=A.ps++[p]},Q f c none R):=by
 show db A (Q f c sp (wd di::wd p.name::(nM (p.aT.map tb)++R)))=_
 unfold db;have b:ju (wd di::wd p.name::(nM (p.aT.map tb)++R)) 5 bS=false:=rfl;rw[dN,b,af,eG b,dN,show ju (wd di::wd p.name::(nM (p.aT.map tb)++R)) 1 di=true from rfl,aj,eD,kK h.1]
 simp only[NG (A:=A) (f:=f) (c:=c) (g:=ib A) (tk:=tb) (R:=R) (l:=p.aT) (sp:=none) (fun y a sp R d=>Wc (h.2 y a) d) (fun y a=>LD (h.2 y a))]
def Pg(h:PI u)(e:A.mn=[]):db A (Q f c sp (B7 u))=({A with mn:=u.main,dk:=u.bO.kind,dd:=u.bO.data},Q f c none []):=by
 show db A (Q f c sp (wd fX::(nL u.main++wd fJ::ug u.bO)))=_
 unfold db;have d:ju (wd fX::(nL u.main++wd fJ::ug u.bO)) 5 bS=false:=rfl;have b:ju (wd fX::(nL u.main++wd fJ::ug u.bO)) 1 di=false:=rfl;rw[dN,d,af,eG d,dN,b,af,eG b,dN,show ju (wd fX::(nL u.main++wd fJ::ug u.bO)) 1 fX=true from rfl,aj,eD]
 unfold xC;have a:=DF (A:=A) (f:=f) (c:=c) h.act (sp:=none) (R:=[]);rw[fa]at a;rw[Jj h.mne h.main rfl,e];simp only[jv,a];rfl
def NH{u:fH}:∀(l:List cT)(n:Nat)(A:Pa)(sp:Cx)(R:List KT),(∀d∈l,bL d.name=true/\Jh d.ex)->ju R 3 [124]=false->l.length<=n->∃a,ey n A (Q f c sp (l.flatMap Gq++R))=ey (n-l.length) {A with ds:=A.ds++l} (Q f c a R)
 |[],n,A,sp,R,_,_,_=>⟨sp,by simp⟩
 |d::l,0,A,sp,R,_,_,h=>by simp at h
 |d::l,n+1,A,sp,R,e,b,g=>by
  obtain⟨a,h⟩:=NH (u:=u) l n {A with ds:=A.ds++[d]} none R (fun x i=>e x (aW _ i)) b (by simpa using g)
  refine⟨a,?_⟩;have j:ju (l.flatMap Gq++R) 3 [124]=false:=by cases l with|nil=>exact b|cons=>rfl
  rw[fe,bp,ey,Ue (e d aX) j];show ey n {A with ds:=A.ds++[d]} (Q f c none (l.flatMap Gq++R))=_
  rw[h,bp,aE,Nat.add_sub_add_right];rfl
def NI{u:fH}:∀(l:List cL)(n:Nat)(A:Pa)(sp:Cx)(R:List KT),(∀p∈l,bL p.name=true/\∀x∈p.aT,UK x)->l.length<=n->∃a,ey n A (Q f c sp (l.flatMap B6++R))=ey (n-l.length) {A with ps:=A.ps++l} (Q f c a R)
 |[],n,A,sp,R,_,_=>⟨sp,by simp⟩
 |d::l,0,A,sp,R,_,h=>by simp at h
 |d::l,n+1,A,sp,R,b,e=>by
  obtain⟨a,h⟩:=NI (u:=u) l n {A with ps:=A.ps++[d]} none R (fun x g=>b x (aW _ g)) (by simpa using e)
  refine⟨a,?_⟩;rw[fe,bp,ey,Uf (b d aX)];show ey n {A with ps:=A.ps++[d]} (Q f c none (l.flatMap B6++R))=_
  rw[h,bp,aE,Nat.add_sub_add_right];rfl
end
def Ug(h:PI u)(sp:Cx)(b fi:Int)(d:Cx):Ad (nK sp (nT u)) b fi d=(u,0,0,some (0,0)):=by
 have z:u.aF.length+u.aA.length+1<=(nT u).length:=by
  have o:∀l:List cT,l.length<=(l.flatMap Gq).length:=fun l=>by
   induction l with
   |nil=>simp
   |cons a l s=>simp only[fe,dw,aE,Gq];omega
  have p:∀l:List cL,l.length<=(l.flatMap B6).length:=fun l=>by
   induction l with
   |nil=>simp
   |cons a l s=>simp only[fe,dw,aE,B6];omega
  have:=o u.aF;have:=p u.aA;simp only[nT,B7,dw,aE];omega
 have e:∃n,ey ((nK sp (nT u)).length+2) ⟨b,fi,d,[],[],[],0,0⟩ (Q 0 (some (0,0)) sp (nT u))=(⟨b,fi,d,u.aF,u.aA,u.main,u.bO.kind,u.bO.data⟩,Q 0 (some (0,0)) n []):=by
  rw[kJ];unfold nT;have w:ju (u.aA.flatMap B6++B7 u) 3 [124]=false:=by cases u.aA with|nil=>rfl|cons=>rfl
  obtain⟨v,g⟩:=NH (f:=0) (c:=some (0,0)) (u:=u) u.aF ((nT u).length+2) ⟨b,fi,d,[],[],[],0,0⟩ sp (u.aA.flatMap B6++B7 u) h.aF w (by omega)
  unfold nT at g;rw[g];obtain⟨m,i⟩:=NI (f:=0) (c:=some (0,0)) (u:=u) u.aA ((nT u).length+2-u.aF.length) ⟨b,fi,d,[]++u.aF,[],[],0,0⟩ v (B7 u) h.aA (by omega)
  unfold nT at i;rw[i];obtain⟨k,j⟩:∃k,(nT u).length+2-u.aF.length-u.aA.length=k+1+1:=⟨(nT u).length-u.aF.length-u.aA.length,by omega⟩
  unfold nT at j;rw[j];refine⟨none,?_⟩;rw[ey];show ey (k+1) (db _ (Q 0 (some (0,0)) m (B7 u))).1 (db _ (Q 0 (some (0,0)) m (B7 u))).2=_
  rw[Pg h rfl];rfl
 obtain⟨n,e⟩:=e;have y:ey ((nK sp (nT u)).length+2) ⟨b,fi,d,[],[],[],0,0⟩ ⟨nK sp (nT u),0,0,some (0,0)⟩=_:=e;unfold Ad;rw[y];have q:((u.main.length:Int)==0)=false:=by
  have:=h.mne;cases hq:u.main with
  |nil=>exact(this hq).elim
  |cons x t=>simp only[aE];rw[fY];omega
 unfold rO;simp only[q,af];rfl
end
section
set_option maxRecDepth 10000
inductive Lx:By->List KT->Prop
 |nil:Lx [] []
 |blank (c:UInt8) {t:By} {T:List KT}:gk c.toNat=true->Lx t T->Lx (c::t) T
 |tok (c:UInt8) {t x:By} {n:Nat} {k:Int} {T:List KT}:c≠47->gk c.toNat=false->jK (c::t)=some (k,n,x)->Lx ((c::t).drop n) T->Lx (c::t) ((k,x)::T)
def Uh{c:UInt8}(h:gk c.toNat=true):c≠47:=by rintro rfl;simp[gk]at h
def DH(h:c≠47)(t:By):dZ (c::t)=((runN gk (c::t):Int),true):=by
 have a:(47==c)=false:=by simpa using fun e=>h e.symm
 unfold dZ;simp only[List.isPrefixOf,a,Bool.false_and,af]
def Wd(h:Lx s T):Lx (s.drop (runN gk s)) T:=by
 induction h with
 |nil=>exact .nil
 |blank c f _ g=>rw[runN,f,aj,so];exact g
 |tok c b a d e _=>rw[runN,a,af,gh];exact .tok c b a d e
def BB:∀(f:Nat)(s:By)(T:List KT)(a:Cx)(b:List Tok),Lx s T->s.length<f->∃sp,dg 0 f s a b = .ok (b++nK sp T)/\(a=none->sp=none)
 |0,_,_,_,_,_,h=>absurd h (jl _)
 |f+1,s,T,a,b,h,y=>by
  cases h with
  |nil=>exact⟨none,by simp[dg,nK],fun _=>rfl⟩
  |@blank c t T j v=>
   have g:=DH (Uh j) t;have m:runN gk (c::t)=runN gk t+1:=by rw[runN,j];rfl
   have w:=Wd (Lx.blank c j v);have hlen:=iv (i:=runN gk (c::t)) (l:=c::t);obtain⟨sp,d,e⟩:=BB f ((c::t).drop (runN gk (c::t))) T none b w (by simp only[aE]at*; omega)
   refine⟨sp,?_,fun _=>e rfl⟩
   rw[dg,show(c::t==[])=false from rfl,af,g]
   simp only[aj];rw[bE (by rw[m];omega),aj,toNat_cast]
   exact d
  |@tok c t x n k T d e o u=>
   have g:=DH d t;have m:runN gk (c::t)=0:=by rw[runN,e];rfl
   have z:=Fb (by simp) o
   have hlen:=iv (i:=n) (l:=c::t);obtain⟨sp,p,q⟩:=BB f ((c::t).drop n) T none (b++[⟨k,x,0,a⟩]) u (by omega)
   refine⟨a,?_,id⟩;rw[dg,show(c::t==[])=false from rfl,af,g,m]
   simp only[aj];rw[bV (by decide),af]
   simp only[ec,af,o];rw[p,q rfl,bp];rfl
def ZY:By->Prop
 |[]=>True
 |c::_=>bN c.toNat=false
def xm(s:By)(T:List KT):Prop:=∀r R,Lx r R->Lx (s++r) (T++R)
def Pc(s:By)(T:List KT):Prop:=∀r R,ZY r->Lx r R->Lx (s++r) (T++R)
def Sp1(s:By):Prop:=∀r,ZY (s++r)
def xm.pc(h:xm s T):Pc s T:=fun r R _ a=>h r R a
def xm.app(h:xm s T)(c:xm b a):xm (s++b) (T++a):=fun r R d=>by
 rw[bp,bp];exact h _ _ (c r R d)
def xm.qq(h:xm s T)(c:Pc b a):Pc (s++b) (T++a):=fun r R e d=>by
 rw[bp,bp];exact h _ _ (c r R e d)
def Pc.app(h:Pc s T)(c:xm a b)(e:Sp1 a):xm (s++a) (T++b):=fun r R d=>by
 rw[bp,bp];exact h _ _ (e r) (c r R d)
def Pc.nil:Pc [] []:=fun _ _ _ h=>h
def xm.nil:xm [] []:=fun _ _ h=>h
def NJ(h:gk c.toNat=true):xm [c] []:=fun r R a=>.blank c h a
def vR:∀{w r:By},w.all (fun c=>bN c.toNat)=true->ZY r->runN bN (w++r)=w.length
 |[],[],_,_=>rfl
 |[],c::r,_,a=>by
  have a:bN c.toNat=false:=a;rw[dT,runN,a];rfl
 |c::w,r,h,a=>by
  rw[bG,cb]at h;rw[dm,runN,h.1,aj,vR h.2 a,aE]
def xU{c:UInt8}(h:bN c.toNat=true):gk c.toNat=false/\c≠47:=by
 refine⟨?_,by rintro rfl;simp[bN,df,gD]at h⟩
 cases hb:gk c.toNat with
 |false=>rfl
 |true=>
  have a:(c.toNat:Int)=32\/(c.toNat:Int)=9\/(c.toNat:Int)=10\/(c.toNat:Int)=13:=by
   simp only[gk,cond_eq_ite]at hb;simp at hb;omega
  rcases a with e|e|e|e<;>rw[e]at h<;>simp[bN,df,gD]at h
def lu(h:mh w=true):Pc w [wd w]:=by
 intro r R j i;cases w with
 |nil=>simp[mh]at h
 |cons c t=>
  have a:df c.toNat=true/\(c::t).all (fun c=>bN c.toNat)=true:=by
   unfold mh at h;rw[show(c::t==[])=false from rfl,af]at h
   obtain⟨e,d⟩:=cg (b:=df (UInt8.toNat ((c::t).getD 0 0):Int)) h;rw[Gk]at d;exact⟨e,d⟩
  have g:bN c.toNat=true:=by rw[bN,a.1];rfl
  obtain⟨f,k⟩:=xU g;have l:=vR a.2 j;refine .tok c (t:=t++r) (n:=(c::t).length) k f ?_ ?_
  .unfold jK
   rw[show df (UInt8.toNat ((c::(t++r)).getD 0 0):Int)=true from a.1,aj,show runN bN (c::(t++r))=(c::t).length from l]
   rw[show take (c::t).length (c::(t++r))=c::t by rw[<-dm];simp]
  .rw[<-dm,List.drop_left];exact i
def NK{c:UInt8}(h:gD c.toNat=true):df c.toNat=false/\bN c.toNat=true:=by
 have b:48<=(c.toNat:Int)/\(c.toNat:Int)<=57:=by simp[gD,cond_eq_ite]at h;omega
 have a:df c.toNat=false:=by
  unfold df;simp[cond_eq_ite];omega
 exact⟨a,by rw[bN,a,h];rfl⟩
def Yh(g:0<=m/\m<18446744073709551616):Pc (pn m) [nu m]:=by
 intro r R k j;have a:=xl 20 m;have i:=Gp g;have q:nu m=(2,pn m):=rfl;rw[q];have p:=NF 20 m;unfold pn at*;generalize v:pj 20 m=w at*;cases w with
 |nil=>exact(p rfl).elim
 |cons c t=>
  have b:gD c.toNat=true:=by rw[bG,cb]at a;exact a.1
  have s:(c::t).all (fun c=>bN c.toNat)=true:=bf.2 fun x l=>(NK (bf.1 a x l)).2
  obtain⟨f,e⟩:=NK b;obtain⟨d,o⟩:=xU e;have u:=vR s k;refine .tok c (t:=t++r) (n:=(c::t).length) o d ?_ ?_
  .unfold jK
   rw[show df (UInt8.toNat ((c::(t++r)).getD 0 0):Int)=false from f,af,show gD (UInt8.toNat ((c::(t++r)).getD 0 0):Int)=true from b,aj,show runN bN (c::(t++r))=(c::t).length from u]
   rw[show take (c::t).length (c::(t++r))=c::t by rw[<-dm];simp,i]
   rfl
  .rw[<-dm,List.drop_left];exact j
def Ui:Pc bS [(5,bS)]:=by
 intro r R b a;have c:runN bN ([100,101,102,105,110,101]++r)=6:=vR (w:=[100,101,102,105,110,101]) rfl b;refine .tok 35 (t:=[100,101,102,105,110,101]++r) (n:=7) (T:=R) (by decide) rfl ?_ (by rw[show drop 7 (35::([100,101,102,105,110,101]++r))=r by simp];exact a)
 have e:jK (35::([100,101,102,105,110,101]++r))=(qz (35::([100,101,102,105,110,101]++r))).map fun n=>(5,n,(35::([100,101,102,105,110,101]++r)).take n):=rfl
 rw[e];unfold qz;rw[show(35::([100,101,102,105,110,101]++r):By).drop 1=[100,101,102,105,110,101]++r from rfl,c]
 rfl
def Gr{r:By}(a:c∈([123,125,40,41,44,33,38,124,60,62]:By))(f:fW ((c::r).take 2) k9=false)(g:Lx r R):Lx (c::r) (sg [c]::R):=by
 have d:jV (c::r)=1:=by
  unfold jV;rw[f];have:decide (indexB (UInt8.toNat ((c::r).getD 0 0):Int) rK>=0)=true:=by
   simp only[aZ,jm,or_false]at a;rcases a with rfl|rfl|rfl|rfl|rfl|rfl|rfl|rfl|rfl|rfl<;>rfl
  rw[this];cases decide (((c::r).length:Int)>1)<;>rfl
 have b:jK (c::r)=some (3,jV (c::r),(c::r).take (jV (c::r))):=by
  have:decide ((jV (c::r):Int)>0)=true:=by rw[d];rfl
  unfold jK;rw[this];simp only[aZ,jm,or_false]at a;rcases a with rfl|rfl|rfl|rfl|rfl|rfl|rfl|rfl|rfl|rfl<;>rfl
 have e:c≠47/\gk c.toNat=false:=by
  simp only[aZ,jm,or_false]at a;rcases a with rfl|rfl|rfl|rfl|rfl|rfl|rfl|rfl|rfl|rfl<;>exact⟨by decide,rfl⟩
 rw[d]at b;exact .tok c e.1 e.2 b g
def We(h:[a,b]∈k9)(e:Lx r R):Lx (a::b::r) (sg [a,b]::R):=by
 simp only[k9,aZ,jm,or_false,ur,and_true]at h;rcases h with⟨rfl,rfl⟩|⟨rfl,rfl⟩|⟨rfl,rfl⟩|⟨rfl,rfl⟩|⟨rfl,rfl⟩|⟨rfl,rfl⟩
 all_goals
  refine .tok _ (t:=_::r) (n:=2) (by decide) rfl ?_ (show Lx r R from e)
  have c:decide (((2+r.length:Nat):Int)>1)=true:=bE (by omega)
  have f:∀x y:UInt8,fW [x,y] k9=true->jV (x::y::r)=2:=fun x y d=>by
   unfold jV;rw[show(x::y::r).length=2+r.length by simp only[aE];omega,c,show take 2 (x::y::r)=[x,y]from rfl,d]
   rfl
  unfold jK;rw[f _ _ rfl];rfl
def om(a:c∈([123,125,40,41,44]:By)):xm [c] [sg [c]]:=fun r R b=>by
 refine Gr (ea [33,38,124,60,62] a) ?_ b;simp only[aZ,jm,or_false]at a;cases r with
 |nil=>rcases a with rfl|rfl|rfl|rfl|rfl<;>rfl
 |cons d t=>rcases a with rfl|rfl|rfl|rfl|rfl<;>(simp[fW,k9])
def uh:xm [32] []:=NJ rfl
def ZZ:xm [10] []:=NJ rfl
def sj(t:By):Sp1 (32::t):=fun _=>rfl
def Uj(h:o∈ops\/o=[38]\/o=[124]\/o=[38,38]\/o=[124,124]):xm ([32]++o++[32]) [sg o]:=by
 intro r R i;have e:Lx (32::r) R:=.blank 32 rfl i;have one:∀c:UInt8,c∈([123,125,40,41,44,33,38,124,60,62]:By)->fW [c,32] k9=false->Lx (32::c::32::r) (sg [c]::R):=fun c f g=>.blank 32 rfl (Gr f g e)
 have d:∀a b:UInt8,[a,b]∈k9->Lx (32::a::b::32::r) (sg [a,b]::R):=fun a b h=>.blank 32 rfl (We h e)
 rcases h with h|rfl|rfl|rfl|rfl
 .simp only[ops,aZ,jm,or_false]at h
  rcases h with rfl|rfl|rfl|rfl|rfl|rfl
  .exact d 61 61 (by decide)
  .exact d 33 61 (by decide)
  .exact one 60 (by decide) rfl
  .exact d 60 61 (by decide)
  .exact one 62 (by decide) rfl
  .exact d 62 61 (by decide)
 .exact one 38 (by decide) rfl
 .exact one 124 (by decide) rfl
 .exact d 38 38 (by decide)
 .exact d 124 124 (by decide)
def iX(h:bL n=true):mh n=true:=(cg (b:=mh n) h).1
def Prim.pc(h:Prim e):Pc (cP e) (cC e):=by
 cases h with
 |num m a=>exact Yh a
 |name n b=>exact lu (iX b)
def Jh.pc(h:Jh e):Pc (cP e) (cC e):=by
 induction h with
 |V4 h=>exact h.pc
 |@bits x y _ a b=>
  have:=(b.app (Uj (o:=[124]) (by simp)) (sj _)).qq a.pc
  simpa[cP,cC]using this
def Gn.pc(h:Gn e):Pc (cP e) (cC e):=by
 cases h with
 |name n a=>exact lu (iX a)
 |@mask n x a b=>
  have:=((lu (iX a)).app (Uj (o:=[38]) (by simp)) (sj _)).qq b.pc
  simpa[cP,cC]using this
def B5.start(h:B5 e):∃c t,cP e=c::t/\c≠61:=by
 cases h with
 |or _ _=>exact⟨40,_,rfl,by decide⟩
 |and _ _=>exact⟨40,_,rfl,by decide⟩
 |not _=>exact⟨33,_,rfl,by decide⟩
 |@cmp o x y _ g _=>
  have f:∃n t,bL n=true/\cP x=n++t:=by
   cases g with
   |name n a=>exact⟨n,[],a,by simp[cP]⟩
   |mask n a _=>exact⟨n,_,a,by simp only[cP];rw[bp];rfl⟩
  obtain⟨n,t,a,d⟩:=f;have b:=iX a;cases n with
  |nil=>simp[mh]at b
  |cons c n=>
   refine⟨c,n++(t++([32]++o++[32]++cP y)),by simp[cP,d],?_⟩
   rintro rfl;unfold mh at b;simp[df]at b
def B5.pc(h:B5 e):Pc (cP e) (cC e):=by
 induction h with
 |@or x y _ _ b d=>
  have:=(((om (c:=40) (by decide)).qq b).app (Uj (o:=[124,124]) (by simp)) (sj _)).qq d
  have:=(this.app (om (c:=41) (by decide)) (fun _=>rfl)).pc
  simpa[cP,cC]using this
 |@and x y _ _ b d=>
  have:=(((om (c:=40) (by decide)).qq b).app (Uj (o:=[38,38]) (by simp)) (sj _)).qq d
  have:=(this.app (om (c:=41) (by decide)) (fun _=>rfl)).pc
  simpa[cP,cC]using this
 |@not x a n=>
  intro r R l k;have f:=n r R l k;obtain⟨c,t,i,g⟩:=a.start;show Lx (33::(cP x++r)) (sg [33]::(cC x++R))
  refine Gr (by decide) ?_ f
  rw[i];have:c≠61:=g;simp[fW,k9,this]
 |@cmp o x y j a m=>
  have:=(a.pc.app (Uj (o:=o) (.inl j)) (sj _)).qq m.pc;simpa[cP,cC]using this
def Uk:∀(l:List (By×List KT)),(∀p∈l,Pc p.1 p.2)->Pc (lY [44,32] (l.map (·.1))) (vQ (l.map (·.2)))
 |[],_=>Pc.nil
 |p::l,h=>by
  have g:=h p aX;have key:∀(l:List (By×List KT)),(∀p∈l,Pc p.1 p.2)->Pc ((l.map (·.1)).flatMap fun y=>[44,32]++y) ((l.map (·.2)).flatMap fun y=>sg [44]::y):=by
   intro l;induction l with
   |nil=>intro _;exact Pc.nil
   |cons q l i=>
    intro h;have e:=(((om (c:=44) (by decide)).app uh).qq (h q aX))
    have f:=i fun z d=>h z (aW _ d)
    have:Pc (([44]++[32]++q.1)++((l.map (·.1)).flatMap fun y=>[44,32]++y)) (([sg [44]]++[]++q.2)++((l.map (·.2)).flatMap fun y=>sg [44]::y)):=by
     intro r R a b;rw[bp ([44]++[32]++q.1),bp ([sg [44]]++[]++q.2)];refine e _ _ ?_ (f r R a b);cases l with
     |nil=>exact a
     |cons z l=>rfl
    simpa using this
  intro r R a b;have k:=key l fun z d=>h z (aW _ d)
  have:=g _ _ (by
   cases l with
   |nil=>exact a
   |cons z l=>rfl) (k r R a b)
  simpa[lY,vQ]using this
def Ul(l:List (By×List KT))(h:∀p∈l,Pc p.1 p.2):xm (po (l.map (·.1))) (nM (l.map (·.2))):=by
 have a:xm ([32]++[125]) ([]++[sg [125]]):=uh.app (om (by decide))
 cases l with
 |nil=>exact(om (c:=123) (by decide)).app a
 |cons p l=>
  have d:=(((om (c:=123) (by decide)).app uh).qq (Uk (p::l) h)).app a (sj _)
  have e:po ((p::l).map (·.1))=[123]++[32]++lY [44,32] ((p::l).map (·.1))++([32]++[125]):=by
   unfold po;rw[show((((p::l).map (·.1)).length:Int)==0)=false by rw[fY];simp only[bH,aE];omega]
   rfl
  rw[e];have b:nM ((p::l).map (·.2))=[sg [123]]++[]++vQ ((p::l).map (·.2))++([]++[sg [125]]):=by simp[nM]
  rw[b];exact d
def NL(h:∀x∈l,bL x=true):Pc (lY [44,32] l) (nL l):=by
 have:=Uk (l.map fun x=>(x,[wd x])) fun p c=>by
  obtain⟨x,d,rfl⟩:=bh.1 c;exact lu (iX (h x d))
 rw[dQ,dQ]at this;have a:l.map ((fun p:By×List KT=>p.1)∘fun x=>(x,[wd x]))=l:=(sq fun x _=>rfl).trans (List.map_id l)
 have b:vQ (l.map ((fun p:By×List KT=>p.2)∘fun x=>(x,[wd x])))=nL l:=by
  cases l with
  |nil=>rfl
  |cons x t=>simp[vQ,nL,List.flatMap_map]
 rw[a,b]at this;exact this
def Ph{k:Int}(b:1<=k)(c:k<=7):mh (fr.getD k.toNat [])=true:=by
 have a:k=1\/k=2\/k=3\/k=4\/k=5\/k=6\/k=7:=by omega
 rcases a with rfl|rfl|rfl|rfl|rfl|rfl|rfl<;>rfl
def Jm(h:(cd a).2=true):Pc (nI a) (ug a):=by
 obtain⟨f,g,d,i,-⟩:=Gm h;have b:=lu (Ph f g);unfold nI ug;cases hb:(bif decide (a.kind>=3)then decide (a.kind<=5)else false)
 .exact b
 .have e:=((b.app (om (c:=40) (by decide)) (fun _=>rfl)).qq (Yh ⟨d,by omega⟩)).app (om (c:=41) (by decide)) (fun _=>rfl)
  have:=e.pc;simpa using this
def Z0(h:Yg r):Pc (iM r) (yc r):=by
 have b:=lu (iX h.call);have f:Pc (nJ r) (wd r.call::DG r.params):=by
  unfold nJ;have g:=h.params;cases hq:r.params with
  |nil=>exact b
  |cons x t=>
   rw[hq]at g;have j:=((b.app (om (c:=40) (by decide)) (fun _=>rfl)).qq (NL g)).app (om (c:=41) (by decide)) (fun _=>rfl)
   rw[bE (by simp only[aE];omega),aj]
   have:=j.pc;simpa[DG]using this
 rcases h.cond with i|⟨e,d,k,_⟩
 .have a:iM r=nJ r:=by rw[iM,i]
  rw[a,yc,i];simpa[Jk]using f
 .have a:iM r=nJ r++[32,123,32]++cP e++[32,125]:=by rw[iM,d]
  have l:xm [32,123,32] [sg [123]]:=(uh.app (om (c:=123) (by decide))).app uh
  have m:xm [32,125] [sg [125]]:=uh.app (om (c:=125) (by decide))
  have:=(((f.app l (sj _)).qq k.pc).app m (sj _)).pc;rw[a,yc,d];simpa[Jk]using this
def Z1(h:UK p):Pc (gg p) (tb p):=by
 unfold gg tb;cases hu : !(p.use==[])
 .have a:p.use=[]:=by simpa using hu
  have b:=(Jm (h.act a)).app uh (sj _);have c:=Ul (p.bj.map fun r=>(iM r,yc r)) fun q d=>by
   obtain⟨r,e,rfl⟩:=bh.1 d;exact Z0 (h.bj r e)
  rw[dQ,dQ]at c;have:=(b.app c).pc;simpa[Function.comp_def]using this
 .have a:p.use≠[]:=by simpa using hu
  have b:=(lu (w:=fX) rfl).app uh (sj _);have:=b.qq (lu (iX (h.use a).1));simpa[fX]using this
def ac2(h:bL d.name=true/\Jh d.ex):xm (mg d) (Gq d):=by
 have a:=(Ui.app uh (sj _)).qq (lu (iX h.1));have b:=((a.app uh (sj _)).qq h.2.pc).app ZZ (fun _=>rfl)
 simpa[mg,Gq,bS]using b
def ac3(h:bL p.name=true/\∀x∈p.aT,UK x):xm (kI p) (B6 p):=by
 have b:=((lu (w:=di) rfl).app uh (sj _)).qq (lu (iX h.1));have a:=Ul (p.aT.map fun x=>(gg x,tb x)) fun q d=>by
  obtain⟨x,e,rfl⟩:=bh.1 d;exact Z1 (h.2 x e)
 rw[dQ,dQ]at a;have c:=((b.app uh (sj _)).app a).app ZZ;simpa[kI,B6,di,Function.comp_def]using c
def Z2(h:PI u):xm (lr u) (B7 u):=by
 have a:=((lu (w:=fX) rfl).app uh (sj _)).qq (NL h.main);have b:=((a.app uh (sj _)).qq (lu (w:=fJ) rfl)).app uh (sj _);have c:=(b.qq (Jm h.act)).app ZZ (fun _=>rfl)
 simpa[lr,B7,fX,fJ]using c
def LF{p:α->By}{t:α->List KT}:∀(l:List α),(∀x∈l,xm (p x) (t x))->xm (l.flatMap p) (l.flatMap t)
 |[],_=>xm.nil
 |x::l,h=>by
  rw[fe,fe];exact(h x aX).app (LF l fun y a=>h y (aW _ a))
def Z3(h:PI u):Lx (ft u) (nT u):=by
 have:=((LF u.aF fun d a=>ac2 (h.aF d a)).app (LF u.aA fun p b=>ac3 (h.aA p b))).app (Z2 h)
 have:=this [] [] .nil;simpa[ft,nT]using this
def jw(T:List KT):Prop:=∀p∈T,p.1=5->p.2=bS
def jw.app{S T:List KT}(h:jw S)(b:jw T):jw (S++T):=fun p a=>by
 rcases bn.1 a with a|a
 .exact h p a
 .exact b p a
def jw.cons(h:x.1=5->x.2=bS)(b:jw T):jw (x::T):=fun p a=>by
 rcases aZ.1 a with rfl|a
 .exact h
 .exact b p a
def jw.nil:jw []:=fun _ h=>by simp at h
def noE:∀e:Ex,jw (cC e)
 |.mk k o n m []=>by unfold cC;cases k==7<;>exact .cons (by intro h;simp at h) .nil
 |.mk k o n m [x]=>by
  have:=noE x;unfold cC;cases k==3
  .exact .cons (by intro h;simp at h) (.cons (by intro h;simp at h) this)
  .exact .cons (by intro h;simp at h) this
 |.mk k o n m [x,y]=>by
  have a:=noE x;have b:=noE y;unfold cC;cases k==1
  .cases k==2
   .cases k==4<;>exact a.app (.cons (by intro h;simp at h) b)
   .exact .cons (by intro h;simp at h) (a.app (.cons (by intro h;simp at h) (b.app (.cons (by intro h;simp at h) .nil))))
  .exact .cons (by intro h;simp at h) (a.app (.cons (by intro h;simp at h) (b.app (.cons (by intro h;simp at h) .nil))))
 |.mk k o n m (_::_::_::_)=>by unfold cC;cases k==7<;>exact .cons (by intro h;simp at h) .nil
def BC:∀(l:List α),(∀x∈l,jw (t x))->jw (l.flatMap t)
 |[],_=>.nil
 |x::l,h=>by rw[fe];exact(h x aX).app (BC l fun y a=>h y (aW _ a))
def ac5:∀l:List By,jw (nL l)
 |[]=>.nil
 |x::t=>.cons (by intro h;simp at h) (BC t fun y _=>.cons (by intro h;simp at h) (.cons (by intro h;simp at h) .nil))
def noA(a:Act):jw (ug a):=by
 unfold ug;refine .cons (by intro h;simp at h) ?_
 cases(bif decide (a.kind>=3)then decide (a.kind<=5)else false)
 .exact .nil
 .exact .cons (by intro h;simp at h) (.cons (by intro h;simp at h) (.cons (by intro h;simp at h) .nil))
def ac6:∀l:List (List KT),(∀T∈l,jw T)->jw (nM l)
 |[],_=>.cons (by intro h;simp at h) (.cons (by intro h;simp at h) .nil)
 |x::l,h=>by
  unfold nM vQ;exact .cons (by intro h;simp at h) (((h x aX).app (BC l fun y a=>.cons (by intro h;simp at h) (h y (aW _ a)))).app (.cons (by intro h;simp at h) .nil))
def noR(r:gu):jw (yc r):=by
 unfold yc;refine .cons (by intro h;simp at h) (jw.app ?_ ?_)
 .cases r.params with
  |nil=>exact .nil
  |cons x t=>exact .cons (by intro h;simp at h) ((ac5 _).app (.cons (by intro h;simp at h) .nil))
 .cases r.cond with
  |nil=>exact .nil
  |cons e t=>exact .cons (by intro h;simp at h) ((noE e).app (.cons (by intro h;simp at h) .nil))
def noP(p:cK):jw (tb p):=by
 unfold tb;cases !(p.use==[])
 .exact(noA _).app (ac6 _ fun T a=>by obtain⟨r,_,rfl⟩:=bh.1 a;exact noR r)
 .exact .cons (by intro h;simp at h) (.cons (by intro h;simp at h) .nil)
def noU(u:fH):jw (nT u):=by
 unfold nT;refine(BC _ fun d _=>?_).app ((BC _ fun p _=>?_).app ?_)
 .exact .cons (fun _=>rfl) (.cons (by intro h;simp at h) (noE _))
 .exact .cons (by intro h;simp at h) (.cons (by intro h;simp at h) (ac6 _ fun T a=>by obtain⟨x,_,rfl⟩:=bh.1 a;exact noP x))
 .exact .cons (by intro h;simp at h) ((ac5 _).app (.cons (by intro h;simp at h) (noA _)))
def xV:∀(T:List KT)(sp:Cx)(x:Wv),jw T->hO rec l (nK sp T) false x=some (.ok {x with eY:=x.eY++nK sp T,stack:=x.stack.dropLast})
 |[],sp,x,_=>by simp[nK,hO]
 |(k,t)::T,sp,x,h=>by
  simp only[nK];unfold hO;have a:(bif(k !=5)then true else !(t==jq))=true:=by
   cases hk:k !=5
   .have:k=5:=by simpa using hk
    have:=h (k,t) aX this;have:t=bS:=this;rw[this];rfl
   .rfl
  rw[show(Tok.mk k t 0 sp).kind=k from rfl,show(Tok.mk k t 0 sp).text=t from rfl,a,aj,xV T none _ fun p b=>h p (aW _ b)]
  simp
def Wf(h:PI u)(e:(ft u).length<=20000):vM [⟨[117],ft u⟩] [117]=some (u,0,0,some (0,0)):=by
 have b:fy [⟨[117],ft u⟩] [117]=(0,true):=rfl;obtain⟨sp,a,_⟩:=BB ((ft u).length+1) (ft u) (nT u) xA [] (Z3 h) (by omega)
 rw[dT]at a;have d:jL (ft u) 0 = .ok (nK sp (nT u)):=by
  unfold jL;rw[bV (by omega),af,a]
 have c:nG [⟨[117],ft u⟩] [117]=some (.ok (nK sp (nT u))):=by
  unfold nG;rw[b];simp only[ec,af];rw[iK];simp only[show([⟨[117],ft u⟩]:List Fl)[toNat 0]?=some ⟨[117],ft u⟩from rfl,d]
  rw[xV _ _ _ (noU u)];simp
 unfold vM;rw[c];simp only;rw[Ug h]
def Pj(d:20000<t.length):∃e,vM [⟨[117],t⟩] [117]=some (⟨[],[],[],⟨0,0⟩⟩,e)/\e.1=9:=by
 have a:fy [⟨[117],t⟩] [117]=(0,true):=rfl;have c:jL t 0 = .error (9,xA):=by
  unfold jL;rw[bE (by omega),aj]
 have b:nG [⟨[117],t⟩] [117]=some (.error (9,0,xA)):=by
  unfold nG;rw[a];simp only[ec,af];rw[iK];simp only[show([⟨[117],t⟩]:List Fl)[toNat 0]?=some ⟨[117],t⟩from rfl,c]
 unfold vM;rw[b];exact⟨_,rfl,rfl⟩
end
mutual
def tc:Ex->Prop|.mk _ _ _ n l=>(0<=n/\n<18446744073709551616)/\Pk l
def Pk:List Ex->Prop|[]=>True|x::t=>tc x/\Pk t
end
structure Rng (u:fH):Prop where
 aF:∀d∈u.aF,tc d.ex
 aA:∀p∈u.aA,∀x∈p.aT,∀r∈x.bj,∀e∈r.cond,tc e
def Gs(h:fA e=true)(a:tc e):Prim e:=by
 unfold fA at h;cases h1:fj e<;>rw[h1]at h
 .cases h2:ej e<;>rw[h2]at h
  .simp at h
  .obtain⟨n,rfl⟩:=o4 h2
   exact .name n h
 .obtain⟨m,rfl⟩:=CJ h1
  exact .num m a.1
def LG:∀(d:Nat)(e:Ex),bK e<=d->gn e=true->tc e->Jh e
 |0,e,h,_,_=>by rw[cI]at h;omega
 |d+1,e,h,a,c=>by
  obtain⟨k,o,n,m,l⟩:=e;cases hk:k==8
  .rw[yF hk]at a
   exact .V4 (Gs a c)
  .obtain rfl:k=8:=eq_of_beq hk
   cases h2:dV (.mk 8 o n m l)
   .rw[Lg h2]at a;simp at a
   .obtain⟨k,x,y,f,-⟩:=mK h2
    simp only[Ex.mk.injEq]at f;obtain⟨rfl,rfl,rfl,rfl,rfl⟩:=f;have g:(bif fA y then gn x else false)=true:=by
     have:gn (.mk 8 [] [] 0 [x,y])=(bif fA y then gn x else false):=by simp only[gn,h2];rfl
     rw[<-this];exact a
    obtain⟨i,j⟩:=cg (b:=fA y) g;exact .bits (LG d x (by simp only[bK,ct]at h;omega) j c.2.1) (Gs i c.2.2.1)
def Wg(h:jY e=true)(d:tc e):Gn e:=by
 unfold jY at h;cases h1:ej e<;>rw[h1]at h
 .cases h2:iE e<;>rw[h2]at h
  .simp at h
  .obtain⟨n,x,rfl⟩:=wQ h2
   obtain⟨a,c⟩:=cg (b:=bL (Ex.mk 6 [] n 0 [x]).name) h;exact .mask n a (Gs c d.2.1)
 .obtain⟨n,rfl⟩:=o4 h1
  exact .name n h
def Gt:∀(d:Nat)(e:Ex),bK e<=d->cu e=true->tc e->B5 e
 |0,e,h,_,_=>by rw[cI]at h;omega
 |d+1,e,h,a,f=>by
  obtain⟨k,o,n,m,l⟩:=e;match l,a,f,h with
  |[],a,_,_=>simp[cu]at a
  |[x],a,f,h=>
   unfold cu at a;obtain⟨j,p⟩:=cg (b:=k==3) a;obtain⟨g,i⟩:=cg (b:=fQ (.mk k o n m [x])) p;obtain⟨z,c⟩:=wR g;simp only[Ex.mk.injEq,ur,and_true]at c;obtain⟨rfl,rfl,rfl,rfl,rfl⟩:=c;exact .not (Gt d x (by simp only[bK,ct]at h;omega) i f.2.1)
  |[x,y],a,f,h=>
   have w:bK x<=d:=by simp only[bK,ct]at h;omega
   have r:bK y<=d:=by simp only[bK,ct]at h;omega
   unfold cu at a;cases hk:(bif k==1 then true else k==2)<;>rw[hk]at a
   .simp only[af]at a
    obtain⟨j,p⟩:=cg (b:=k==4) a;obtain⟨g,i⟩:=cg (b:=iF (.mk k o n m [x,y])) p;obtain⟨q,s⟩:=cg (b:=fW o ops) i;obtain⟨u,v⟩:=cg (b:=jY x) s;obtain⟨o',D,E,c⟩:=sO g;simp only[Ex.mk.injEq,ur,and_true]at c;obtain⟨rfl,rfl,rfl,rfl,rfl,rfl⟩:=c;exact .cmp o (by simpa[fW]using q) (Wg u f.2.1) (LG _ y (ar _) v f.2.2.1)
   .simp only[aj]at a
    obtain⟨g,i⟩:=cg (b:=dV (.mk k o n m [x,y])) a;obtain⟨q,s⟩:=cg (b:=cu x) i;obtain⟨G,D,E,c,-⟩:=mK g;simp only[Ex.mk.injEq,ur,and_true]at c;obtain⟨rfl,rfl,rfl,rfl,rfl,rfl⟩:=c;have bx:=Gt d x w q f.2.1;have t:=Gt d y r s f.2.2.1;cases j:k==1<;>rw[j]at hk
    .obtain rfl:k=2:=eq_of_beq hk
     exact .and bx t
    .obtain rfl:k=1:=eq_of_beq j
     exact .or bx t
  |_::_::_::_,a,_,_=>simp[cu]at a
def Wh(h:lQ r=true)(k:∀e∈r.cond,tc e):Yg r:=by
 unfold lQ at h;obtain⟨f,a⟩:=cg (b:=bL r.call) h;cases h3 : !(r.params.all bL)<;>rw[h3]at a
 .simp only[af]at a
  cases c:decide ((r.cond.length:Int)>1)<;>rw[c]at a
  .refine⟨f,fun x l=>bf.1 (show r.params.all bL=true by simpa using h3) x l,?_⟩
   have c:=bI c;have g:=bf.1 a;match hc:r.cond with
   |[]=>exact .inl rfl
   |[e]=>
    have i:=g e (by rw[hc];simp)
    obtain⟨j,d⟩:=cg (b:=cu e) i;have d:=aV d;exact .inr ⟨e,rfl,Gt _ e (ar _) j (k e (by rw[hc];simp)),by omega⟩
   |_::_::_=>rw[hc]at c;simp only[aE]at c;omega
  .simp at a
 .simp at a
def Wi(h:kR p=true)(n:∀r∈p.bj,∀e∈r.cond,tc e):UK p:=by
 unfold kR at h;cases a : !(p.use==[])<;>rw[a]at h
 .have a:p.use=[]:=by simpa using a
  obtain⟨f,g⟩:=cg (b:=(cd p.act).2) h;exact⟨fun i=>(i a).elim,fun _=>f,fun r c=>Wh (bf.1 g r c) (n r c)⟩
 .have a:p.use≠[]:=by simpa using a
  obtain⟨f,g⟩:=cg (b:=bL p.use) h;obtain⟨j,m⟩:=cg (b:=((true&&(p.act.kind==0))&&(p.act.data==0))) g;have l:p.bj=[]:=hX.1 (by have:=eq_of_beq m;omega)
  refine⟨fun _=>⟨f,?_,l⟩,fun i=>(a i).elim,fun r c=>by rw[l]at c;simp at c⟩
  simp only[Bool.true_and,cb,beq_iff_eq]at j;obtain⟨use,⟨k,d⟩,bj⟩:=p;obtain⟨rfl,rfl⟩:=j;rfl
def NM(h:ji u=true)(j:Rng u):PI u:=by
 unfold ji at h;obtain⟨l,m⟩:=cg (b:=u.aF.all Ag) h;obtain⟨n,o⟩:=cg (b:=bif u.aA.all wS then decide ((u.main.length:Int)>0)else false) m;obtain⟨q,f⟩:=cg (b:=u.aA.all wS) n;obtain⟨t,v⟩:=cg (b:=u.main.all bL) o;refine⟨fun d g=>?_,fun p i=>?_,fun e=>by rw[e]at f;simp at f,fun s w=>bf.1 t s w,v⟩
 .obtain⟨a,c⟩:=cg (b:=bL d.name) (bf.1 l d g)
  exact⟨a,LG _ _ (ar _) c (j.aF d g)⟩
 .obtain⟨a,c⟩:=cg (b:=bL p.name) (bf.1 q p i)
  exact⟨a,fun x k=>Wi (bf.1 c x k) (j.aA p i x k)⟩
def Jn:∀(l:List gu)(n m:Int),(∀r∈l,Yg r)->oi l n=some m->∀r∈l,PrR r
 |[],_,_,_,_=>by simp
 |r::t,n,m,g,h=>by
  unfold oi at h;obtain⟨i,h⟩:=vP h;obtain⟨j,h⟩:=vP h;obtain⟨k,h⟩:=vP h;obtain⟨o,-⟩:=Br i;obtain⟨p,-⟩:=Br o;obtain⟨c,d⟩:=Br p;have c:=ph c;have d:=ph d;have v:=Jn t _ m (fun r w=>g r (aW _ w)) h
  intro x b;rcases aZ.1 b with rfl|b
  .refine⟨by omega,by omega,s5 (by simpa using j),fun e a=>?_⟩
   obtain⟨q,s⟩:=yM (bf.1 (show x.cond.all qM=true by simpa using k) e a)
   refine⟨?_,s,q⟩;rcases(g x b).cond with f|⟨z,f,u,-⟩<;>rw[f]at a
   .simp at a
   .simp at a;subst a;exact u.g
  .exact v x b
def Jo:∀(l:List cK)(n m:Int),(∀x∈l,UK x)->oj l n=some m->∀x∈l,PrP x
 |[],_,_,_,_=>by simp
 |p::t,n,m,d,h=>by
  unfold oj at h;obtain⟨b,h⟩:=vP h;obtain⟨c,h⟩:=vP h;have b:=ph b;have c:=ph c;obtain⟨k,f,g⟩:=cQ.1 h;have i:=Jo t _ m (fun r j=>d r (aW _ j)) g
  intro x a;rcases aZ.1 a with rfl|a
  .have e:=d x aX
   exact⟨by omega,by omega,Jn _ _ _ e.bj f,e.act⟩
  .exact i x a
def Jp:∀(l:List cL)(n m:Int),(∀p∈l,∀x∈p.aT,UK x)->mq l n=some m->∀p∈l,p.name.length<=60/\p.aT.length<=12/\∀x∈p.aT,PrP x
 |[],_,_,_,_=>by simp
 |p::t,n,m,d,h=>by
  unfold mq at h;obtain⟨b,h⟩:=vP h;obtain⟨c,h⟩:=vP h;have b:=ph b;have c:=ph c;obtain⟨k,e,f⟩:=cQ.1 h;have g:=Jp t _ m (fun r i=>d r (aW _ i)) f
  intro x a;rcases aZ.1 a with rfl|a
  .exact⟨by omega,by omega,Jo _ _ _ (d x aX) e⟩
  .exact g x a
def NN(h:xi u=true)(a:PI u):PrU u:=by
 unfold xi at h;cases h1:(bif(bif decide ((u.aF.length:Int)>12)then true else decide ((u.aA.length:Int)>8))then true else decide ((u.main.length:Int)>8))<;>rw[h1]at h
 .obtain⟨i,c⟩:=Br h1
  obtain⟨e,f⟩:=Br i;have c:=ph c;have e:=ph e;have f:=ph f;cases h6 : !u.aF.all Bq<;>rw[h6]at h
  .cases h7 : !u.main.all iL<;>rw[h7]at h
   .simp only[af]at h
    obtain⟨m,j⟩:=uD.1 h;refine⟨by omega,fun d g=>?_,by omega,Jp _ _ _ (fun p n=>(a.aA p n).2) j,by omega,s5 (by simpa using h7),a.act⟩
    obtain⟨k,o⟩:=cg (b:=qM d.ex) (bf.1 (show u.aF.all Bq=true by simpa using h6) d g)
    obtain⟨q,s⟩:=yM k;have t:=s5 (l:=[d.name]) (by simp[o]) d.name (by simp)
    exact⟨t,(a.aF d g).2.g,s,q⟩
   .simp at h
  .simp at h
 .simp at h
def LH(a:List cT)(ps:List By)(e:Ex):et (jb a ps e).1=1:=by
 have f:∀i o m y,et (oB a i o m y).1=1:=fun i o m y=>by
  unfold oB;cases(bX a y).2 !=0<;>rfl
 obtain⟨k,o,n,m,l⟩:=e;match l with
 |[]=>rfl
 |[_]=>rfl
 |x::y::t=>
  have e:jb a ps (.mk k o n m (x::y::t))=bif decide (idx (x.name == ·) ps<0)then(x9,7)else
   bif x.kind==6 then(bif(bX a (kM x 0)).2 !=0 then(x9,(bX a (kM x 0)).2)else oB a (idx (x.name == ·) ps) (Vy o) (bX a (kM x 0)).1 y)else oB a (idx (x.name == ·) ps) (Vy o) 18446744073709551615 y:=rfl
  rw[e];cases decide (idx (x.name == ·) ps<0)
  .cases x.kind==6
   .exact f ..
   .cases(bX a (kM x 0)).2 !=0
    .exact f ..
    .rfl
  .rfl
def BD:∀(a b:List Cn),ek (a++b)=ek a+ek b
 |[],b=>by simp[ek]
 |x::a,b=>by simp[ek,BD a b];omega
mutual
theorem BE(a:List cT)(ps:List By):∀e:Ex,(et (dM a ps e).1:Int)<=dv e
 |.mk k o n v l=>by
  unfold dM;cases k==4
  .have:=BF a ps l [] (bif k==1 then 4 else bif k==2 then 3 else 2)
   simp only[af,dv];simp[ek]at this;omega
  .have:=LH a ps (.mk k o n v l)
   have:=lq l;simp only[aj,dv];omega
theorem BF(a:List cT)(ps:List By):∀(l:List Ex)(b:List Cn)(k:Int),(et (gT a ps l b k).1:Int)<=ek b+cG l+1
 |[],b,k=>by simp[gT,et,cG]
 |x::t,b,k=>by
  have d:=BE a ps x;have c:=BF a ps t (b++[(dM a ps x).1]) k;have f:=lq t;have g:=eM x;unfold gT;rw[BD]at c;simp only[ek]at c;simp only[cG];cases(dM a ps x).2 !=0
  .simp only[af];omega
  .have:et x9=1:=rfl
   simp only[aj,this];omega
end
def Um(h:kC aq name=some c):0<=c.nr/\c.nr<4294967296:=by
 have b:=lx h;have e:∀j l,∀c∈kz j l,0<=c.nr/\c.nr<4294967296:=by
  intro j l;induction l with
  |nil=>intro c a;simp[kz]at a
  |cons r l d=>
   intro c a;unfold kz at a;cases hz:r.nr j != -1<;>rw[hz]at a
   .exact d c a
   .rcases aZ.1 a with rfl|a
    .exact⟨mT _ (by decide),pq _ (by decide)⟩
    .exact d c a
 unfold lS at b;cases hz:decide (idx (aq == ·) nk<0)<;>rw[hz]at b
 .exact e _ lR c b
 .simp at b
def DI{aq:By}{P:Bd->Prop}(a:Act):∀(t:List gu)(d o:List Bd),(∀r∈t,(ep u aq r a).2=0->P (ep u aq r a).1)->(∀b∈d,P b)->iH u aq a t d = .ok o->∀b∈o,P b
 |[],d,o,_,e,h=>by simp[iH]at h;subst h;exact e
 |r::t,d,o,f,e,h=>by
  unfold iH at h;cases hz:(ep u aq r a).2 !=0<;>rw[hz]at h
  .refine DI a t _ o (fun r g=>f r (aW _ g)) (fun b c=>?_) h
   rcases bn.1 c with c|c
   .exact e b c
   .simp at c
    subst c;exact f r aX (by simpa using hz)
  .simp at h
def BG{aq:By}{P:Bd->Prop}{n:Nat}:∀(t:List cK)(a o:List Bd),(∀p∈t,p.bj.length<=n/\∀r∈p.bj,(ep u aq r p.act).2=0->P (ep u aq r p.act).1)->(∀b∈a,P b)->gp u aq t a = .ok o->(∀b∈o,P b)/\o.length<=a.length+t.length*n
 |[],a,o,_,c,h=>by simp[gp]at h;subst h;exact⟨c,by simp⟩
 |p::t,a,o,e,c,h=>by
  unfold gp at h;obtain⟨j,f⟩:=e p aX;cases hz:iH u aq p.act p.bj a<;>rw[hz]at h
  .simp at h
  .rename_i g
   have k:=Ap _ _ _ _ _ _ hz;have d:=BG t g o (fun r i=>e r (aW _ i)) (DI _ _ _ _ f c hz) h
   refine⟨d.1,?_⟩;have:=d.2;simp only[aE,bZ,cM];omega
def Un{ps:List cL}{Q:cK->Prop}(b:∀x,Q x->Q (nq x))(a:∀p∈ps,∀x∈p.aT,x.use=[]->Q x)(h:ns ps names = .ok l):(∀x∈l,Q x)/\l.length<=500:=by
 unfold ns at h;cases hd:H9 ps []<;>rw[hd]at h
 .simp only[af]at h
  cases hz:(fk ps names ⟨[],[],[]⟩).1 !=0<;>rw[hz]at h
  .simp at h
   subst h;have:=rR (Q:=Q) ps a names ⟨[],[],[]⟩ ⟨by simp,by simp,by simp⟩ (by simpa using hz)
   refine⟨fun x c=>?_,by simpa using this.len⟩
   obtain⟨y,d,rfl⟩:=bh.1 c;exact b y (this.eY y d)
  .simp at h
 .simp at h
def BH{u:fH}{Q:cK->Prop}{P:Bd->Prop}(j:∀x,Q x->Q (nq x))(i:∀p∈u.aA,∀x∈p.aT,x.use=[]->Q x)(g:∀p,Q p->p.bj.length<=n/\∀r∈p.bj,(ep u aq r p.act).2=0->P (ep u aq r p.act).1)(h:eC u aq = .ok a):(∀b∈a,P b)/\a.length<=500*n:=by
 unfold eC at h;cases h1 : !(dc aq).2<;>rw[h1]at h
 .cases h2 : !ji u<;>rw[h2]at h
  .simp only[af]at h
   cases h3:oA u.aF<;>rw[h3]at h
   .simp at h
   .simp only at h
    cases h4:ns u.aA u.main<;>rw[h4]at h
    .simp at h
    .rename_i l
     obtain⟨c,d⟩:=Un j i h4;obtain⟨e,f⟩:=BG (n:=n) (P:=P) l [] a (fun p k=>g p (c p k)) (by simp) h
     have:=dx n d;exact⟨e,by simp at f;omega⟩
  .simp at h
 .simp at h
def xn(d:r.cond.length<=1)(h:(ep u aq r a).2=0):∃c,kC aq r.call=some c/\(cR r c).2=0/\(ep u aq r a).1=⟨c.nr,a,match r.cond with|[]=>.mk 1 0 0 0 0 []|e::_=>(dM u.aF (cR r c).1 e).1⟩/\∀e∈r.cond,(dM u.aF (cR r c).1 e).2=0:=by
 cases h1:kC aq r.call with
 |none=>unfold ep at h;rw[h1]at h;simp at h
 |some c=>
  have g:ep u aq r a=bif(cR r c).2 !=0 then(OP,(cR r c).2)else kD u.aF (cR r c).1 c.nr a r.cond (.mk 1 0 0 0 0 []):=by unfold ep;rw[h1]
  rw[g]at h⊢;cases b:(cR r c).2 !=0<;>rw[b]at h
  .have b:(cR r c).2=0:=by simpa using b
   refine⟨c,rfl,b,?_⟩;rw[af]at h⊢;match hq:r.cond with
   |[]=>exact⟨rfl,by simp⟩
   |[e]=>
    rw[hq]at h;unfold kD at h⊢;cases h3:(dM u.aF (cR r c).1 e).2 !=0<;>rw[h3]at h
    .exact⟨rfl,fun x f=>by simp at f;subst f;simpa using h3⟩
    .rw[aj]at h;rw[h]at h3;simp at h3
   |_::_::_=>rw[hq]at d;simp at d
  .rw[aj]at h;rw[h]at b;simp at b
def Jq(v:PrU u)(w:PI u)(h:eC u aq = .ok i):V0 i:=by
 let Q:cK->Prop:=fun x=>x.bj.length<=12/\∀r∈x.bj,PrR r/\r.cond.length<=1
 let P:Bd->Prop:=fun b=>et b.cond<=2^10/\0<=b.nr/\b.nr<4294967296
 have t:∀r,Yg r->r.cond.length<=1:=fun r h=>by
  rcases h.cond with e|⟨z,e,-⟩<;>rw[e]<;>simp
 obtain⟨j,y⟩:=BH (Q:=Q) (P:=P) (n:=12) (fun x h=>h) (fun p l x g _=>by
  obtain⟨-,-,a⟩:=v.aA p l;exact⟨(a x g).rl,fun r d=>⟨(a x g).bj r d,t r (((w.aA p l).2 x g).bj r d)⟩⟩) (fun p k=>⟨k.1,fun r d m=>by
   obtain⟨a,o⟩:=k.2 r d;obtain⟨c,q,-,s,-⟩:=xn o m;rw[s];refine⟨?_,Um q⟩;match hc:r.cond with
   |[]=>exact(by decide:et (.mk 1 0 0 0 0 [])<=2^10)
   |e::_=>
    have:=BE u.aF (cR r c).1 e;have:=(a.cond e (by rw[hc];simp)).2.2
    simp only;omega⟩) h
 exact⟨by omega,fun b f=>(j b f).1,fun b f=>(j b f).2⟩
end Go.Ac.S4
end
