/-
Part 5 of the proof: lemmas; no conditions of their own beyond those that they state.
-/
import Derived.Test.YtifcddmbgnmnjaaGreatDoorPkD
set_option linter.all false
set_option autoImplicit true
section
namespace Go.Ac.S4
open Go Go.Proofs Go.Proofs.Tryz Go.Ac
set_option maxRecDepth 100000
def zZ{α β:Type}(g:α->β)(f:β->β)(h:α->α)(a:∀x,f (g x)=g (h x)):∀(l:List α)(n:Nat),(l.map g).modify n f=(l.modify n h).map g
 |[],n=>by simp
 |x::l,0=>by simp[a]
 |x::l,n+1=>by simp[zZ g f h a l n]
def u5{α:Type}(v:α):∀(l:List α)(n:Nat),l.modify n (fun _=>v)=l.set n v
 |[],n=>by simp
 |x::l,0=>by simp
 |x::l,n+1=>by simp[u5 v l n]
def Fa(c:List Int)(n:Nat)(v:Int):setRow (lO c) n 0 [N v]=lO (c.set n v):=by
 unfold setRow lO;rw[zZ (fun n=>[N n]) (fun r=>putAt r 0 [N v]) (fun _=>v) (fun x=>rfl),u5]
def LL(x:In)(s:Int):Int:=bif E8 x.code then cF .or .i64 s (IntKind.wrap .i64 ((1:Int)*2^(min (Int.toNat x.k) (IntKind.bits .i64))))else s
def C88(x:In)(s:Int)(a:NZ x):ak 88 [LJ x,vN s] [] [vN (LL x s)] []:=by
 have:=a.k;apply W88;exact⟨_,aaI x.code,ae (fun h=>⟨by omega,ai (by rw[LL,h];rfl) rfl⟩) fun h=>ai (by rw[LL,h];rfl) rfl⟩
def sk(x:In)(s:Int):Bool:=bif zV x.code then(cF .and .i64 (Int.fdiv s (2^(min (Int.toNat x.k) (IntKind.bits .i64)))) 1)==0 else false
def B8(x:In)(i:Nat):List Int->List Int->List Int
 |[],a=>a
 |n::t,a=>B8 x i t (a.set n.toNat (cF .and .i64 (a.getD n.toNat 0) (LL x (a.getD i 0))))
def oO(l:List In):List In->Nat->List Int->Int
 |[],_,_ => -1
 |x::t,i,a=>bif !gn l i x then i else bif sk x (a.getD i 0)then i else oO l t (i+1) (B8 x i (fJ x i) a)
def pP(n:Nat):List Int:=(List.replicate n 65535).set 0 0
def Hy(l:List In):Bool:=bif((l.length:Int)==0)then true else(decide ((l.length:Int)>4096))
def C59(l:List In):ak 59 [vL 4 (l.map In.row)] [] [vB (Hy l)] []:=by
 apply W59;rw[ao];exact fi
def jy(l:List In):Int×Bool:=bif Hy l then(0,false)else(oO l l 0 (pP l.length),oO l l 0 (pP l.length)== -1)
def B9(x:In)(i:Nat):∀(b a:List Int),(B8 x i b a).length=a.length
 |[],a=>rfl
 |n::t,a=>by rw[B8,B9 x i t,eH]
def Fb{l:List In}{i:Nat}{x:In}(e:NZ x)(h:gn l i x=true):∀n∈fJ x i,0<=n/\n<l.length:=by
 have c:jx x=true:=by
  unfold gn at h;cases b : !(rr x.code).isSome<;>rw[b]at h
  .cases h2:jx x<;>rw[h2]at h
   .simp at h
  .simp at h
 have d:(fJ x i).all (fun n => !decide (n>=(l.length:Int)))=true:=by
  unfold gn at h;cases b : !(rr x.code).isSome<;>rw[b]at h
  .rw[c]at h
   cases h3 : !xr x<;>rw[h3]at h
   .cases h4:(bif((i:Int)==(l.length:Int)-1)then !qc x.code else false)<;>rw[h4]at h
    .exact h
    .simp at h
   .simp at h
  .simp at h
 intro n a;have b:=bf.1 d n a;refine⟨?_,by simpa using b⟩
 have f:0<=x.jt/\0<=x.jf:=by
  simp[jx,cond_eq_ite]at c;omega
 have:=e.k;unfold fJ at a;cases h6:qc x.code<;>rw[h6]at a
 .cases h5:x.code==5<;>rw[h5]at a
  .cases hjj:cG x.code<;>rw[hjj]at a
   .simp at a;omega
   .simp at a;rcases a with rfl|rfl<;>omega
  .simp at a;omega
 .simp at a
def C60(l:List In)(A:0<l.length)(hl:l.length<=4096)(Q:∀x∈l,NZ x):∃o,ak 60 [vL 4 (l.map In.row),vB true] [] [vN (oO l l 0 (pP l.length)),vL 1 o] []:=by
 have H:(l.map In.row).length=l.length:=ao ..;have pl:∀c:List Int,(lO c).length=c.length:=fun c=>ao ..
 have key:∀(t:List In)(i:Nat)(c:List Int),l.drop i=t->c.length=l.length->∃a,(a = .own 0 0 1 []\/∃o,a=vL 1 o)/\Lp f60 1 (Hn (l.map In.row) true (l.map In.row) l.length i (lO c)) 0 [vN (oO l t i c),a] []:=by
  intro t;induction t with
  |nil=>intro i c b _;exact⟨_,.inr ⟨lO c,rfl⟩,by apply LB;exact aT (l:=l) rfl b fi⟩
  |cons x t z=>
   intro i c b k;obtain⟨d,E,R⟩:=drop_cons b;have g:=Q x (aK d);have v:=C85 l i x (by omega) d g
   cases hr:gn l i x with
   |false=>
    refine⟨_,.inl rfl,?_⟩;apply LB;exact aO (l:=l) rfl b ⟨x.code,x.jt,x.jf,x.k,by omega,aY d,_,v,bF (by rw[hr];rfl) (ai (by rw[oO,hr];rfl) rfl)⟩
   |true=>
    have M:(lO c)[Int.toNat (i:Int)]?=some [N (c.getD i 0)]:=by
     rw[lO,toNat_cast,bp,bk (by omega),bS,bk (by omega)];rfl
    cases hb:sk x (c.getD i 0)with
    |true=>
     refine⟨_,.inl rfl,?_⟩;have p:zV x.code=true:=by unfold sk at hb;cases hq:zV x.code<;>rw[hq]at hb<;>simp at hb⊢
     have Y:((cF .and .i64 (Int.fdiv (c.getD i 0) (2^(min (Int.toNat x.k) (IntKind.bits .i64)))) 1)==0)=true:=by unfold sk at hb;rw[p]at hb;exact hb
     have:=g.k;apply LB;exact aO (l:=l) rfl b ⟨x.code,x.jt,x.jf,x.k,by omega,aY d,_,v,aW (by rw[hr];rfl) (bF rfl ⟨_,C86 x.code,bF p ⟨⟨by omega,by rw[pl];omega⟩,c.getD i 0,by rw[M];rfl,by omega,bF Y (ai (by rw[oO,hr,hb];rfl) rfl)⟩⟩)⟩
    |false=>
     obtain⟨a,y,K⟩:=z (i+1) (B8 x i (fJ x i) c) E ((B9 x i _ c).trans k);refine⟨a,y,?_⟩;have a0:(fJ x i).length<=2:=by
      unfold fJ;cases qc x.code
      .cases x.code==5
       .cases cG x.code<;>simp
       .simp
      .simp
     have Z:=Fb g hr;have inner:∀(u:List Int)(j:Nat)(c:List Int){r:List AV}{q:List Bx},(fJ x i).drop j=u->c.length=l.length->Lp f60 1 (Hn (l.map In.row) true (l.map In.row) l.length ((i:Int)+1) (lO (B8 x i u c))) 0 r q ->
       Lp f60 2 (zQ (l.map In.row) true i (l.map In.row) l.length i (lO (fJ x i)) (fJ x i).length j (lO c) x.code x.jt x.jf x.k) 0 r q:=by
      intro u;induction u with
      |nil=>intro j c r q s k K;apply Vz;exact aT (l:=fJ x i) rfl s ⟨aB,K⟩
      |cons n u F=>
       intro j c r q s k K;obtain⟨G,T,j3⟩:=drop_cons s;obtain⟨h,X⟩:=Z n (aK G);have I:∀m:Int,0<=m->m<l.length->((lO c)[Int.toNat m]?).bind (·[0]?)=some (N (c.getD m.toNat 0)):=fun m d E=>by
        rw[lO,bp,bk (by omega),bS,bk (by omega)];rfl
       apply Vz;refine aO (l:=fJ x i) rfl s ⟨n,by omega,aY (f:=fun n=>[N n]) G,⟨h,by rw[pl];omega⟩,_,I n h X,⟨by omega,by rw[pl];omega⟩,_,I i (by omega) (by omega),_,C88 x _ g,⟨h,by rw[pl];omega⟩,by omega,aB,?_⟩
       rw[Fa];exact F (j+1) _ T (by rw[eH];exact k) K
     have D:=C87 x i g ⟨by omega,by omega⟩
     have J:Lp f60 2 (zQ (l.map In.row) true i (l.map In.row) l.length i (lO (fJ x i)) (lO (fJ x i)).length 0 (lO c) x.code x.jt x.jf x.k) 0 [vN (oO l (x::t) i c),a] []:=by
      rw[pl];refine inner (fJ x i) 0 c rfl k ?_;rw[oO,hr,hb];exact K
     have:=g.k;apply LB;refine aO (l:=l) rfl b ⟨x.code,x.jt,x.jf,x.k,by omega,aY d,_,v,aW (by rw[hr];rfl) (bF rfl ⟨_,C86 x.code,ae (fun p=>⟨⟨by omega,by rw[pl];omega⟩,c.getD i 0,by rw[M];rfl,by omega,aW ?_ ⟨_,D,J⟩⟩) fun p=>⟨_,D,J⟩⟩)⟩
     unfold sk at hb;rw[p]at hb;exact hb
 obtain⟨a,y,K⟩:=key l 0 (pP l.length) rfl (by simp[pP])
 have fill:∀(m i:Nat),i+m=l.length->Lp f60 0 (LA (l.map In.row) true l.length i (lO (List.replicate i 65535++List.replicate m 0))) 0 [vN (oO l l 0 (pP l.length)),a] []:=by
  intro m;induction m with
  |zero=>
   intro i b;apply Vy;refine aW (cf (by omega)) ⟨⟨by omega,by rw[pl];simp;omega⟩,by omega,?_⟩
   rw[Fa,H,List.replicate_zero,eG,show i=l.length by omega]
   exact K
  |succ m z=>
   intro i b;apply Vy;refine bF (bI (by omega)) ⟨⟨by omega,by rw[pl];simp;omega⟩,by omega,aB,?_⟩
   have:=z (i+1) (by omega)
   rw[Fa,toNat_cast];have e:(List.replicate i (65535:Int)++List.replicate (m+1) 0).set i 65535=List.replicate (i+1) 65535++List.replicate m 0:=by
    rw[List.set_append_right _ _ (by simp),List.length_replicate,kZ,List.replicate_succ,List.set_cons_zero,List.replicate_succ',bn]
    rfl
   rw[e];exact this
 have w:ak 60 [vL 4 (l.map In.row),vB true] [] [vN (oO l l 0 (pP l.length)),a] []:=by
  apply W60;rw[H];refine⟨rfl,by omega,by omega,?_⟩
  have:=fill l.length 0 (by omega)
  have e:(List.replicate (Int.toNat (l.length:Int)) [N 0]:Rw)=lO (List.replicate 0 65535++List.replicate l.length 0):=by simp[lO]
  rw[e,pl];simpa using this
 rcases y with rfl|⟨o,rfl⟩
 .exact⟨[],Go.Ac.ak.soft w rfl⟩
 .exact⟨o,w⟩
def C35(l:List In)(b:∀x∈l,NZ x):ak 35 [vL 4 (l.map In.row)] [] [vN (jy l).1,vB (jy l).2] []:=by
 apply W35;refine⟨_,C59 l,ae (fun h=>ai (by rw[jy,h];rfl) rfl) fun h=>?_⟩
 have a:0<l.length/\l.length<=4096:=by
  unfold Hy at h;cases h1:(l.length:Int)==0<;>rw[h1]at h
  .have:=bH h
   simp at h1;have:l.length≠0:=fun e=>h1 (gS.1 e)
   omega
  .simp at h
 obtain⟨d,c⟩:=C60 l a.1 a.2 b;exact⟨_,_,c,ai (by rw[jy,h];rfl) rfl⟩
section
def fe(ch:Int)(l:List Sy):List Sy:=bif ch==0 then l else l.dropWhile fun x=>x.label !=ch
def R2(c:Int):Bool:=bif c==21 then true else bif c==37 then true else c==53
def iE(c a k:Int):Bool:=bif c==21 then a==k else bif c==37 then decide (a>k)else decide (a>=k)
def Ns(a k:Int):Int:=cF .and .u32 a k
inductive AX (wd:Int->Int):List Sy->Int->Int->Nat->Prop
 |ld {x t A v n}:x.code=32->AX wd t (wd x.k) v n->AX wd (x::t) A v (n+1)
 |an {x t A v n}:x.code=84->AX wd t (Ns A x.k) v n->AX wd (x::t) A v (n+1)
 |tx {x t A v n}:x.code=135->AX wd t 0 v n->AX wd (x::t) A v (n+1)
 |rt {x t A}:x.code=6->AX wd (x::t) A x.k 1
 |ja {x t A v n}:x.code=5->AX wd (fe x.t t) A v n->AX wd (x::t) A v (n+1)
 |jp {x t A v n}:R2 x.code=true->AX wd (fe (bif iE x.code A x.k then x.t else x.f) t) A v n->AX wd (x::t) A v (n+2)
def ru(wd:Int->Int)(l:List Sy)(v:Int):Prop:=∀A,∃n,AX wd l A v n
variable {wd:Int->Int}
def R3(l:List Sy):fe 0 l=l:=rfl
def mY{ch:Int}{s rest:List Sy}(a:ch≠0)(h:∀x∈s,x.label≠ch):fe ch (s++rest)=fe ch rest:=by
 have e:(ch==0)=false:=by simpa using a
 unfold fe;rw[e,af,af];induction s with
 |nil=>rfl
 |cons x s d=>
  have b:(x.label !=ch)=true:=by simpa using h x aS
  rw[di,List.dropWhile_cons,aF b];exact d fun y c=>h y (aP _ c)
def mf{ch:Int}{x:Sy}{t:List Sy}(h:x.label=ch):fe ch (x::t)=x::t:=by
 unfold fe;cases ch==0
 .rw[af,List.dropWhile_cons,aI (by simp[h])]
 .rfl
def z1(h:Hf):Int:=IntKind.wrap .u32 (xq h)
def u6(wd:Int->Int)(h:Hf):Int:=bif h.mask !=4294967295 then Ns (wd (z1 h)) h.mask else wd (z1 h)
def Iv(wd:Int->Int)(h:Hf):Bool:=bif qb h.op then !iE (ic h.op) (u6 wd h) h.value else iE (ic h.op) (u6 wd h) h.value
def J9(h:Hf)(y n:Int):Sy:=bif qb h.op then⟨0,n,y,ic h.op,h.value⟩else⟨0,y,n,ic h.op,h.value⟩
def Bh(ch:Int)(h:Hf)(y n:Int):List Sy:=bif h.mask !=4294967295 then[⟨ch,0,0,32,z1 h⟩,⟨0,0,0,84,h.mask⟩,J9 h y n]else[⟨ch,0,0,32,z1 h⟩,J9 h y n]
def wm(w:Wr)(h:Hf)(y n:Int):testW w h y n={w with l:=w.l++Bh w.label h y n,label:=0}:=by
 unfold testW iW Bh J9;cases h.mask !=4294967295<;>cases qb h.op<;>simp[eL,z1]
def Ca(op:Int):R2 (ic op)=true:=by
 unfold ic;cases op==1<;>cases op==2<;>cases op==5<;>cases op==4<;>rfl
def R4{h:Hf}{y n:Int}{rest:List Sy}{v:Int}{m:Nat}(H:AX wd (fe (bif Iv wd h then y else n) rest) (u6 wd h) v m):AX wd (J9 h y n::rest) (u6 wd h) v (m+2):=by
 unfold Iv at H;unfold J9;cases ht:qb h.op<;>rw[ht]at H
 .exact .jp (Ca _) H
 .refine .jp (Ca _) ?_
  rw[aj]at H;show AX wd (fe (bif iE (ic h.op) (u6 wd h) h.value then n else y) rest) _ _ _
  cases hj:iE (ic h.op) (u6 wd h) h.value<;>rw[hj]at H<;>exact H
def z6(ch:Int){h:Hf}{y n:Int}{rest:List Sy}{v:Int}(H:ru wd (fe (bif Iv wd h then y else n) rest) v):ru wd (Bh ch h y n++rest) v:=by
 intro A;obtain⟨m,b⟩:=H (u6 wd h);have a:=R4 b;unfold Bh;have e:u6 wd h=bif h.mask !=4294967295 then Ns (wd (z1 h)) h.mask else wd (z1 h):=rfl;cases hk:h.mask !=4294967295<;>rw[hk]at e
 .rw[e]at a
  exact⟨_,.ld rfl a⟩
 .rw[e]at a
  exact⟨_,.ld rfl (.an rfl a)⟩
def Hd(ch:Int)(s:List Sy):Prop:=s=[]\/∃x t,s=x::t/\x.label=ch/\∀y∈t,y.label=0
def Hd.mem{ch:Int}{s:List Sy}(h:Hd ch s):∀x∈s,x.label=0\/x.label=ch:=by
 rcases h with rfl|⟨x,t,rfl,b,c⟩
 .simp
 .intro y a
  rcases aU.1 a with rfl|a
  .exact .inr b
  .exact .inl (c y a)
def Hd.app{ch:Int}{s u:List Sy}(h:Hd ch s)(e:s≠[])(d:Hd 0 u):Hd ch (s++u):=by
 rcases h with rfl|⟨x,t,rfl,b,c⟩
 .exact(e rfl).elim
 .refine .inr ⟨x,t++u,rfl,b,fun y a=>?_⟩
  rcases bC.1 a with a|a
  .exact c y a
  .rcases d.mem y a with h|h<;>exact h
def Hd.goto{ch:Int}{s rest:List Sy}(h:Hd ch s)(b:s≠[]):fe ch (s++rest)=s++rest:=by
 rcases h with rfl|⟨x,t,rfl,a,c⟩
 .exact(b rfl).elim
 .exact mf a
def l7(ch:Int)(h:Hf)(y n:Int):Hd ch (Bh ch h y n)/\Bh ch h y n≠[]:=by
 have a:(J9 h y n).label=0:=by unfold J9;cases qb h.op<;>rfl
 unfold Bh;cases h.mask !=4294967295
 .exact⟨.inr ⟨_,_,rfl,rfl,by simp[a]⟩,by simp⟩
 .exact⟨.inr ⟨_,_,rfl,rfl,by simp[a]⟩,by simp⟩
def mZ(n yes no next:Int):Int->List Hf->Int->List Sy
 |_,[],_=>[]
 |ch,h::t,i=>(bif decide (i<n-1)then Bh ch h 0 no else bif no==next then Bh ch h yes 0 else Bh ch h yes no)++mZ n yes no next 0 t (i+1)
def Hz(n yes no next:Int):∀(t:List Hf)(i:Int)(w:Wr),ts n yes no next t i w={w with l:=w.l++mZ n yes no next w.label t i,label:=bif t.isEmpty then w.label else 0}
 |[],i,w=>by simp[ts,mZ]
 |h::t,i,w=>by
  rw[ts,mZ,Hz n yes no next t];cases decide (i<n-1)
  .cases no==next
   .simp[wm]
   .simp[wm]
  .simp[wm]
def ry(n yes no next:Int):∀(t:List Hf)(ch i:Int),Hd ch (mZ n yes no next ch t i)/\(t≠[]->mZ n yes no next ch t i≠[])
 |[],ch,i=>⟨.inl rfl,fun h=>(h rfl).elim⟩
 |h::t,ch,i=>by
  have a:=(ry n yes no next t 0 (i+1)).1;rw[mZ];cases decide (i<n-1)
  .cases no==next
   .exact⟨(l7 ch h yes no).1.app (l7 ch h yes no).2 a,fun _=>by simp[(l7 ch h yes no).2]⟩
   .exact⟨(l7 ch h yes 0).1.app (l7 ch h yes 0).2 a,fun _=>by simp[(l7 ch h yes 0).2]⟩
  .exact⟨(l7 ch h 0 no).1.app (l7 ch h 0 no).2 a,fun _=>by simp[(l7 ch h 0 no).2]⟩
def Cb{n yes no next:Int}{rest:List Sy}{v:Int}(b:no≠0)(c:(no==next)=true->fe no rest=rest):∀(t:List Hf)(ch i:Int),t≠[]->i+t.length=n ->
  ru wd (fe (bif t.all (Iv wd)then yes else no) rest) v->ru wd (mZ n yes no next ch t i++rest) v
 |[],_,_,h,_,_=>(h rfl).elim
 |[h],ch,i,_,a,H=>by
  simp only[aC,cO]at a;rw[mZ,mZ,cf (by omega),af,eG]
  rw[bE,mi,Bool.and_true]at H;cases hb:no==next
  .exact z6 ch H
  .refine z6 ch ?_
   cases hh:Iv wd h<;>rw[hh]at H
   .rw[af,c hb]at H;exact H
   .exact H
 |h::g::t,ch,i,_,a,H=>by
  simp only[aC]at a;rw[mZ,bI (by omega),aj,bn]
  refine z6 ch ?_;have z:=(ry n yes no next (g::t) 0 (i+1)).1.mem;rw[bE]at H;cases hh:Iv wd h<;>rw[hh]at H
  .rw[af,mY b fun x d=>by rcases z x d with h|h<;>rw[h]<;>exact fun e=>b e.symm]
   exact H
  .exact Cb b c (g::t) 0 (i+1) (by simp) (by simp only[aC];omega) H
def tC(ch:Int)(l:List Hf)(yes no next:Int):List Sy:=(bif(bif(l.length:Int)==0 then yes !=0 else false)then[⟨ch,yes,0,5,0⟩]else[])++mZ l.length yes no next ch l 0
def Bi(ch:Int)(l:List Hf)(yes:Int):Int:=bif l.isEmpty then(bif yes !=0 then 0 else ch)else 0
def wY(w:Wr)(l:List Hf)(yes no next:Int):dh w l yes no next={w with l:=w.l++tC w.label l yes no next,label:=Bi w.label l yes}:=by
 unfold dh tC Bi;rw[Hz];cases l with
 |nil=>cases hy:yes !=0<;>simp[eL,mZ]
 |cons h t=>simp;rw[show((t.length:Int)+1==0)=false from by simp;omega];simp
def LM(ch:Int)(l:List Hf)(yes no next:Int):Hd ch (tC ch l yes no next):=by
 unfold tC;cases l with
 |nil=>
  rw[mZ,eG];cases yes !=0
  .exact .inl rfl
  .exact .inr ⟨_,_,rfl,rfl,by simp⟩
 |cons h t=>
  rw[show(((h::t).length:Int)==0)=false from by simp only[aC];simp;omega]
  exact(ry _ yes no next (h::t) ch 0).1
def HA(ch:Int){l:List Hf}{yes no next:Int}{rest:List Sy}{v:Int}(b:no≠0)(a:(no==next)=true->fe no rest=rest)(H:ru wd (fe (bif l.all (Iv wd)then yes else no) rest) v):
  ru wd (tC ch l yes no next++rest) v:=by
 unfold tC;cases l with
 |nil=>
  rw[mZ,eG];rw[mi,aj]at H;cases hy:yes !=0
  .have:yes=0:=by simpa using hy
   rw[this]at H;exact H
  .intro A
   obtain⟨n,a⟩:=H A;exact⟨_,.ja rfl a⟩
 |cons h t=>
  rw[show(((h::t).length:Int)==0)=false from by simp only[aC];simp;omega]
  exact Cb b a (h::t) ch 0 (by simp) (by simp) H
def R5{ch:Int}{l:List Hf}{yes no next:Int}(h:Bi ch l yes≠0):tC ch l yes no next=[]/\Bi ch l yes=ch:=by
 unfold Bi at h⊢;unfold tC;cases l with
 |nil=>
  cases hy:yes !=0
  .exact⟨rfl,rfl⟩
  .rw[hy]at h;exact(h rfl).elim
 |cons a t=>exact(h rfl).elim
def z7(wd:Int->Int)(l:List (List Hf)):Bool:=l.any fun c=>c.all (Iv wd)
abbrev pQ(a:Act):Int:=(bV a).1
def u7(w:Wr)(ch:Int):cy w ch={w with l:=w.l++(bif w.label !=0 then[⟨w.label,0,0,135,0⟩]else[]),label:=ch}:=by
 unfold cy;cases w.label !=0<;>simp[eL]
def Uk{a:List Sy}{ch k b:Int}{rest:List Sy}(h:a=bif ch !=0 then[⟨ch,0,0,135,0⟩]else[]):ru wd (a++⟨b,0,0,6,k⟩::rest) k:=by
 intro A;subst h;cases ch !=0
 .exact⟨_,.rt rfl⟩
 .exact⟨_,.tx rfl (.rt rfl)⟩
structure ai4 (wd:Int->Int) (s:Sp) (act en:Int) (t:List (List Hf)) (w w':Wr) (Cc:List Sy):Prop where
 l:w'.l=w.l++Cc
 up:w.az<=w'.az
 vI:w'.label=en
 ch:∀x∈Cc,x.label=0\/x.label=w.label\/x.label=act\/(w.az<x.label/\x.label<=w'.az)
 head:∀rest,fe w.label (Cc++rest)=Cc++rest
 VG:∀rest,ru wd (fe act (Cc++rest)) (pQ s.act)
 yes:z7 wd t=true->∀rest,fe en rest=rest->ru wd (Cc++rest) (pQ s.act)
 no:z7 wd t=false->∀rest v,fe en rest=rest->ru wd rest v->ru wd (Cc++rest) v
def HB(s:Sp)(c d:Int)(p:0<c)(q:0<d)(K:c≠d):∀(t:List (List Hf))(i:Int)(w:Wr),t≠[]->0<=i->i+t.length=s.cl.length->0<=w.label->w.label<=w.az->w.label≠c->w.label≠d->c<=w.az->d<=w.az ->
  ∃J,ai4 wd s c d t w (wj s c d t i w) J
 |[],_,_,h,_,_,_,_,_,_,_,_=>(h rfl).elim
 |[x],i,w,_,a0,E,T,X,Y,Z,F,R=>by
  simp only[aC,cO]at E;have e:(i==(s.cl.length:Int)-1)=true:=by rw[beq_iff_eq];omega
  rw[wj,e,aj,zL,bI (by omega),aj,wY,u7,nk,u7]
  have k:=LM w.label x 0 d 0;have M:=R5 (ch:=w.label) (l:=x) (yes:=0) (no:=d) (next:=0);generalize D:tC w.label x 0 d 0=cs at*;generalize z:Bi w.label x 0=lb at*;have o:∀rest v,ru wd (fe (bif x.all (Iv wd)then 0 else d) rest) v->ru wd (cs++rest) v:=fun rest v H=>by
   rw[<-D];refine HA w.label (jL q) (fun h=>?_) H
   exact absurd (eq_of_beq h) (jL q)
  have G:lb=0\/lb=w.label:=by
   by_cases n:lb=0
   .exact .inl n
   .exact .inr (M n).2
  have I:∀y∈(bif lb !=0 then[(⟨lb,0,0,135,0⟩:Sy)]else[]),y.label=lb:=by
   cases lb !=0
   .simp
   .simp
  refine⟨cs++((bif lb !=0 then[⟨lb,0,0,135,0⟩]else[])++[⟨c,0,0,6,pQ s.act⟩]),?_,?_,rfl,?_,?_,?_,?_,?_⟩
  .simp[eL,dn,D,z]
  .simp[eL,dn];omega
  .intro y b
   rcases bC.1 b with b|b
   .rcases k.mem y b with h|h
    .exact .inl h
    .exact .inr (.inl h)
   .rcases bC.1 b with b|b
    .have:=I y b
     rcases G with h|h
     .exact .inl (this.trans h)
     .exact .inr (.inl (this.trans h))
    .simp at b;subst b;exact .inr (.inr (.inl rfl))
  .intro rest
   by_cases n:w.label=0
   .rw[n];rfl
   .by_cases r:cs=[]
    .cases j:lb !=0
     ·
      have j:lb=0:=by simpa using j
      exfalso;rw[<-z]at j;rw[<-D]at r;unfold Bi at j;cases x with
      |nil=>exact n j
      |cons a t=>exact(ry _ _ _ _ (a::t) w.label 0).2 (by simp) (List.append_eq_nil_iff.1 r).2
     .have j:lb≠0:=by simpa using j
      rw[r];exact mf (M j).2
    .rw[bn];exact k.goto r
  .intro rest
   rw[bn,bn,mY (jL p) fun y b=>?_,mY (jL p) fun y b=>?_]
   .show ru wd (fe c (⟨c,0,0,6,pQ s.act⟩::rest)) _
    rw[mf (x:=⟨c,0,0,6,pQ s.act⟩) rfl];exact fun A=>⟨_,.rt rfl⟩
   .rw[I y b];rcases G with h|h<;>omega
   .rcases k.mem y b with h|h<;>rw[h]<;>omega
  .intro f rest m
   rw[bn];refine o _ _ ?_;rw[show x.all (Iv wd)=true by simpa[z7]using f,aj,R3,bn]
   exact Uk rfl
  .intro f rest v m H
   rw[bn];refine o _ _ ?_;rw[show x.all (Iv wd)=false by simpa[z7]using f,af,mY (jL q) fun y b=>?_,m]
   .exact H
   .rcases bC.1 b with b|b
    .rw[I y b];rcases G with h|h<;>omega
    .simp at b;subst b;exact K
 |x::x2::t,i,w,_,a0,E,T,X,Y,Z,F,R=>by
  simp only[aC]at E;have e:(i==(s.cl.length:Int)-1)=false:=by rw[fo];omega
  have Q:Bi w.label x c=0:=by
   unfold Bi;rw[show(c !=0)=true by simp;omega]
   cases x<;>rfl
  have hw:cy (dh (dn w) x c (w.az+1) (w.az+1)) (w.az+1)=⟨w.l++tC w.label x c (w.az+1) (w.az+1),w.az+1,w.az+1⟩:=by
   rw[wY,u7];show(⟨_,_,_⟩:Wr)=_
   rw[show Bi (dn w).label x c=0 from Q]
   simp[dn]
  rw[wj,e,af,hw];obtain⟨J,h⟩:=HB s c d p q K (x2::t) (i+1) ⟨w.l++tC w.label x c (w.az+1) (w.az+1),w.az+1,w.az+1⟩ (by simp) (by omega) (by simp only[aC];omega) (by show(0:Int)<=w.az+1;omega) (dY _) (by show w.az+1≠c;omega) (by show w.az+1≠d;omega) (by show c<=w.az+1;omega) (by show d<=w.az+1;omega)
  have z:=h.l;have a2:w.az+1<=_:=h.up;have k:=LM w.label x c (w.az+1) (w.az+1);have o:∀rest v,fe (w.az+1) rest=rest->ru wd (fe (bif x.all (Iv wd)then c else w.az+1) rest) v->ru wd (tC w.label x c (w.az+1) (w.az+1)++rest) v:=fun rest v hg H=>HA w.label (by omega) (fun _=>hg) H
  have a1:tC w.label x c (w.az+1) (w.az+1)≠[]:=by
   unfold tC;cases x with
   |nil=>
    rw[show(c !=0)=true by simp;omega]
    simp
   |cons a u=>exact fun hn=>(ry _ _ _ _ (a::u) w.label 0).2 (by simp) (List.append_eq_nil_iff.1 hn).2
  generalize tC w.label x c (w.az+1) (w.az+1)=cs at*;refine⟨cs++J,?_,by omega,h.vI,?_,?_,?_,?_,?_⟩
  .rw[z];simp
  .intro y b
   rcases bC.1 b with b|b
   .rcases k.mem y b with h|h
    .exact .inl h
    .exact .inr (.inl h)
   .rcases h.ch y b with g|g|g|g
    .exact .inl g
    .have g:y.label=w.az+1:=g
     exact .inr (.inr (.inr ⟨by omega,by omega⟩))
    .exact .inr (.inr (.inl g))
    .have g:w.az+1<y.label/\_:=g
     exact .inr (.inr (.inr ⟨by omega,g.2⟩))
  .intro rest
   rw[bn];exact k.goto a1
  .intro rest
   rw[bn,mY (jL p) fun y b=>?_]
   .exact h.VG rest
   .rcases k.mem y b with h|h<;>rw[h]<;>omega
  .intro f rest m
   rw[bn];refine o _ _ (h.head rest) ?_;cases hxa:x.all (Iv wd)
   .rw[af,h.head rest]
    refine h.yes ?_ rest m;unfold z7 at f⊢;rw[iP,hxa,mj]at f;exact f
   .exact h.VG rest
  .intro f rest v m H
   unfold z7 at f;rw[iP,De]at f;rw[bn];refine o _ _ (h.head rest) ?_;rw[f.1,af,h.head rest];exact h.no f.2 rest v m H
def dV(wd:Int->Int)(a:Act):List Sp->Act
 |[]=>a
 |s::t=>bif z7 wd s.cl then s.act else dV wd a t
structure ai5 (wd:Int->Int) (a:Act) (t:List Sp) (w w':Wr) (Cc:List Sy):Prop where
 l:w'.l=w.l++Cc
 up:w.az<=w'.az
 vI:w'.label=0
 ch:∀x∈Cc,x.label=0\/x.label=w.label\/(w.az<x.label/\x.label<=w'.az)
 head:∀rest,fe w.label (Cc++rest)=Cc++rest
 run:∀rest,ru wd (Cc++rest) (pQ (dV wd a t))
 one:t=[]->∀rest A,AX wd (Cc++rest) A (pQ a) 1
def z8(a:Act):∀(t:List Sp)(w:Wr),(∀s∈t,s.cl≠[])->0<=w.label->w.label<=w.az->∃d,ai5 wd a t w (rq a t w) d
 |[],w,_,e,i=>by
  refine⟨[⟨w.label,0,0,6,pQ a⟩],rfl,dY _,rfl,?_,fun rest=>mf rfl,fun rest A=>⟨_,.rt rfl⟩,fun _ rest A=>.rt rfl⟩
  intro x b;simp at b;subst b;exact .inr (.inl rfl)
 |s::t,w,f,e,i=>by
  have l:=f s aS;obtain⟨d,h⟩:=HB (wd:=wd) s (w.az+1) (w.az+1+1) (by omega) (by omega) (by omega) s.cl 0 (dn (dn w)) l (dY 0) (by omega) e (by show w.label<=w.az+1+1;omega) (by show w.label≠w.az+1;omega) (by show w.label≠w.az+1+1;omega) (by show w.az+1<=w.az+1+1;omega) (dY _)
  rw[rq];have m:B6 w s=wj s (w.az+1) (w.az+1+1) s.cl 0 (dn (dn w)):=rfl;rw[<-m]at h;have n:w.az+1+1<=(B6 w s).az:=h.up;obtain⟨o,g⟩:=z8 a t (B6 w s) (fun x b=>f x (aP _ b)) (by rw[h.vI];omega) (by rw[h.vI];exact n)
  have p:=g.up;have c:=g.head;rw[h.vI]at c;refine⟨d++o,?_,by omega,g.vI,?_,?_,?_,fun j=>by simp at j⟩
  .rw[g.l,h.l];simp[dn]
  .intro x b
   rcases bC.1 b with b|b
   .rcases h.ch x b with k|k|k|k
    .exact .inl k
    .exact .inr (.inl k)
    .exact .inr (.inr ⟨by omega,by omega⟩)
    .have k:w.az+1+1<x.label/\_:=k
     exact .inr (.inr ⟨by omega,by omega⟩)
   .rcases g.ch x b with k|k|k
    .exact .inl k
    .rw[h.vI]at k;exact .inr (.inr ⟨by omega,by omega⟩)
    .exact .inr (.inr ⟨by omega,k.2⟩)
  .intro rest
   rw[bn];exact h.head _
  .intro rest
   rw[bn,dV];cases b:z7 wd s.cl
   .exact h.no b _ _ (c rest) (g.run rest)
   .exact h.yes b _ (c rest)
def eM:List Sn->Int->Int->Prop
 |[],a,b=>a=b
 |x::t,a,b=>x.lo=a/\x.lo<=x.hi/\eM t (x.hi+1) b
def oP:∀{l:List Sn}{a b:Int},eM l a b->a<=b/\∀x∈l,a<=x.lo/\x.hi<b
 |[],a,b,h=>⟨Int.le_of_eq h,by simp⟩
 |x::t,a,b,⟨f,g,d⟩=>by
  obtain⟨i,e⟩:=oP d;refine⟨by omega,fun y c=>?_⟩
  rcases aU.1 c with rfl|c
  .exact⟨by omega,by omega⟩
  .have:=e y c;omega
def tD:∀{p q:List Sn}{a b:Int},eM (p++q) a b->∃m,eM p a m/\eM q m b
 |[],q,a,b,h=>⟨a,rfl,h⟩
 |x::p,q,a,b,⟨c,d,e⟩=>by
  obtain⟨m,f,g⟩:=tD e;exact⟨m,⟨c,d,f⟩,g⟩
structure ai6 (wd:Int->Int) (ls:List Sn) (w w':Wr) (Cc:List Sy):Prop where
 l:w'.l=w.l++Cc
 up:w.az<=w'.az
 vI:w'.label=0
 ch:∀x∈Cc,x.label=0\/x.label=w.label\/(w.az<x.label/\x.label<=w'.az)
 head:∀rest,fe w.label (Cc++rest)=Cc++rest
 run:∀a b,eM ls a b->∀x∈ls,∀nr,x.lo<=nr->nr<=x.hi->∀rest,∃c,AX wd (Cc++rest) nr (pQ (dV wd x.act x.steps)) c/\(x.steps=[]->∀D,ls.length<=2^D->c<=1+2*D)
def rz:∀(n:Nat)(l:List Sn)(w:Wr),l≠[]->l.length<=n->(∀x∈l,∀s∈x.steps,s.cl≠[])->0<=w.label->w.label<=w.az->∃M,ai6 wd l w (eV n l w) M
 |0,l,w,I,hn,_,_,_=>(I (gS.1 (by omega))).elim
 |n+1,l,w,I,hn,H,A,R=>by
  rw[eV];cases hd:(l.length:Int)==1
  .have a1:1<=l.length:=by cases l with|nil=>exact(I rfl).elim|cons=>simp
   have a4:=gr hd;have dl:(l.drop (l.length/2)).length=l.length-l.length/2:=hK ..;have X:(l.take (l.length/2)).length=l.length/2:=by simp;omega
   have e:=xF (l.length/2) l;have G:∃y q,l.drop (l.length/2)=y::q/\l.getD (l.length/2) gy=y:=by
    have F:l.length/2<l.length:=by omega
    exact⟨l[l.length/2],_,xJ F,by rw[bS,bk F];rfl⟩
   obtain⟨y,q,G,u⟩:=G;rw[u];generalize hp:l.take (l.length/2)=p at*;generalize hr:l.drop (l.length/2)=r at*;subst G;simp only[af];obtain⟨v,i⟩:=rz n p (eL (dn w) (w.az+1) 0 53 y.lo) (by intro h;rw[h]at X;simp at X;omega) (by omega) (fun x d=>H x (by rw[<-e];exact dL _ d)) (dY 0) (by show(0:Int)<=w.az+1;omega)
   generalize a2:eV n p (eL (dn w) (w.az+1) 0 53 y.lo)=w1 at*;have u1:w.az+1<=w1.az:=i.up;have a0:cy w1 (w.az+1)={w1 with label:=w.az+1}:=by rw[u7,i.vI];simp
   rw[a0];obtain⟨g,j⟩:=rz n (y::q) {w1 with label:=w.az+1} (by simp) (by omega) (fun x d=>H x (by rw[<-e];exact eT _ d)) (by show(0:Int)<=w.az+1;omega) u1
   have u2:w1.az<=_:=j.up;have l1:w1.l=(w.l++[⟨w.label,w.az+1,0,53,y.lo⟩])++v:=i.l;refine⟨⟨w.label,w.az+1,0,53,y.lo⟩::(v++g),?_,by omega,j.vI,?_,fun rest=>mf rfl,?_⟩
   .rw[j.l];show w1.l++g=_;rw[l1];simp
   .intro x d
    rcases aU.1 d with rfl|d
    .exact .inr (.inl rfl)
    .rcases bC.1 d with d|d
     .rcases i.ch x d with k|k|k
      .exact .inl k
      .exact .inl k
      .have k:w.az+1<x.label/\_:=k
       exact .inr (.inr ⟨by omega,by omega⟩)
     .rcases j.ch x d with k|k|k
      .exact .inl k
      .have k:x.label=w.az+1:=k
       exact .inr (.inr ⟨by omega,by omega⟩)
      .have k:w1.az<x.label/\_:=k
       exact .inr (.inr ⟨by omega,k.2⟩)
   .intro a b t x d nr Z Y rest
    rw[<-e]at t d;obtain⟨m,Q,E⟩:=tD t;have a3:y.lo=m:=E.1;have k1:=(oP Q).2;have k2:=(oP E).2;have T:(v++g).append rest=v++(g++rest):=bn _ _ _;rcases bC.1 d with d|d
    .have:=k1 x d
     obtain⟨c,J,K⟩:=i.run _ _ Q x d nr Z Y (g++rest);refine⟨c+2,.jp rfl ?_,fun f D o=>?_⟩
     .rw[show iE (53:Int) nr y.lo=false from cf (by omega),af,R3,T]
      exact J
     .cases D with
      |zero=>simp at o;omega
      |succ D=>have:=K f D (by rw[Nat.pow_succ]at o;omega);omega
    .have:=k2 x d
     obtain⟨c,J,K⟩:=j.run _ _ E x d nr Z Y rest;refine⟨c+2,.jp rfl ?_,fun f D o=>?_⟩
     .rw[show iE (53:Int) nr y.lo=true from bI (by omega),aj,T,mY (by show w.az+1≠0;omega) fun z f=>?_]
      .rw[show fe (w.az+1) (g++rest)=g++rest from j.head rest];exact J
      .show z.label≠w.az+1
       rcases i.ch z f with k|k|k
       .omega
       .have k:z.label=0:=k;omega
       .have k:w.az+1<z.label/\_:=k;omega
     .cases D with
      |zero=>simp at o;omega
      |succ D=>have:=K f D (by rw[Nat.pow_succ]at o;omega);omega
  .match l,eq_of_beq hd with
   |[x],_=>
    obtain⟨M,h⟩:=z8 (wd:=wd) x.act x.steps w (H x aS) A R;refine⟨M,h.l,h.up,h.vI,h.ch,h.head,?_⟩;intro a b _ y u nr _ _ rest;simp at u;subst u;by_cases f:y.steps=[]
    .have:=h.one f rest nr
     refine⟨1,?_,fun _ D _=>by omega⟩
     rw[f];exact this
    .obtain⟨c,t⟩:=h.run rest nr
     exact⟨c,t,fun h=>(f h).elim⟩
def m0:∀(l:List Sn)(n:Int),fP l n=true->eM l n 4294967296
 |[],n,h=>eq_of_beq h
 |x::t,n,h=>by
  unfold fP at h;cases h1:(bif x.lo !=n then true else decide (x.hi<x.lo))<;>rw[h1]at h
  .cases h2 : !B5 x<;>rw[h2]at h
   .cases h3:x.lo !=n<;>rw[h3]at h1
    .exact⟨by simpa using h3,by have:=bH h1;omega,m0 t _ h⟩
    .simp at h1
   .simp at h
  .simp at h
def R6{aq:Int}{l:List Sn}{syms:List Sy}(h:fc aq l=(syms,0))(i:∀x∈l,∀s∈x.steps,s.cl≠[])(e:wd 4=aq)(x:Sn)(b:x∈l)(n:x.lo<=wd 0)(m:wd 0<=x.hi):
  ∃c,AX wd syms 0 (pQ (dV wd x.act x.steps)) c/\(x.steps=[]->∀D,l.length<=2^D->c<=5+2*D):=by
 unfold fc at h;cases hr : !fP l 0<;>rw[hr]at h
 .rw[af]at h
  have j:eL (cy (nk (eL (eL (dn ⟨[],0,0⟩) 0 0 32 4) 1 0 21 aq) ⟨1,0⟩) 1) 0 0 32 0=⟨[⟨0,0,0,32,4⟩,⟨0,1,0,21,aq⟩,⟨0,0,0,6,pQ ⟨1,0⟩⟩,⟨1,0,0,32,0⟩],1,0⟩:=rfl;rw[j]at h;obtain⟨o,g⟩:=rz (wd:=wd) l.length l ⟨[⟨0,0,0,32,4⟩,⟨0,1,0,21,aq⟩,⟨0,0,0,6,pQ ⟨1,0⟩⟩,⟨1,0,0,32,0⟩],1,0⟩ (by rintro rfl;simp at b) (ar _) i (dY 0) (by show(0:Int)<=1;decide)
  have h:=(mh h).1;rw[g.l]at h;obtain⟨c,a,d⟩:=g.run _ _ (m0 l 0 (by simpa using hr)) x b (wd 0) n m []
  rw[eG]at a;refine⟨c+1+2+1,?_,fun k D f=>by have:=d k D f;omega⟩
  rw[<-h];refine .ld rfl (.jp rfl ?_);rw[show iE (21:Int) (wd 4) aq=true by rw[e];exact beq_self_eq_true aq]
  exact .ld rfl a
 .have:=(mh h).2;simp at this
end
section
inductive jJ (wd:Int->Int):List In->Int->Int->Nat->Prop
 |ld {x t A v n}:x.code=32->jJ wd t (wd x.k) v n->jJ wd (x::t) A v (n+1)
 |an {x t A v n}:x.code=84->jJ wd t (Ns A x.k) v n->jJ wd (x::t) A v (n+1)
 |tx {x t A v n}:x.code=135->jJ wd t 0 v n->jJ wd (x::t) A v (n+1)
 |rt {x t A}:x.code=6->jJ wd (x::t) A x.k 1
 |ja {x t A v n}:x.code=5->jJ wd (t.drop x.k.toNat) A v n->jJ wd (x::t) A v (n+1)
 |jp {x t A v n}:R2 x.code=true->jJ wd (t.drop (bif iE x.code A x.k then x.jt else x.jf).toNat) A v n->jJ wd (x::t) A v (n+1)
variable {wd:Int->Int}
def jJ.len{l:List In}{A v:Int}{n:Nat}(h:jJ wd l A v n):n<=l.length:=by
 induction h with
 |ld _ _ a=>simp only[aC];omega
 |an _ _ a=>simp only[aC];omega
 |tx _ _ a=>simp only[aC];omega
 |rt _=>simp
 |ja _ _ a=>rw[hK]at a;simp only[aC];omega
 |jp _ _ a=>rw[hK]at a;simp only[aC];omega
def u9(x:Lb)(ch:Int):∀(m:List Lb),l5 (zR x m) ch=bif ch==x.1 then some x else l5 m ch
 |[]=>by
  unfold zR l5;rw[cx];cases ch==x.1<;>rfl
 |y::m=>by
  have a:=u9 x ch m;unfold zR;unfold l5 at a⊢;cases h:x.1==y.1
  .rw[af,cx,cx,a]
   cases h2:ch==y.1
   .rfl
   .cases h3:ch==x.1
    .rfl
    .rw[eq_of_beq h2]at h3
     have:=eq_of_beq h3;rw[this]at h;simp at h
  .rw[aj,cx,cx]
   have e:=eq_of_beq h;rw[<-e];cases ch==x.1<;>rfl
def Cd:∀(t:List Sy)(i:Int)(m:List Lb),(fX t i m).1=true->∀ch y,l5 m ch=some y->l5 (fX t i m).2 ch=some y
 |[],_,_,_,_,_,h=>h
 |x::t,i,m,h,ch,y,a=>by
  unfold fX at h⊢;cases hb:(bif decide (x.label<0)then true else(l5 m x.label).isSome)<;>rw[hb]at h
  .refine Cd t (i+1) _ h ch y ?_
   cases hd:decide (x.label>0)
   .exact a
   .rw[aj,u9]
    cases he:ch==x.label
    .exact a
    .rw[eq_of_beq he]at a
     cases hl:decide (x.label<0)<;>rw[hl]at hb
     .rw[af,a]at hb;simp at hb
     .simp at hb
  .simp at h
def Ce:∀(t:List Sy)(i:Int)(m:List Lb),(fX t i m).1=true->∀(j:Nat)x,t[j]?=some x->x.label>0->l5 (fX t i m).2 x.label=some (x.label,i+j)
 |[],_,_,_,j,x,a,_=>by simp at a
 |z::t,i,m,h,j,x,a,b=>by
  unfold fX at h⊢;cases hb:(bif decide (z.label<0)then true else(l5 m z.label).isSome)<;>rw[hb]at h
  .cases j with
   |zero=>
    simp at a;subst a;refine Cd t (i+1) _ h _ _ ?_;rw[bI b,aj,u9];simp
   |succ j=>
    have:=Ce t (i+1) _ h j x (by simpa using a) b
    rw[af,this];congr 2
    omega
  .simp at h
def Aa:∀(t:List Sy)(i:Int)(m:List Lb)(ch:Int)(y:Lb),l5 (fX t i m).2 ch=some y->l5 m ch=some y\/∃(j:Nat)(x:Sy),t[j]?=some x/\x.label=ch/\y.2=i+j/\ch>0
 |[],_,_,_,_,h=>.inl h
 |z::t,i,m,ch,y,h=>by
  unfold fX at h;cases hb:(bif decide (z.label<0)then true else(l5 m z.label).isSome)<;>rw[hb]at h
  .rcases Aa t (i+1) _ ch y h with h|⟨j,x,a,b,c,d⟩
   .cases hd:decide (z.label>0)<;>rw[hd]at h
    .exact .inl h
    .rw[aj,u9]at h
     cases he:ch==z.label<;>rw[he]at h
     .exact .inl h
     .have e:=eq_of_beq he
      have:=aN hd;simp at h;subst h;exact .inr ⟨0,z,rfl,e.symm,by simp,by omega⟩
   .exact .inr ⟨j+1,x,by simpa using a,b,by rw[c];omega,d⟩
  .exact .inl h
def Nt{l:List Sy}(h:(cY l).1=true):(fX l 0 []).1=true:=(cd (b:=(fX l 0 []).1) h).1
def XW{l:List Sy}(h:(cY l).1=true){ch:Int}{y:Lb}(a:l5 (cY l).2 ch=some y):(∃x,l[y.2.toNat]?=some x/\x.label=ch)/\0<=y.2/\∀(j:Nat)x,l[j]?=some x->x.label=ch->(j:Int)=y.2:=by
 have b:=Nt h;have a:l5 (fX l 0 []).2 ch=some y:=a;rcases Aa l 0 [] ch y a with h|⟨j,x,c,d,f,o⟩
 .simp[l5]at h
 .refine⟨⟨x,by rw[f];simpa using c,d⟩,by omega,fun i m n g=>?_⟩
  have:=Ce l 0 [] b i m n (by omega)
  rw[g,a]at this;have e:=au this;rw[e];simp
def Ul{l:List Sy}(h:(cY l).1=true){i:Nat}{ch:Int}(a:(gX (cY l).2 i ch).2=true):∃n:Nat,(gX (cY l).2 i ch).1=n/\i<n/\fe ch (l.drop (i+1))=l.drop n:=by
 unfold gX at a⊢;cases hl:ch==0<;>rw[hl]at a
 .rw[af]at a⊢
  cases hn:l5 (cY l).2 ch with
  |none=>rw[hn]at a;simp at a
  |some y=>
   rw[hn]at a;have p:=aN a;obtain⟨⟨x,c,g⟩,o,d⟩:=XW h hn;refine⟨y.2.toNat,by show y.2=_;omega,by omega,?_⟩
   have hlen:=(aE.1 c).1;have e:l.drop (i+1)=(l.drop (i+1)).take (y.2.toNat-(i+1))++l.drop y.2.toNat:=by
    have:=(xF (y.2.toNat-(i+1)) (l.drop (i+1))).symm;rw[fj,show i+1+(y.2.toNat-(i+1))=y.2.toNat by omega]at this
    exact this
   rw[e,mY (gr hl) fun z f=>?_]
   .rw[xJ hlen]
    refine mf ?_;rw[<-g,(aE.1 c).2]
   .intro m
    obtain⟨j,b⟩:=Dc f;rw[eS]at b;split at b
    .rename_i q
     rw[jb]at b;have:=d _ _ b m;omega
    .simp at b
 .rw[eq_of_beq hl]
  exact⟨i+1,by show(i:Int)+1=_;omega,by omega,rfl⟩
def tE(k:Lk):∀(t:List Sy)(q:List (Bool×Bool))(i:Nat)(more:Bool),(l6 k t q i more).2=false->more=false/\(l6 k t q i more).1=q
 |[],q,i,more,h=>⟨h,rfl⟩
 |x::t,[],i,more,h=>⟨h,rfl⟩
 |x::t,p::q,i,more,h=>by
  rw[l6]at h⊢;cases hj : !cG x.code<;>rw[hj]at h
  .rw[af]at h⊢
   obtain⟨a,b⟩:=tE k t q (i+1) _ h;cases hf:gP k i (jK k i x.f) p.2<;>rw[hf]at a
   .cases ht:gP k i (jK k i x.t) p.1<;>rw[ht]at a
    .have c:more=false:=a
     subst c;exact⟨rfl,by rw[hf,ht]at b;simp only[af]at b⊢; rw[b]⟩
    .simp at a
   .simp at a
  .rw[aj]at h⊢
   obtain⟨a,b⟩:=tE k t q (i+1) more h;exact⟨a,by show p::_=_;rw[b]⟩
def tF(k:Lk):∀(t:List Sy)(q:List (Bool×Bool))(i:Nat)(more:Bool),(∀(j:Nat)x p,t[j]?=some x->q[j]?=some p->cG x.code=false->p=(false,false))->
  ∀(j:Nat)x p,t[j]?=some x->(l6 k t q i more).1[j]?=some p->cG x.code=false->p=(false,false)
 |[],q,i,more,h,j,x,p,b,_,_=>by simp at b
 |z::t,[],i,more,h,j,x,p,_,a,_=>by simp[l6]at a
 |z::t,r::q,i,more,h,j,x,p,b,a,c=>by
  rw[l6]at a;cases hz : !cG z.code<;>rw[hz]at a
  .cases j with
   |zero=>simp at b;subst b;rw[c]at hz;simp at hz
   |succ j=>exact tF k t q (i+1) _ (fun j=>by have:=h (j+1);simpa using this) j x p (by simpa using b) (by simpa using a) c
  .cases j with
   |zero=>exact h 0 x p b (by simpa using a) c
   |succ j=>exact tF k t q (i+1) _ (fun j=>by have:=h (j+1);simpa using this) j x p (by simpa using b) (by simpa using a) c
structure Nu (l:List Sy) (k:Lk):Prop where
 sl:k.l=l
 qh:k.qh=(cY l).2
 pl:k.place=mV k.ct 0
 fl:k.ct.length=l.length
 plain:∀(j:Nat)x p,l[j]?=some x->k.ct[j]?=some p->cG x.code=false->p=(false,false)
structure ai7 (l:List Sy) (k:Lk):Prop where
 sl:k.l=l
 qh:k.qh=(cY l).2
 fl:k.ct.length=l.length
 plain:∀(j:Nat)x p,l[j]?=some x->k.ct[j]?=some p->cG x.code=false->p=(false,false)
def HC{l:List Sy}:∀(n:Nat)(k:Lk),ai7 l k->cntF k.ct<n->Nu l (wX n k)
 |0,_,_,h=>absurd h (iR _)
 |n+1,k,h,f=>by
  have b:=oN (mX k) k.l k.ct 0 false;rw[wX];cases hs:(fQ k).2
  .have d:(l6 (mX k) k.l k.ct 0 false).2=false:=hs
   have e:=(tE (mX k) k.l k.ct 0 false d).2;have a:(fQ k).1.ct=k.ct:=e;exact⟨h.sl,h.qh,by show mV k.ct 0=mV (fQ k).1.ct 0;rw[a],by show(fQ k).1.ct.length=_;rw[a];exact h.fl,by show∀(j:Nat)x p,l[j]?=some x->(fQ k).1.ct[j]?=some p->_;rw[a];exact h.plain⟩
  .have g:cntF (fQ k).1.ct<cntF k.ct:=by
    rcases b.2.1 hs with h|h
    .simp at h
    .exact h
   refine HC n _ ⟨h.sl,h.qh,b.2.2.trans h.fl,?_⟩ (by omega)
   have:=tF (mX k) k.l k.ct 0 false (by rw[h.sl];exact h.plain)
   intro j x p c;rw[<-h.sl]at c;exact this j x p c
def Cf(l:List Sy):Nu l (fv l):=by
 refine HC _ _ ⟨rfl,rfl,by simp[nY],fun j x p _ a _=>?_⟩ ?_
 .simp only[nY]at a
  rw[Dm]at a;split at a
  .exact(au a).symm
  .simp at a
 .have:=E7 (nY l).ct
  simp[nY]at this⊢;omega
def Ad{k:Lk}{i:Nat}{x:Sy}{p:Bool×Bool}(h:cG x.code=false->p=(false,false)):((fE k i x p).length:Int)=countP p:=by
 obtain⟨a,b⟩:=p;unfold fE;cases hj:cG x.code
 .have:=h hj
  rw[this];cases x.code==5<;>rfl
 .cases a<;>cases b<;>rfl
def eD(q:List (Bool×Bool))(i:Nat):Nat:=((q.take i).map fun p=>(countP p).toNat).sum
def Cg:∀(q:List (Bool×Bool))(n:Int)(i:Nat),i<q.length->(mV q n).getD i 0=n+eD q i
 |[],_,i,h=>by simp at h
 |a::q,n,0,h=>by simp[mV,eD]
 |a::q,n,i+1,h=>by
  have:=Cg q (n+countP a) i (by simpa using h)
  have b:=mW a;rw[mV,List.getD_cons_succ,this];simp only[eD,xy,bB,eF];omega
def Ae{q:List (Bool×Bool)}{i:Nat}{p:Bool×Bool}(h:q[i]?=some p):eD q (i+1)=eD q i+(countP p).toNat:=by
 unfold eD;rw[hL,h];simp
def tG{q:List (Bool×Bool)}:∀{j i:Nat},i<j->j<=q.length->eD q i<eD q j
 |0,i,h,_=>absurd h (iR _)
 |j+1,i,h,c=>by
  have a:q[j]?=some q[j]:=bk (by omega)
  have b:=mW q[j];rw[Ae a];by_cases e:i=j
  .subst e;omega
  .have:=tG (q:=q) (j:=j) (i:=i) (by omega) (by omega)
   omega
def rB(k:Lk):∀(t:List Sy)(q:List (Bool×Bool))(s i:Nat),t.length=q.length->(∀(j:Nat)x p,t[j]?=some x->q[j]?=some p->cG x.code=false->p=(false,false))->
  (dp k t q s).drop (eD q i)=dp k (t.drop i) (q.drop i) (s+i)
 |t,q,s,0,_,_=>by simp[eD]
 |[],[],s,i+1,_,_=>by simp[eD,dp]
 |[],p::q,s,i+1,h,_=>by simp at h
 |x::t,[],s,i+1,h,_=>by simp at h
 |x::t,p::q,s,i+1,h,a=>by
  have b:=rB k t q (s+1) i (by simpa using h) (fun j=>by have:=a (j+1);simpa using this)
  have c:=Ad (k:=k) (i:=s) (x:=x) (p:=p) (a 0 x p rfl rfl);rw[dp];simp only[eD,xy,bB,eF,rK];rw[show(countP p).toNat=(fE k s x p).length by omega,List.drop_append,Di (by omega),ea,Dl]
  rw[show s+(i+1)=s+1+i by omega]
  exact b
def Ci{c:Int}(h:R2 c=true):cG c=true:=by
 unfold R2 at h;unfold cG;cases h1:c==21
 .cases h2:c==37
  .rw[h1,h2]at h
   rw[show(c==53)=true from h]
   rfl
  .rfl
 .rfl
section
variable {l:List Sy} {k:Lk}
def Fc(h:Nu l k){i:Nat}{x:Sy}(a:l[i]?=some x):∃p,k.ct[i]?=some p/\(dp k l k.ct 0).drop (eD k.ct i)=fE k i x p++(dp k l k.ct 0).drop (eD k.ct (i+1))/\((fE k i x p).length:Int)=countP p:=by
 have f:=(aE.1 a).1;have b:=h.fl;have c:k.ct[i]?=some k.ct[i]:=bk (by omega)
 refine⟨_,c,?_,Ad (h.plain i x _ a c)⟩;rw[rB k l k.ct 0 i b.symm h.plain,rB k l k.ct 0 (i+1) b.symm h.plain];have d:l.drop i=x::l.drop (i+1):=by rw[xJ f,(aE.1 a).2]
 have e:k.ct.drop i=k.ct[i]::k.ct.drop (i+1):=xJ (by omega)
 rw[d,e,dp,cr,cr]
def Fe(h:Nu l k){i:Nat}(a:i<l.length):x4 k i=eD k.ct i:=by
 rw[x4,h.pl,Cg k.ct 0 i (by rw[h.fl];exact a),Int.zero_add]
def R7(g:(cY l).1=true)(h:Nu l k){i:Nat}{ch:Int}(f:(gX (cY l).2 i ch).2=true)(c:fe ch (l.drop (i+1))≠[]):
  ∃n:Nat,jK k i ch=eD k.ct n/\i<n/\n<l.length/\fe ch (l.drop (i+1))=l.drop n:=by
 obtain⟨n,d,e,a⟩:=Ul g f;have b:n<l.length:=by
  rcases bR n l.length with h|h
  .exact h
  .rw[a,Di h]at c;exact(c rfl).elim
 refine⟨n,?_,e,b,a⟩;rw[jK,h.qh,d];exact Fe h b
def AX.ne{s:List Sy}{A v:Int}{n:Nat}(h:AX wd s A v n):s≠[]:=by cases h<;>simp
def HD(f:(cY l).1=true){i:Nat}{x:Sy}(g:l[i]?=some x):(x.code=5->(gX (cY l).2 i x.t).2=true)/\(R2 x.code=true->(gX (cY l).2 i x.t).2=true/\(gX (cY l).2 i x.f).2=true):=by
 have e:sP l.length (fX l 0 []).2 l 0=true:=(cd (b:=(fX l 0 []).1) f).2;have a:=(zU l 0 e).2 i x g;rw[cr]at a;have a:tB l.length (cY l).2 i x=true:=a;unfold tB at a;cases h1 : !(rr x.code).isSome<;>rw[h1]at a
 .cases h3:(bif(i:Int)==(l.length:Int)-1 then !qc x.code else false)<;>rw[h3]at a
  .refine⟨fun c=>?_,fun d=>?_⟩
   .rw[c]at a
    exact(cd (b:=x.t !=0) a).2
   .have c:(x.code==5)=false:=by
     cases h:x.code==5
     .rfl
     .rw[eq_of_beq h]at d;simp[R2]at d
    rw[c,Ci d]at a;exact cd (b:=(gX (cY l).2 i x.t).2) a
  .simp at a
 .simp at a
def HE{n:Int}(h:0<=n/\n<=2^31):IntKind.wrap .u32 n=n:=zK (by omega) (by omega)
def R8(u:(cY l).1=true)(h:Nu l k)(hb:eD k.ct l.length<=2^30){s:List Sy}{A v:Int}{c:Nat}(a0:AX wd s A v c):∀i,l.drop i=s->∃n,n<=c/\jJ wd ((dp k l k.ct 0).drop (eD k.ct i)) A v n:=by
 have pb:∀n,n<l.length->(eD k.ct n:Int)<2^30:=fun n G=>by have:=tG (q:=k.ct) (i:=n) (j:=l.length) G (by rw[h.fl];exact ar _);omega
 have one:∀{i:Nat}{x:Sy}{t:List Sy},l.drop i=x::t->cG x.code=false->(x.code==5)=false->(dp k l k.ct 0).drop (eD k.ct i)=⟨x.code,0,0,x.k⟩::(dp k l k.ct 0).drop (eD k.ct (i+1)):=by
  intro i x t f hj h5;obtain⟨z,E,T⟩:=drop_cons f;obtain⟨p,J,K,Z⟩:=Fc h z;rw[K,fE,hj,h5];rfl
 induction a0 with
 |ld H _ w=>
  intro i f;obtain⟨n,G,u⟩:=w (i+1) (drop_cons f).2.1;rw[one f (by rw[H];rfl) (by rw[H];rfl)]
  exact⟨n+1,by omega,.ld H u⟩
 |an H _ w=>
  intro i f;obtain⟨n,G,u⟩:=w (i+1) (drop_cons f).2.1;rw[one f (by rw[H];rfl) (by rw[H];rfl)]
  exact⟨n+1,by omega,.an H u⟩
 |tx H _ w=>
  intro i f;obtain⟨n,G,u⟩:=w (i+1) (drop_cons f).2.1;rw[one f (by rw[H];rfl) (by rw[H];rfl)]
  exact⟨n+1,by omega,.tx H u⟩
 |rt H=>
  intro i f;rw[one f (by rw[H];rfl) (by rw[H];rfl)]
  exact⟨1,ar _,.rt H⟩
 |@ja x t A v n H Y w=>
  intro i f;obtain⟨z,E,T⟩:=drop_cons f;obtain⟨p,J,K,Z⟩:=Fc h z;have Q:=Y.ne;rw[<-E]at Q;obtain⟨m,y,t2,X,M⟩:=R7 u h ((HD u z).1 H) Q;rw[E]at M;obtain⟨g,G,D⟩:=w m M.symm;have hp:p=(false,false):=h.plain i x p z J (by rw[H];rfl)
  have I:=Fe h T;have a2:=tG (q:=k.ct) t2 (by rw[h.fl];omega)
  have a3:=pb m X;have o:=Ae J;rw[hp]at o;have o:eD k.ct (i+1)=eD k.ct i+1:=o;rw[K,fE,H];show∃n,_/\jJ wd (⟨5,0,0,IntKind.wrap .u32 (jK k i x.t-x4 k i-1)⟩::_) A v n
  rw[y,I,HE ⟨by omega,by omega⟩]
  refine⟨g+1,by omega,.ja rfl ?_⟩
  show jJ wd (List.drop ((eD k.ct m:Int)-eD k.ct i-1).toNat (List.drop (eD k.ct (i+1)) _)) A v g
  rw[fj,show eD k.ct (i+1)+((eD k.ct m:Int)-eD k.ct i-1).toNat=eD k.ct m by omega]
  exact D
 |@jp x t A v n H Y w=>
  intro i f;obtain⟨z,E,T⟩:=drop_cons f;obtain⟨p,J,K,Z⟩:=Fc h z;have Q:=Y.ne;have F:=(HD u z).2 H;rw[<-E]at Q;have a1:(gX (cY l).2 i (bif iE x.code A x.k then x.t else x.f)).2=true:=by
   cases iE x.code A x.k
   .exact F.2
   .exact F.1
  obtain⟨m,y,t2,X,M⟩:=R7 u h a1 Q;rw[E]at M;obtain⟨g,G,D⟩:=w m M.symm;have I:=Fe h T;have a2:=tG (q:=k.ct) t2 (by rw[h.fl];omega)
  have a3:=pb m X;have o:=Ae J;obtain⟨a,b⟩:=p;have a4:(countP (a,b)).toNat=(bif a then 1 else 0)+(bif b then 1 else 0)+1:=by cases a<;>cases b<;>rfl
  rw[a4]at o;rw[K,fE,Ci H,aj,oM];have fin:∀(d:Nat)(rest:List In),rest.drop d=(dp k l k.ct 0).drop (eD k.ct m)->jJ wd (rest.drop d) A v g:=fun d rest e=>by rw[e];exact D
  cases ht:iE x.code A x.k<;>rw[ht]at y
  .rw[af]at y
   cases b
   .refine⟨g+1,by omega,.jp H ?_⟩
    show jJ wd (List.drop (bif iE x.code A x.k then _ else(jK k i x.f-x4 k i-1:Int)).toNat _) A v g
    rw[ht,af,y,I];refine fin _ _ ?_;cases a
    .show List.drop _ (List.drop (eD k.ct (i+1)) _)=_
     rw[fj,show eD k.ct (i+1)+((eD k.ct m:Int)-eD k.ct i-1).toNat=eD k.ct m by simp at o;omega]
    .show List.drop _ (_::List.drop (eD k.ct (i+1)) _)=_
     have R:eD k.ct (i+1)<=eD k.ct m:=by
      rcases bR (i+1) m with r|r
      .exact Nat.le_of_lt (tG r (by rw[h.fl];omega))
      .rw[show m=i+1 by omega];exact ar _
     simp at o;rw[show((eD k.ct m:Int)-eD k.ct i-1).toNat=(eD k.ct m-eD k.ct (i+1))+1 by omega,rK,fj]
     rw[show eD k.ct (i+1)+(eD k.ct m-eD k.ct (i+1))=eD k.ct m by omega]
   .have R:eD k.ct (i+1)<=eD k.ct m:=by
     rcases bR (i+1) m with r|r
     .exact Nat.le_of_lt (tG r (by rw[h.fl];omega))
     .rw[show m=i+1 by omega];exact ar _
    refine⟨g+1+1,by omega,.jp H ?_⟩
    show jJ wd (List.drop (bif iE x.code A x.k then _ else(bif a then 1 else 0:Int)).toNat _) A v (g+1)
    rw[ht,af,y,I];cases a
    .simp at o
     refine .ja rfl ?_;show jJ wd (List.drop (IntKind.wrap .u32 ((eD k.ct m:Int)-eD k.ct i-1-1)).toNat (List.drop (eD k.ct (i+1)) _)) A v g
     rw[HE ⟨by omega,by omega⟩,fj,show eD k.ct (i+1)+((eD k.ct m:Int)-eD k.ct i-1-1).toNat=eD k.ct m by omega]
     exact D
    .simp at o
     refine .ja rfl ?_;show jJ wd (List.drop (IntKind.wrap .u32 ((eD k.ct m:Int)-eD k.ct i-2-1)).toNat (List.drop (eD k.ct (i+1)) _)) A v g
     rw[HE ⟨by omega,by omega⟩,fj,show eD k.ct (i+1)+((eD k.ct m:Int)-eD k.ct i-2-1).toNat=eD k.ct m by omega]
     exact D
  .rw[aj]at y
   have R:eD k.ct (i+1)<=eD k.ct m:=by
    rcases bR (i+1) m with r|r
    .exact Nat.le_of_lt (tG r (by rw[h.fl];omega))
    .rw[show m=i+1 by omega];exact ar _
   cases a
   .refine⟨g+1,by omega,.jp H ?_⟩
    show jJ wd (List.drop (bif iE x.code A x.k then(jK k i x.t-x4 k i-1:Int)else _).toNat _) A v g
    rw[ht,aj,y,I];refine fin _ _ ?_;cases b
    .show List.drop _ (List.drop (eD k.ct (i+1)) _)=_
     simp at o;rw[fj,show eD k.ct (i+1)+((eD k.ct m:Int)-eD k.ct i-1).toNat=eD k.ct m by omega]
    .show List.drop _ (_::List.drop (eD k.ct (i+1)) _)=_
     simp at o;rw[show((eD k.ct m:Int)-eD k.ct i-1).toNat=(eD k.ct m-eD k.ct (i+1))+1 by omega,rK,fj]
     rw[show eD k.ct (i+1)+(eD k.ct m-eD k.ct (i+1))=eD k.ct m by omega]
   .refine⟨g+1+1,by omega,.jp H ?_⟩
    show jJ wd (List.drop (bif iE x.code A x.k then(0:Int)else _).toNat _) A v (g+1)
    rw[ht,aj,y,I];refine .ja rfl ?_;cases b
    .simp at o
     show jJ wd (List.drop (IntKind.wrap .u32 ((eD k.ct m:Int)-eD k.ct i-1-1)).toNat (List.drop (eD k.ct (i+1)) _)) A v g
     rw[HE ⟨by omega,by omega⟩,fj,show eD k.ct (i+1)+((eD k.ct m:Int)-eD k.ct i-1-1).toNat=eD k.ct m by omega]
     exact D
    .simp at o
     show jJ wd (List.drop (IntKind.wrap .u32 ((eD k.ct m:Int)-eD k.ct i-1-1)).toNat (_::List.drop (eD k.ct (i+1)) _)) A v g
     rw[HE ⟨by omega,by omega⟩,show((eD k.ct m:Int)-eD k.ct i-1-1).toNat=(eD k.ct m-eD k.ct (i+1))+1 by omega,rK,fj]
     rw[show eD k.ct (i+1)+(eD k.ct m-eD k.ct (i+1))=eD k.ct m by omega]
     exact D
end
def Nv{l:List Sy}{code:List In}(h:gb l=(code,0)){A v:Int}{c:Nat}(H:AX wd l A v c):∃n,n<=c/\jJ wd code A v n:=by
 unfold gb at h;cases h1 : !(cY l).1<;>rw[h1]at h
 .rw[af]at h
  cases h2:decide ((l.length:Int)>4096)<;>rw[h2]at h
  .rw[af]at h
   cases h3:decide (((u3 l).length:Int)>4096)<;>rw[h3]at h
   .have ok:=Cf l
    have e:u3 l=code:=(mh h).1;have a:eD (fv l).ct l.length<=2^30:=by
     have g:l.length<=4096:=by have:=bH h2;omega
     have f:=ok.fl;have:∀q:List (Bool×Bool),(q.map fun p=>(countP p).toNat).sum<=3*q.length:=by
      intro q;induction q with
      |nil=>simp
      |cons p q i=>have:=mW p;simp only[bB,eF,aC];omega
     have:=this ((fv l).ct.take l.length);rw[oe]at this;unfold eD;omega
    obtain⟨n,b,d⟩:=R8 (by simpa using h1) ok a H 0 rfl
    exact⟨n,b,by rw[<-e];exact d⟩
   .have:=(mh h).2;simp at this
  .have:=(mh h).2;simp at this
 .have:=(mh h).2;simp at this
end
def Cj(a:Rw)(b c d e f g i j k l m n o p q s t u v w x y z D E G I J K:Int):St:=⟨aM 56 [(0,vL 4 a),(7,.aA 0 0),(15,vN b)],[],[K5 c d e f g i j k l m n o p q s t u v w x y z D E G I J K]⟩
def A36:bq:={an:=[(5,6,aa),(5,7,aa),(5,8,aa),(5,9,aa),(5,10,aa),(5,11,aa),(5,12,aa),(7,6,ah)],mod:=[(11,2,[(0,[0,1,2,3,4,5,6,7,8,9,10,11,12,13,14,15,16,17,18])])],cut:=[(3,{bl:=[0,7,15]})]}
def W36(a:Rw)(b c d e f g i j k:Int){r h}(H:Lp f36 0 (Cj a 0 0 0 0 0 0 0 0 0 0 0 0 0 0 0 0 0 0 0 0 b c d e f g i j k) 0 r h):
  ak 36 [vL 4 a,.agg [W b,W c,U d,U e,U f,U g,U i,U j,U k]] [] r h:=.of func36 A36 H
def VH(m:Rw)(a n o p q s t u v w x y z D E G I J K b c d e f g i j k l:Int){r h}(c0:ay (decide (a<4096)) (ay (bif(decide (b<0))then true else(decide (b>=(m.length:Int)))) (Fi r h [vW 0,vN a,vB false] [])
 (DX m b fun b6 b7 b8 b9=>∃M Q,ak 61 [.aA 0 0,.agg [N b6,N b7,N b8,W b9]] [K5 n o p q s t u v w x y z D E G I J K b c d e f g i j k l] [vW M,vB Q] [K5 n o p q s t u v w x y z D E G I J K b c d e f g i j k l]/\ay Q (bh .i64 (a+1)/\Fi r h [vW M,vN (a+1),vB true] [])
 (∃T X Y Z H F A R a4 a5 a6 a7 a8 a9 b0 b1 b2 b3 b4 b5,ak 62 [.aA 0 0,.agg [N b6,N b7,N b8,W b9]] [K5 n o p q s t u v w x y z D E G I J K b c d e f g i j k l] [vB T] [K5 X Y Z H F A R a4 a5 a6 a7 a8 a9 b0 b1 b2 b3 b4 b5 c d e f g i j k l]/\ay (!T) (Fi r h [vW 0,vN a,vB false] [])
 (bh .i64 (a+1)/\Lp f36 0 (Cj m (a+1) X Y Z H F A R a4 a5 a6 a7 a8 a9 b0 b1 b2 b3 b4 b5 c d e f g i j k l) 0 r h))))
 (Fi r h [vW 0,vN 4096,vB false] [])):
  Lp f36 0 (Cj m a n o p q s t u v w x y z D E G I J K b c d e f g i j k l) 0 r h:=.of A36 c0
def A61:bq:={an:=[(5,4,aa),(5,5,aa),(5,6,aa),(5,7,aa),(5,8,aa)]}
def W61(a b c d e f g i j k l m n o p q s t u v w x y z D E G I J M Q K:Int){r h}(H:ay (J==6) (Fi r h [vW K,vB true] [K5 a b c d e f g i j k l m n o p q s t u v w x y z D E G I])
 (ay (J==22) (Fi r h [vW a,vB true] [K5 a b c d e f g i j k l m n o p q s t u v w x y z D E G I])
 (Fi r h [vW 0,vB (bif(J==60)then(b==0)else false)] [K5 a b c d e f g i j k l m n o p q s t u v w x y z D E G I]))):
  ak 61 [.aA 0 0,.agg [N J,N M,N Q,W K]] [K5 a b c d e f g i j k l m n o p q s t u v w x y z D E G I] r h:=.of func61 A61 H
def LN(b c d e a f g i j k l m n o p q s t u v w x y z D E G I J K M Q T X:Int):St:=⟨aM 117 [(0,.aA 0 0),(3,.aA 1 0),(5,vN b),(6,vW c)],[],[K5 d e a f g i j k l m n o p q s t u v w x y z D E G I J K,.cells [vN M,vN Q,vN T,vW X]]⟩
def A62:bq:={an:=[(3,2,ah),(6,6,ah),(11,2,ah),(14,6,ah)],mod:=[(23,2,[(0,[0,1,2,3,4,5,6,7,8,9,10,11,12,13,14,15,16,17])])],join:=[(6,{bl:=[0,3,5,6]})]}
def W62(e b f g i j k l m n o p q s t u v w c x y z D E G I J K a M Q d:Int){r h}(H:bh .i64 (c+1)/\bh .i64 (a-8)/\∃X T,ak 89 [vN (a-8),vW 1,vW 1] [] [vW X,vB T] []/\ay T (bh .i64 (a-8)/\Rp f62 6 (LN (a-8) b e b f g i j k l m n o p q s t u v w (c+1) x y z D E G I J K a M Q d) 1 r h)
 (Rp f62 6 (LN a d e b f g i j k l m n o p q s t u v w (c+1) x y z D E G I J K a M Q d) 1 r h)):
  ak 62 [.aA 0 0,.agg [N a,N M,N Q,W d]] [K5 e b f g i j k l m n o p q s t u v w c x y z D E G I J K] r h:=.of func62 A62 H
def LO(T X l m n o p q s t u v w x y z D E G I a b c d e f g i j k J M Q K:Int){r h}(e4:∃Y Z,ak 89 [vN T,vW l,vW X] [] [vW Y,vB Z] []/\ay Z (Fi r h [vB true] [K5 Y m n o p q s t u v w x y z D E G I a b c d e f g i j k])
 (bh .i64 (J-8)/\∃e3 H,ak 90 [vN (J-8),vW 0,vW 0] [] [vB e3,vB H] []/\ay H (bh .i64 (J-8)/\∃F A,ak 90 [vN (J-8),vW l,vW m] [] [vB F,vB A] []/\ay A (ay F (bh .i64 (a+M)/\Fi r h [vB true] [K5 l m n o p q s t u v w x y z D E G I (a+M) b c d e f g i j k])
 (bh .i64 (a+Q)/\Fi r h [vB true] [K5 l m n o p q s t u v w x y z D E G I (a+Q) b c d e f g i j k]))
 (ay (J==5) (bh .i64 (a+(IntKind.wrap .i64 K))/\Fi r h [vB true] [K5 l m n o p q s t u v w x y z D E G I (a+(IntKind.wrap .i64 K)) b c d e f g i j k])
 (∃R a4 a5 a6 a7 a8 a9 b0 b1 b2 b3 b4 b5 b6 b7 b8 b9 c0 c1,ak 91 [.aA 0 0,.agg [N J,N M,N Q,W K]] [K5 l m n o p q s t u v w x y z D E G I a b c d e f g i j k] [vB R] [K5 a4 a5 a6 a7 a8 a9 b0 b1 b2 b3 b4 b5 b6 b7 b8 b9 c0 c1 a b c d e f g i j k]/\Fi r h [vB R] [K5 a4 a5 a6 a7 a8 a9 b0 b1 b2 b3 b4 b5 b6 b7 b8 b9 c0 c1 a b c d e f g i j k])))
 (∃c2 c3,ak 90 [vN J,vW l,vW K] [] [vB c2,vB c3] []/\ay c3 (ay c2 (bh .i64 (a+M)/\Fi r h [vB true] [K5 l m n o p q s t u v w x y z D E G I (a+M) b c d e f g i j k])
 (bh .i64 (a+Q)/\Fi r h [vB true] [K5 l m n o p q s t u v w x y z D E G I (a+Q) b c d e f g i j k]))
 (ay (J==5) (bh .i64 (a+(IntKind.wrap .i64 K))/\Fi r h [vB true] [K5 l m n o p q s t u v w x y z D E G I (a+(IntKind.wrap .i64 K)) b c d e f g i j k])
 (∃c4 c5 c6 c7 c8 c9 d0 d1 d2 d3 d4 d5 d6 d7 d8 d9 e0 e1 e2,ak 91 [.aA 0 0,.agg [N J,N M,N Q,W K]] [K5 l m n o p q s t u v w x y z D E G I a b c d e f g i j k] [vB c4] [K5 c5 c6 c7 c8 c9 d0 d1 d2 d3 d4 d5 d6 d7 d8 d9 e0 e1 e2 a b c d e f g i j k]/\Fi r h [vB c4] [K5 c5 c6 c7 c8 c9 d0 d1 d2 d3 d4 d5 d6 d7 d8 d9 e0 e1 e2 a b c d e f g i j k]))))):
  Rp f62 6 (LN T X l m n o p q s t u v w x y z D E G I a b c d e f g i j k J M Q K) 1 r h:=xm.of A62 e4
def A89:bq:={}
def W89(b c a:Int){r h}(H:ay (b==4) (Fi r h [vW (IntKind.wrap .u32 (c+a)),vB true] [])
 (ay (b==20) (Fi r h [vW (IntKind.wrap .u32 (c-a)),vB true] [])
 (ay (b==36) (Fi r h [vW (IntKind.wrap .u32 (c*a)),vB true] [])
 (ay (b==52) (ay (a==0) (Fi r h [vW 0,vB false] [])
 (a≠0/\Fi r h [vW (IntKind.wrap .u32 (Int.tdiv c a)),vB true] []))
 (ay (b==68) (Fi r h [vW (cF .or .u32 c a),vB true] [])
 (ay (b==84) (Fi r h [vW (cF .and .u32 c a),vB true] [])
 (ay (b==164) (Fi r h [vW (cF .xor .u32 c a),vB true] [])
 (ay (b==100) ((32:Int)≠0/\0<=(Int.tmod a 32)/\Fi r h [vW (IntKind.wrap .u32 (c*2^(min (Int.toNat (Int.tmod a 32)) (IntKind.bits .u32)))),vB true] [])
 (ay (b==116) ((32:Int)≠0/\0<=(Int.tmod a 32)/\Fi r h [vW (Int.fdiv c (2^(min (Int.toNat (Int.tmod a 32)) (IntKind.bits .u32)))),vB true] [])
 (Fi r h [vW 0,vB false] [])))))))))):
  ak 89 [vN b,vW c,vW a] [] r h:=.of func89 A89 H
def A90:bq:={}
def W90(a b c:Int){r h}(H:ay (a==21) (Fi r h [vB (b==c),vB true] [])
 (ay (a==37) (Fi r h [vB (decide (b>c)),vB true] [])
 (ay (a==53) (Fi r h [vB (decide (b>=c)),vB true] [])
 (ay (a==69) (Fi r h [vB ((cF .and .u32 b c) !=0),vB true] [])
 (Fi r h [vB false,vB false] []))))):
  ak 90 [vN a,vW b,vW c] [] r h:=.of func90 A90 H
def A91:bq:={an:=[(1,4,aa),(1,5,aa),(1,6,aa),(1,9,aa),(1,10,aa),(1,11,aa),(1,14,aa),(1,15,aa),(1,16,aa),(20,6,ah)],mod:=[(2,2,[(0,[0,1,2,3,4,5,6,7,8,9,10,11,12,13,14,15,16,17])])]}
def W91(J I m n o p q s t u v w x y z D E G k a b c d e f g i j l Q T K:Int){r h}(b7:ay (bif(bif(bif(l==96)then true else(l==97))then true else(l==2))then true else(l==3)) (∃X Y Z H F A R a4 a5 a6 a7 a8 a9 b0 b1 b2 b3 b4 b5,ak 127 [.aA 0 0,.agg [N l,N Q,N T,W K]] [K5 J I m n o p q s t u v w x y z D E G k a b c d e f g i j] [vB X] [K5 Y Z H F A R a4 a5 a6 a7 a8 a9 b0 b1 b2 b3 b4 b5 k a b c d e f g i j]/\Fi r h [vB X] [K5 Y Z H F A R a4 a5 a6 a7 a8 a9 b0 b1 b2 b3 b4 b5 k a b c d e f g i j])
 (ay (l==0) (Fi r h [vB true] [K5 K I m n o p q s t u v w x y z D E G k a b c d e f g i j])
 (ay (l==1) (Fi r h [vB true] [K5 J K m n o p q s t u v w x y z D E G k a b c d e f g i j])
 (ay (l==128) (Fi r h [vB true] [K5 64 I m n o p q s t u v w x y z D E G k a b c d e f g i j])
 (ay (l==129) (Fi r h [vB true] [K5 J 64 m n o p q s t u v w x y z D E G k a b c d e f g i j])
 (ay (l==7) (Fi r h [vB true] [K5 J J m n o p q s t u v w x y z D E G k a b c d e f g i j])
 (ay (l==135) (Fi r h [vB true] [K5 I I m n o p q s t u v w x y z D E G k a b c d e f g i j])
 (ay (l==132) (Fi r h [vB true] [K5 (IntKind.wrap .u32 (0-J)) I m n o p q s t u v w x y z D E G k a b c d e f g i j])
 (ay (l==32) (∃b6 M,ak 128 [.agg [W a,W b,U c,U d,U e,U f,U g,U i,U j],vW K] [] [vW b6,vB M] []/\ay M (Fi r h [vB M] [K5 b6 I m n o p q s t u v w x y z D E G k a b c d e f g i j])
 (Fi r h [vB M] [K5 J I m n o p q s t u v w x y z D E G k a b c d e f g i j]))
 (Fi r h [vB false] [K5 J I m n o p q s t u v w x y z D E G k a b c d e f g i j])))))))))):
  ak 91 [.aA 0 0,.agg [N l,N Q,N T,W K]] [K5 J I m n o p q s t u v w x y z D E G k a b c d e f g i j] r h:=.of func91 A91 b7
structure Da where
 nr:Int
 aq:Int
 ip:Int
 a0:Int
 a1:Int
 a2:Int
 a3:Int
 a4:Int
 a5:Int
abbrev N0(d:Da):AV:=.agg [W d.nr,W d.aq,U d.ip,U d.a0,U d.a1,U d.a2,U d.a3,U d.a4,U d.a5]
def kc(n:Int)(i:Nat):Int:=IntKind.wrap .u8 (Int.fdiv n (2^(min (Int.toNat ((8:Int)*i)) (IntKind.bits .u64))))
def ie(n:Int):Nat->Nat->List Int
 |0,_=>[]
 |k+1,i=>kc n i::ie n k (i+1)
def va(a b:List Int):gJ a++gJ b=gJ (a++b):=(cg ..).symm
def Ff(z:List Int):(gJ z).length=z.length:=ao ..
def XX(n:Int)(k:Nat)(e:k<=8):ak 242 [vU n,vN k] [] [.own 0 0 1 (gJ (ie n k 0))] []:=by
 have key:∀(m i:Nat)(a:List Int),i+m=k->a.length=i->Lp f242 0 (E9 n (gJ a) k i) 0 [.own 0 0 1 (gJ (a++ie n m i))] []:=by
  intro m;induction m with
  |zero=>intro i a b _;apply R1;exact aW (cf (by omega)) (ai (by simp[ie]) rfl)
  |succ m c=>
   intro i a b f;apply R1;refine bF (bI (by omega)) ⟨aB,by omega,by simp[gJ];omega,aB,?_⟩
   have:=c (i+1) (a++[kc n i]) (by omega) (by simp;omega)
   rw[bn]at this;rw[<-va]at this;exact this
 apply ai2;exact key k 0 [] (by omega) rfl
def m1(d:Da):List Int:=ie d.nr 4 0++ie d.aq 4 0++ie d.ip 8 0++ie d.a0 8 0++ie d.a1 8 0++ie d.a2 8 0++ie d.a3 8 0++ie d.a4 8 0++ie d.a5 8 0
structure Ck (d:Da):Prop where
 nr:0<=d.nr/\d.nr<4294967296
 aq:0<=d.aq/\d.aq<4294967296
 ip:0<=d.ip/\d.ip<18446744073709551616
 a0:0<=d.a0/\d.a0<18446744073709551616
 a1:0<=d.a1/\d.a1<18446744073709551616
 a2:0<=d.a2/\d.a2<18446744073709551616
 a3:0<=d.a3/\d.a3<18446744073709551616
 a4:0<=d.a4/\d.a4<18446744073709551616
 a5:0<=d.a5/\d.a5<18446744073709551616
def qd{n:Int}(a:0<=n)(b:n<18446744073709551616):IntKind.wrap .u64 n=n:=by simp[IntKind.wrap,IntKind.signed,IntKind.bits];omega
def dI(n:Int):∀k i,(ie n k i).length=k
 |0,_=>rfl
 |k+1,i=>by rw[ie,aC,dI n k]
def sn(d:Da):(m1 d).length=64:=by simp[m1,dI]
def ai8(d:Da)(h:Ck d):ak 177 [N0 d] [] [vL 1 (gJ (m1 d))] []:=by
 have e:∀n,ak 242 [vU n,vN 8] [] [vL 1 (gJ (ie n 8 0))] []:=fun n=>Go.Ac.ak.soft (XX n 8 (by decide)) rfl
 have w:ak 177 [N0 d] [] [.own 0 0 1 (gJ (m1 d))] []:=by
  apply ai1;rw[qd h.nr.1 (by have:=h.nr.2;omega),qd h.aq.1 (by have:=h.aq.2;omega)]
  refine⟨_,XX d.nr 4 (by decide),_,Go.Ac.ak.soft (XX d.aq 4 (by decide)) rfl,?_,_,e d.ip,?_,?_⟩
  .simp[gJ,dI]
  .simp[gJ,dI]
  .rw[va,va]
   have a:∀(i:Nat)(b:List Int)(x:Int){r:List AV}{c:List Bx},i<6->b.length<=100->([U d.a0,U d.a1,U d.a2,U d.a3,U d.a4,U d.a5]:List PV)[i]?=some (U x)->Lp f177 0 (zW (gJ (b++ie x 8 0)) d.a0 d.a1 d.a2 d.a3 d.a4 d.a5 ((i:Int)+1)) 0 r c ->
     Lp f177 0 (zW (gJ b) d.a0 d.a1 d.a2 d.a3 d.a4 d.a5 i) 0 r c:=by
    intro i b x r c g j f K;apply RZ;refine bF (bI (by omega)) ⟨x,⟨by omega,by omega⟩,f,_,e x,by simp[gJ,dI];omega,aB,?_⟩
    rw[va];exact K
   refine a 0 _ d.a0 (by decide) (by simp[dI]) rfl (a 1 _ d.a1 (by decide) (by simp[dI]) rfl (a 2 _ d.a2 (by decide) (by simp[dI]) rfl (a 3 _ d.a3 (by decide) (by simp[dI]) rfl (a 4 _ d.a4 (by decide) (by simp[dI]) rfl (a 5 _ d.a5 (by decide) (by simp[dI]) rfl ?_)))))
   apply RZ;exact aW rfl fi
 exact Go.Ac.ak.soft w rfl
def gd(d:Da)(off:Int):Int:=IntKind.wrap .u32 (kM (((m1 d).take (off+4).toNat).drop off.toNat))
def vb(l:List Int)(a b:Nat):List.drop a (List.take b (gJ l))=gJ ((l.take b).drop a):=by simp[gJ,iQ,od]
def ai9(d:Da)(h:Ck d)(off:Int)(a:0<=off)(b:off%4=0)(e:off<=60):ak 128 [N0 d,vW off] [] [vW (gd d off),vB true] []:=by
 apply ai0;have c:Int.tmod off 4=0:=by rw[tY a];exact b
 refine⟨by decide,aW (by rw[c];simp;omega) ⟨_,ai8 d h,?_⟩⟩
 rw[zK (n:=off+4) (by omega) (by omega),Ff,sn,vb]
 refine⟨⟨a,by omega,by omega⟩,_,C58 _ ?_,ai ?_ rfl⟩
 .rw[hK,oe,sn];omega
 .rfl
def R9(b:List Int):Da:=
 ⟨IntKind.wrap .u32 (kM ((b.take 4).drop 0)),IntKind.wrap .u32 (kM ((b.take 8).drop 4)),kM ((b.take 16).drop 8),kM ((b.take 24).drop 16),kM ((b.take 32).drop 24),kM ((b.take 40).drop 32),kM ((b.take 48).drop 40),kM ((b.take 56).drop 48),kM ((b.take 64).drop 56)⟩
def C34(b:List Int)(T:b.length=64):ak 34 [vL 1 (gJ b)] [] [N0 (R9 b),vN 0] []:=by
 have e:∀(i j:Nat),ak 58 [vL 1 (gJ ((b.take j).drop i))] [] [vU (kM ((b.take j).drop i))] []:=fun i j=>C58 _ (by rw[hK,oe];omega)
 have hlen:(gJ b).length=64:=(Ff b).trans T;apply W34;rw[hlen];refine aW rfl ⟨⟨by omega,by omega,by omega⟩,_,by rw[vb];exact e 0 4,⟨by omega,by omega,by omega⟩,_,by rw[vb];exact e 4 8,⟨by omega,by omega,by omega⟩,_,by rw[vb];exact e 8 16,?_⟩
 have a:∀(i:Nat)(c o p q s t u v w x y z D E G H I J f g k l m n:Int){r:List AV}{h:List Bx},i<6 ->
   putAt ([vW x,vW y,vU z,vU D,vU E,vU G,vU H,vU I,vU J]:List AV) (3+i*1+0) [vU (kM ((b.take (24+8*i)).drop (16+8*i)))]=[vW x,vW y,vU z,vU f,vU g,vU k,vU l,vU m,vU n]->
   Lp f34 0 (Hv (gJ b) ((i:Int)+1) c o p q s t u v w x y z f g k l m n) 0 r h->Lp f34 0 (Hv (gJ b) i c o p q s t u v w x y z D E G H I J) 0 r h:=by
  intro i c o p q s t u v w x y z D E G H I J f g k l m n r h Y X K;apply VE;rw[hlen];have M:Int.toNat ((16:Int)+((8:Int)*(i:Int)))=16+8*i:=by omega
  have Q:Int.toNat ((24:Int)+((8:Int)*(i:Int)))=24+8*i:=by omega
  refine bF (bI (by omega)) ⟨aB,aB,aB,aB,⟨by omega,by omega,by omega⟩,_,?_,⟨by omega,by omega⟩,f,g,k,l,m,n,by omega,X,aB,K⟩
  rw[M,Q,vb];exact e _ _
 refine a 0 _ _ _ _ _ _ _ _ _ _ _ _ _ _ _ _ _ _ _ _ _ _ _ _ (by decide) rfl (a 1 _ _ _ _ _ _ _ _ _ _ _ _ _ _ _ _ _ _ _ _ _ _ _ _ (by decide) rfl (a 2 _ _ _ _ _ _ _ _ _ _ _ _ _ _ _ _ _ _ _ _ _ _ _ _ (by decide) rfl (a 3 _ _ _ _ _ _ _ _ _ _ _ _ _ _ _ _ _ _ _ _ _ _ _ _ (by decide) rfl
  (a 4 _ _ _ _ _ _ _ _ _ _ _ _ _ _ _ _ _ _ _ _ _ _ _ _ (by decide) rfl (a 5 _ _ _ _ _ _ _ _ _ _ _ _ _ _ _ _ _ _ _ _ _ _ _ _ (by decide) rfl ?_)))))
 apply VE;exact aW rfl (ai rfl rfl)
def Um(c a k:Int)(h:([4,20,36,52,68,84,164,100,116]:List Int).all (fun z => !(c==z))=true):ak 89 [vN c,vW a,vW k] [] [vW 0,vB false] []:=by
 simp only[bE,mi,Bool.and_true,bU,gw]at h;obtain⟨b,e,f,g,i,j,l,m,n⟩:=h;apply W89;exact aW b (aW e (aW f (aW g (aW i (aW j (aW l (aW m (aW n fi))))))))
def aja(a k:Int):ak 89 [vN 84,vW a,vW k] [] [vW (Ns a k),vB true] []:=by
 apply W89;exact aW rfl (aW rfl (aW rfl (aW rfl (aW rfl (bF rfl fi)))))
def Sa(c a k:Int)(h:([21,37,53,69]:List Int).all (fun z => !(c==z))=true):ak 90 [vN c,vW a,vW k] [] [vB false,vB false] []:=by
 simp only[bE,mi,Bool.and_true,bU,gw]at h;obtain⟨b,e,f,g⟩:=h;apply W90;exact aW b (aW e (aW f (aW g fi)))
def wo{c:Int}(h:R2 c=true):c=21\/c=37\/c=53:=by
 unfold R2 at h;cases h1:c==21
 .cases h2:c==37
  .rw[h1,h2]at h
   exact .inr (.inr (eq_of_beq h))
  .exact .inr (.inl (eq_of_beq h2))
 .exact .inl (eq_of_beq h1)
def ajb(c a k:Int)(h:R2 c=true):ak 90 [vN c,vW a,vW k] [] [vB (iE c a k),vB true] []:=by
 apply W90;rcases wo h with rfl|rfl|rfl
 .exact bF rfl fi
 .exact aW rfl (bF rfl fi)
 .exact aW rfl (aW rfl (bF rfl fi))
abbrev ms(A pc:Int)(d:Da):Bx:=K5 A 0 0 0 0 0 0 0 0 0 0 0 0 0 0 0 0 0 pc d.nr d.aq d.ip d.a0 d.a1 d.a2 d.a3 d.a4 d.a5
def XY(d:Da)(h:Ck d)(A pc:Int)(x:In)(c:x.code=32)(a:0<=x.k)(b:x.k%4=0)(e:x.k<=60):ak 91 [.aA 0 0,LJ x] [ms A pc d] [vB true] [ms (gd d x.k) pc d]:=by
 apply W91;rw[c];exact aW rfl (aW rfl (aW rfl (aW rfl (aW rfl (aW rfl (aW rfl (aW rfl (bF rfl ⟨_,_,ai9 d h x.k a b e,bF rfl fi⟩))))))))
def Un(d:Da)(A pc:Int)(x:In)(a:x.code=135):ak 91 [.aA 0 0,LJ x] [ms A pc d] [vB true] [ms 0 pc d]:=by
 apply W91;rw[a];exact aW rfl (aW rfl (aW rfl (aW rfl (aW rfl (aW rfl (bF rfl fi))))))
structure ROK (x:In):Prop where
 k:0<=x.k/\x.k<4294967296
 jt:0<=x.jt/\x.jt<=255
 jf:0<=x.jf/\x.jf<=255
 ld:x.code=32->x.k%4=0/\x.k<=60
section
variable {d:Da} {A pc:Int} {x:In}
def Fg(code k:Int){r:List AV}{h:List Bx}(f:0<=pc/\pc<=2^40)(i:∃c e,x.code=c/\x.k=e/\code=c/\k=e)(b:Rp f62 6 (LN x.code x.k A 0 0 0 0 0 0 0 0 0 0 0 0 0 0 0 0 0 (pc+1) d.nr d.aq d.ip d.a0 d.a1 d.a2 d.a3 d.a4 d.a5 x.code x.jt x.jf x.k) 1 r h)
  (a:([4,20,36,52,68,84,164,100,116]:List Int).all (fun z => !(x.code-8==z))=true)(g : -1000<=x.code/\x.code<=100000):ak 62 [.aA 0 0,LJ x] [ms A pc d] r h:=by
 apply W62;exact⟨aB,aB,_,_,Um _ 1 1 a,aW rfl b⟩
end
def Uo(d:Da)(A pc:Int)(x:In)(b:0<=pc/\pc<=2^40)(a:x.code=84):ak 62 [.aA 0 0,LJ x] [ms A pc d] [vB true] [ms (Ns A x.k) (pc+1) d]:=by
 refine Fg 84 x.k b ⟨_,_,a,rfl,rfl,rfl⟩ ?_ (by rw[a];decide) (by omega)
 rw[a];apply LO;exact⟨_,_,aja A x.k,bF rfl fi⟩
def HF(d:Da)(A B pc:Int)(x:In)(b:0<=pc/\pc<=2^40)(a:x.code=32\/x.code=135)(c:ak 91 [.aA 0 0,LJ x] [ms A (pc+1) d] [vB true] [ms B (pc+1) d]):ak 62 [.aA 0 0,LJ x] [ms A pc d] [vB true] [ms B (pc+1) d]:=by
 refine Fg x.code x.k b ⟨_,_,rfl,rfl,rfl,rfl⟩ ?_ (by rcases a with h|h<;>rw[h]<;>decide) (by omega)
 apply LO;exact⟨_,_,Um x.code A x.k (by rcases a with h|h<;>rw[h]<;>decide),aW rfl ⟨aB,_,_,Sa (x.code-8) 0 0 (by rcases a with h|h<;>rw[h]<;>decide),aW rfl ⟨_,_,Sa x.code A x.k (by rcases a with h|h<;>rw[h]<;>decide),aW rfl
  (aW (by rcases a with h|h<;>rw[h]<;>rfl) ⟨_,_,_,_,_,_,_,_,_,_,_,_,_,_,_,_,_,_,_,c,fi⟩)⟩⟩⟩
def XZ(d:Da)(A pc:Int)(x:In)(b:0<=pc/\pc<=2^40)(a:x.code=5)(c:ROK x):ak 62 [.aA 0 0,LJ x] [ms A pc d] [vB true] [ms A (pc+1+x.k) d]:=by
 have:=c.k;refine Fg 5 x.k b ⟨_,_,a,rfl,rfl,rfl⟩ ?_ (by rw[a];decide) (by omega)
 rw[a];apply LO;rw[rp (n:=x.k) (by omega) (by omega)]
 exact⟨_,_,Um 5 A x.k (by decide),aW rfl ⟨aB,_,_,Sa (5-8) 0 0 (by decide),aW rfl ⟨_,_,Sa 5 A x.k (by decide),aW rfl (bF rfl ⟨aB,fi⟩)⟩⟩⟩
def X1(d:Da)(A pc:Int)(x:In)(e:0<=pc/\pc<=2^40)(b:R2 x.code=true)(c:ROK x):ak 62 [.aA 0 0,LJ x] [ms A pc d] [vB true] [ms A (pc+1+(bif iE x.code A x.k then x.jt else x.jf)) d]:=by
 have g:=c.jt;have f:=c.jf;have a:=wo b;refine Fg x.code x.k e ⟨_,_,rfl,rfl,rfl,rfl⟩ ?_ (by rcases a with h|h|h<;>rw[h]<;>decide) (by omega)
 apply LO;exact⟨_,_,Um x.code A x.k (by rcases a with h|h|h<;>rw[h]<;>decide),aW rfl ⟨aB,_,_,Sa (x.code-8) 0 0 (by rcases a with h|h|h<;>rw[h]<;>decide),aW rfl ⟨_,_,ajb x.code A x.k b,bF rfl
  (ae (fun h=>⟨aB,ai rfl (by rw[h];rfl)⟩) fun h=>⟨aB,ai rfl (by rw[h];rfl)⟩)⟩⟩⟩
def C61(d:Da)(A pc:Int)(x:In)(a:(x.code==22)=false)(b:(x.code==60)=false):ak 61 [.aA 0 0,LJ x] [ms A pc d] [vW (bif x.code==6 then x.k else 0),vB (x.code==6)] [ms A pc d]:=by
 apply W61;exact ae (fun h=>ai (by rw[h];rfl) rfl) fun h=>aW a (ai (by rw[h,b];rfl) rfl)
def Ka(l:List In)(d:Da)(z:Ck d)(M:l.length<=4096)(q:∀x∈l,ROK x){t:List In}{A v:Int}{m:Nat}(H:jJ (gd d) t A v m):∀(i n:Nat),l.drop i=t->n+m<=4096 ->
  Lp f36 0 (Cj (l.map In.row) n A 0 0 0 0 0 0 0 0 0 0 0 0 0 0 0 0 0 i d.nr d.aq d.ip d.a0 d.a1 d.a2 d.a3 d.a4 d.a5) 0 [vW v,vN ((n+m:Nat):Int),vB true] []:=by
 have u:(l.map In.row).length=l.length:=ao ..;have step:∀{x:In}{t:List In}{A v B:Int}{m:Nat}{i n j:Nat},l.drop i=x::t->n+(m+1)<=4096->(x.code==22)=false->(x.code==60)=false->(x.code==6)=false->ak 62 [.aA 0 0,LJ x] [ms A i d] [vB true] [ms B j d]->
   Lp f36 0 (Cj (l.map In.row) ((n:Int)+1) B 0 0 0 0 0 0 0 0 0 0 0 0 0 0 0 0 0 j d.nr d.aq d.ip d.a0 d.a1 d.a2 d.a3 d.a4 d.a5) 0 [vW v,vN ((n+1+m:Nat):Int),vB true] []->
   Lp f36 0 (Cj (l.map In.row) n A 0 0 0 0 0 0 0 0 0 0 0 0 0 0 0 0 0 i d.nr d.aq d.ip d.a0 d.a1 d.a2 d.a3 d.a4 d.a5) 0 [vW v,vN ((n+(m+1):Nat):Int),vB true] []:=by
  intro x t A v B m i n j b f D E y r K;obtain⟨c,e,o⟩:=drop_cons b;have p:=C61 d A i x D E;rw[y]at p;apply VH;rw[u];refine bF (bI (by omega)) (aW (by rw[cf (by omega),af];exact cf (by omega)) ⟨x.code,x.jt,x.jf,x.k,by omega,aY c,_,_,p,aW rfl ⟨_,_,_,_,_,_,_,_,_,_,_,_,_,_,_,_,_,_,_,_,r,aW rfl ⟨aB,?_⟩⟩⟩)
  rw[show n+(m+1)=n+1+m by omega]
  exact K
 induction H with
 |@ld x t A v m a _ k=>
  intro i n b f;obtain⟨c,e,o⟩:=drop_cons b;have g:=q x (aK c);have w:=g.ld a;exact step (j:=i+1) b f (by rw[a];rfl) (by rw[a];rfl) (by rw[a];rfl) (HF d A _ i x ⟨by omega,by omega⟩ (.inl a) (XY d z A _ x a g.k.1 w.1 w.2)) (k (i+1) (n+1) e (by omega))
 |@an x t A v m a _ k=>
  intro i n b f;obtain⟨c,e,o⟩:=drop_cons b;exact step (j:=i+1) b f (by rw[a];rfl) (by rw[a];rfl) (by rw[a];rfl) (Uo d A i x ⟨by omega,by omega⟩ a) (k (i+1) (n+1) e (by omega))
 |@tx x t A v m a _ k=>
  intro i n b f;obtain⟨c,e,o⟩:=drop_cons b;exact step (j:=i+1) b f (by rw[a];rfl) (by rw[a];rfl) (by rw[a];rfl) (HF d A _ i x ⟨by omega,by omega⟩ (.inr a) (Un d A _ x a)) (k (i+1) (n+1) e (by omega))
 |@rt x t A a=>
  intro i n b f;obtain⟨c,e,o⟩:=drop_cons b;have p:=C61 d A i x (by rw[a];rfl) (by rw[a];rfl)
  rw[show(x.code==6)=true by rw[a];rfl]at p
  apply VH;rw[u];exact bF (bI (by omega)) (aW (by rw[cf (by omega),af];exact cf (by omega)) ⟨x.code,x.jt,x.jf,x.k,by omega,aY c,_,_,p,bF rfl ⟨aB,ai rfl rfl⟩⟩)
 |@ja x t A v m a G k=>
  intro i n b f;obtain⟨c,e,o⟩:=drop_cons b;have g:=q x (aK c);have T:=g.k;have K:=k (i+1+x.k.toNat) (n+1) (by rw[<-e,fj]) (by omega)
  have cs:=XZ d A i x ⟨by omega,by omega⟩ a g
  rw[show(i:Int)+1+x.k=((i+1+x.k.toNat:Nat):Int) by omega]at cs
  exact step b f (by rw[a];rfl) (by rw[a];rfl) (by rw[a];rfl) cs K
 |@jp x t A v m a G k=>
  intro i n b f;obtain⟨c,e,o⟩:=drop_cons b;have g:=q x (aK c);have Q:=g.jt;have J:=g.jf;have K:=k (i+1+(bif iE x.code A x.k then x.jt else x.jf).toNat) (n+1) (by rw[<-e,fj]) (by omega)
  have cs:=X1 d A i x ⟨by omega,by omega⟩ a g
  have I:0<=(bif iE x.code A x.k then x.jt else x.jf):=by cases iE x.code A x.k<;>simp only[aj,af]<;>omega
  generalize(bif iE x.code A x.k then x.jt else x.jf)=j at*;rw[show(i:Int)+1+j=((i+1+j.toNat:Nat):Int) by omega]at cs
  have s:=wo a;exact step b f (by rcases s with h|h|h<;>rw[h]<;>rfl) (by rcases s with h|h|h<;>rw[h]<;>rfl) (by rcases s with h|h|h<;>rw[h]<;>rfl) cs K
def C36(l:List In)(d:Da)(a:Ck d)(c:l.length<=4096)(b:∀x∈l,ROK x){v:Int}{m:Nat}(H:jJ (gd d) l 0 v m):ak 36 [vL 4 (l.map In.row),N0 d] [] [vW v,vN m,vB true] []:=by
 apply W36;have:=Ka l d a c b H 0 0 rfl (by have:=H.len;omega)
 rw[cr]at this;exact this
section
variable {wd:Int->Int}
def jG(a:Act):∀(p q:List Sp),dV wd a (p++q)=dV wd (dV wd a q) p
 |[],q=>rfl
 |s::p,q=>by rw[di,dV,dV,jG a p q]
def HG{a:List (List Hf)}(h:nJ a=true):z7 wd a=true:=by
 obtain⟨c,d,b⟩:=og.1 h;refine og.2 ⟨c,d,?_⟩;have:c=[]:=gS.1 (by have:=eq_of_beq b;omega)
 rw[this];rfl
def Nw(a:Act)(l:List Sp)(s:Sp):dV wd a (mT l s)=dV wd a (l++[s]):=by
 unfold mT;cases h0:(s.cl.length:Int)==0
 .rw[af]
  cases hl:decide ((l.length:Int)>0)
  .rfl
  .rw[aj]
   cases he:nJ (l.getLastD ⟨[],⟨0,0⟩⟩).cl
   .rfl
   .rw[aj]
    have c:l≠[]:=by intro h;rw[h]at hl;simp at hl
    have e:l=l.dropLast++[l.getLastD ⟨[],⟨0,0⟩⟩]:=by
     have:=(x9 c).symm;rw[jP,jk c];exact this
    have d:=HG (wd:=wd) he;have k:∀b,dV wd b [l.getLastD ⟨[],⟨0,0⟩⟩]=(l.getLastD ⟨[],⟨0,0⟩⟩).act:=fun b=>by rw[dV,d];rfl
    rw[jG a l [s]];generalize l.getLastD ⟨[],⟨0,0⟩⟩=z at*;rw[e,jG,jG,k,k]
 .have:s.cl=[]:=gS.1 (by have:=eq_of_beq h0;omega)
  rw[aj,jG,dV,this];rfl
def m2(nr:Int)(a:List Bd):List Sp:=(a.filter fun b=>nr==b.nr).map fun b=>⟨(cj b.cond).1,b.act⟩
def eN(m:List Mk)(nr:Int):List Sp:=((gm m nr).map (·.2)).getD []
def HH(x:Mk)(k:Int):∀(m:List Mk),gm (oL x m) k=bif k==x.1 then some x else gm m k
 |[]=>by
  unfold oL gm;rw[cx];cases k==x.1<;>rfl
 |y::m=>by
  have a:=HH x k m;unfold oL;unfold gm at a⊢;cases h:x.1==y.1
  .rw[af,cx,cx,a]
   cases h2:k==y.1
   .rfl
   .cases h3:k==x.1
    .rfl
    .rw[eq_of_beq h2]at h3
     have:=eq_of_beq h3;rw[this]at h;simp at h
  .rw[aj,cx,cx]
   have e:=eq_of_beq h;rw[<-e];cases k==x.1<;>rfl
def Af:∀(d:List Bd)(m c:List Mk),cJ d m = .ok c->∀nr a,dV wd a (eN c nr)=dV wd a (eN m nr++m2 nr d)
 |[],m,c,h,nr,a=>by
  have:m=c:=by simpa[cJ]using h
  rw[this,show m2 nr []=[]from rfl,eG]
 |b::t,m,c,h,nr,a=>by
  unfold cJ at h;cases h1 : !(bV b.act).2<;>rw[h1]at h
  .cases h2:(cj b.cond).2 !=0<;>rw[h2]at h
   .rw[af,af]at h
    rw[Af t _ _ h nr a];unfold eN m2;rw[HH,tO];cases hk:nr==b.nr
    .rfl
    .rw[aj,aF rfl,bB]
     rw[show(Option.map (fun x:Mk=>x.2) (some (b.nr,mT ((Option.map (fun x:Mk=>x.2) (gm m b.nr)).getD []) ⟨(cj b.cond).1,b.act⟩))).getD []=mT ((Option.map (fun x:Mk=>x.2) (gm m b.nr)).getD []) ⟨(cj b.cond).1,b.act⟩from rfl]
     rw[jG,Nw,<-jG,bn,eq_of_beq hk];rfl
   .simp at h
  .simp at h
def Up{l:List Sp}{s:Sp}(h:∀x∈l,x.cl≠[]):∀x∈mT l s,x.cl≠[]:=by
 unfold mT;cases h0:(s.cl.length:Int)==0
 .have c:s.cl≠[]:=by intro b;rw[b]at h0;simp at h0
  have a:∀x∈l++[s],x.cl≠[]:=fun x a=>by
   rcases bC.1 a with a|a
   .exact h x a
   .simp at a;subst a;exact c
  rw[af];cases decide ((l.length:Int)>0)
  .exact a
  .cases nJ (l.getLastD ⟨[],⟨0,0⟩⟩).cl
   .exact a
   .exact h
 .exact h
structure Uq (bs:List Bd) (m m':List Mk):Prop where
 nodup:(m'.map (·.1)).Nodup
 keys:∀k∈m'.map (·.1),k∈m.map (·.1)\/∃b∈bs,b.nr=k
 ne:∀y∈m',∀s∈y.2,s.cl≠[]
def vc:∀(j:List Bd)(m d:List Mk),cJ j m = .ok d->(m.map (·.1)).Nodup->(∀y∈m,∀s∈y.2,s.cl≠[])->Uq j m d
 |[],m,d,h,g,f=>by
  have:m=d:=by simpa[cJ]using h
  subst this;exact⟨g,fun k c=>.inl c,f⟩
 |b::t,m,d,h,g,f=>by
  unfold cJ at h;cases h1 : !(bV b.act).2<;>rw[h1]at h
  .cases h2:(cj b.cond).2 !=0<;>rw[h2]at h
   .rw[af,af]at h
    have o:∀s∈eN m b.nr,s.cl≠[]:=by
     unfold eN;cases hg:gm m b.nr with
     |none=>simp
     |some y=>exact f y (lv hg).1
    have c:∀k∈(oL (b.nr,mT (eN m b.nr) ⟨(cj b.cond).1,b.act⟩) m).map (·.1),k∈m.map (·.1)\/k=b.nr:=fun k c=>by
     obtain⟨y,a,rfl⟩:=bg.1 c;rcases lu a with rfl|a
     .exact .inr rfl
     .exact .inl (C2 a)
    have i:=vc t _ _ h (tp g) fun y a=>by
     rcases lu a with rfl|a
     .exact Up o
     .exact f y a
    refine⟨i.nodup,fun k n=>?_,i.ne⟩
    rcases i.keys k n with h|⟨b',l,e⟩
    .rcases c k h with h|rfl
     .exact .inl h
     .exact .inr ⟨b,aS,rfl⟩
    .exact .inr ⟨b',aP _ l,e⟩
   .simp at h
  .simp at h
def HI{n:Int}:∀{l:List Int},l.Pairwise (· < ·)->n∉l->(ni n l).Pairwise (· < ·)
 |[],_,_=>by simp[ni]
 |m::l,h,d=>by
  obtain⟨c,f⟩:=kR.1 h;unfold ni;have i:n≠m:=fun e=>d (by rw[e];exact aS)
  cases hd:decide (n<=m)
  .have:=bH hd
   rw[af];refine kR.2 ⟨fun k b=>?_,HI f fun h=>d (aP _ h)⟩
   have:∀(l:List Int)k,k∈ni n l->k=n\/k∈l:=by
    intro l;induction l with
    |nil=>intro k b;simp[ni]at b;exact .inl b
    |cons a l g=>
     intro k b;unfold ni at b;cases hd:decide (n<=a)<;>rw[hd]at b
     .rcases aU.1 b with rfl|b
      .exact .inr aS
      .rcases g k b with h|h
       .exact .inl h
       .exact .inr (aP _ h)
     .rcases aU.1 b with rfl|b
      .exact .inl rfl
      .exact .inr b
   rcases this l k b with rfl|b
   .omega
   .exact c k b
  .have:=aN hd
   rw[aj];refine kR.2 ⟨fun k b=>?_,h⟩
   rcases aU.1 b with rfl|b
   .omega
   .have:=c k b;omega
def Cm:∀{l:List Int},l.Nodup->(gD l).Pairwise (· < ·)
 |[],_=>List.Pairwise.nil
 |n::l,h=>by
  obtain⟨a,b⟩:=hH.1 h;exact HI (Cm b) fun c=>a ((se l n).1 c)
def Sb(f:Int->Ch)(a:∀k,(f k).nr=k):∀(c:List Int)(n:Int),0<=n->n<=4294967296->(∀k∈c,n<=k/\k<4294967296)->c.Pairwise (· < ·)->J5 n (c.map f)
 |[],n,b,d,_,_=>⟨b,d⟩
 |k::t,n,b,d,e,i=>by
  obtain⟨l,m⟩:=kR.1 i;have:=e k aS;refine⟨b,by rw[a];omega,by rw[a];omega,?_⟩
  rw[a];exact Sb f a t (k+1) (by omega) (by omega) (fun j g=>⟨by have:=l j g;omega,(e j (aP _ g)).2⟩) m
def so{a:List Bd}{m:List Mk}(h:cJ a []=.ok m)(d:∀b∈a,0<=b.nr/\b.nr<4294967296):J5 0 (bT m):=by
 have ok:=vc a [] m h (by simp) (by simp)
 refine Sb _ (fun k=>rfl) _ 0 (by omega) (by omega) (fun k e=>?_) (Cm ok.nodup)
 rcases ok.keys k ((se _ k).1 e)with h|⟨b,c,rfl⟩
 .simp at h
 .exact d b c
def LP{α:Type}{f:α->α->Bool}(d:∀x y,f x y=true->x=y):∀{a b:List α},a.length=b.length->Hk f a b=true->a=b
 |[],[],_,_=>rfl
 |[],y::b,h,_=>by simp at h
 |x::a,[],h,_=>by simp at h
 |x::a,y::b,h,c=>by
  unfold Hk at c;cases hxy:f x y<;>rw[hxy]at c
  .simp at c
  .rw[d x y hxy,LP d (by simpa using h) c]
def Kb{α:Type}{f:α->α->Bool}(c:∀x y,f x y=true->x=y){a b:List α}(h:Iu f a b=true):a=b:=by
 unfold Iu at h;cases hl:(a.length:Int) !=(b.length:Int)<;>rw[hl]at h
 .exact LP c (by simp at hl;omega) h
 .simp at h
def Ur(x y:Hf)(h:tj x y=true):x=y:=by
 obtain⟨a,o,g,m,v⟩:=x;obtain⟨a',o',i,j,k⟩:=y;simp[tj]at h;obtain⟨⟨⟨⟨b,c⟩,d⟩,e⟩,f⟩:=h;rw[b,c,d,e,f]
def Sc(x y:Sp)(h:zJ x y=true):x=y:=by
 unfold zJ at h;obtain⟨e,g⟩:=cd (b:=((true&&(x.act.kind==y.act.kind))&&(x.act.data==y.act.data))) h;have f:=Kb (fun a b=>Kb Ur) g
 obtain⟨c,k,d⟩:=x;obtain⟨i,l,j⟩:=y;simp at e f;rw[e.1,e.2,f]
def Nx{x y:Sn}(h:nX x y=true):x.steps=y.steps/\x.act=y.act:=by
 unfold nX at h;obtain⟨a,c⟩:=cd (b:=((true&&(x.act.kind==y.act.kind))&&(x.act.data==y.act.data))) h;refine⟨Kb Sc c,?_⟩;simp at a;obtain⟨_,_,_,k,d⟩:=x;obtain⟨_,_,_,f,e⟩:=y;simp at a;rw[a.1,a.2]
def rC:∀{p q:List Sn}{a m b:Int},eM p a m->eM q m b->eM (p++q) a b
 |[],q,a,m,b,h,g=>by rw[show a=m from h];exact g
 |x::p,q,a,m,b,⟨c,d,e⟩,g=>⟨c,d,rC e g⟩
def wZ:∀{l:List Sn}{a b:Int},eM l a b->∀nr,a<=nr->nr<b->∃x∈l,x.lo<=nr/\nr<=x.hi
 |[],a,b,h,nr,c,d=>by have:a=b:=h;omega
 |x::t,a,b,⟨c,d,e⟩,nr,j,f=>by
  by_cases g:nr<=x.hi
  .exact⟨x,aS,by omega,g⟩
  .obtain⟨y,i,k⟩:=wZ e nr (by omega) f
   exact⟨y,aP _ i,k⟩
def Ag(F:Int->List Sp×Act)(l:List Sn):Prop:=∀x∈l,∀nr,x.lo<=nr->nr<=x.hi->F nr=(x.steps,x.act)
def wq{F:Int->List Sp×Act}{a:List Sn}{x:Sn}(h:eM a 0 x.lo)(g:Ag F a)(u:x.lo<=x.hi)(i:∀nr,x.lo<=nr->nr<=x.hi->F nr=(x.steps,x.act)):eM (addN a x) 0 (x.hi+1)/\Ag F (addN a x)/\(addN a x).length<=a.length+1:=by
 have plain:eM (a++[x]) 0 (x.hi+1)/\Ag F (a++[x])/\(a++[x]).length<=a.length+1:=by
  refine⟨rC h ⟨rfl,u,rfl⟩,fun y b=>?_,by simp⟩
  rcases bC.1 b with b|b
  .exact g y b
  .simp at b;subst b;exact i
 unfold addN;cases hd:decide ((a.length:Int)-1>=0)
 .exact plain
 .rw[aj]
  cases ha:nX (a.getLastD gy) x
  .exact plain
  .rw[aj]
   have f:=aN hd;have k:a≠[]:=by intro h;rw[h]at f;simp at f
   have e:a=a.dropLast++[a.getLastD gy]:=by
    have:=(x9 k).symm;rw[jP,jk k];exact this
   have hlen:a.dropLast.length<=a.length:=by rw[List.length_dropLast];omega
   generalize v:a.getLastD gy=z at*;generalize a.dropLast=p at*;subst e;obtain⟨l,n⟩:=Nx ha;obtain⟨m,o,q⟩:=tD h;obtain⟨t,w,j⟩:=q;have j:z.hi+1=x.lo:=j;refine⟨rC o ⟨t,by show z.lo<=x.hi;omega,rfl⟩,fun y b=>?_,by simp⟩
   rcases bC.1 b with b|b
   .exact g y (dL _ b)
   .simp at b;subst b
    intro nr c d;have d:nr<=x.hi:=d;have c:z.lo<=nr:=c;by_cases s:nr<=z.hi
    .exact g z (eT _ (by simp)) nr c s
    .show F nr=(z.steps,z.act)
     rw[l,n];exact i nr (by omega) d
def vd(a:List Ch)(d:Act)(nr:Int):List Sp×Act:=match a.find? fun c=>nr==c.nr with
 |some c=>((gZ c d).steps,(gZ c d).act)
 |none=>([],d)
def HJ:∀{a:List Ch}{n:Int},J5 n a->∀nr,nr<n->a.find? (fun c=>nr==c.nr)=none
 |[],n,_,nr,_=>rfl
 |c::t,n,⟨_,d,_,b⟩,nr,h=>by
  rw[cx,show(nr==c.nr)=false by rw[fo];omega]
  exact HJ b nr (by omega)
def Us(c:Ch)(d:Act):(gZ c d).lo=c.nr/\(gZ c d).hi=c.nr:=by
 unfold gZ;cases decide ((c.steps.length:Int)-1>=0)
 .exact⟨rfl,rfl⟩
 .cases nJ (c.steps.getLastD tq).cl<;>exact⟨rfl,rfl⟩
def rD(F:Int->List Sp×Act)(d:Act):∀(j:List Ch)(n:Int)(f:List Sn),J5 n j->eM f 0 n->Ag F f->(∀nr,n<=nr->F nr=vd j d nr)->
  eM (xl d j n f) 0 4294967296/\Ag F (xl d j n f)/\(xl d j n f).length<=f.length+2*j.length+1
 |[],n,f,⟨D,o⟩,g,i,k=>by
  unfold xl;cases hd:decide (n<=4294967295)
  .have:=bH hd
   have e:n=4294967296:=by omega
   rw[e]at g;exact⟨g,i,by show f.length<=_;omega⟩
  .have:=aN hd
   obtain⟨l,m,y⟩:=wq (x:=⟨n,4294967295,[],d⟩) g i this fun nr o _=>k nr o
   exact⟨l,m,by show(addN f _).length<=_;simp only[cO];omega⟩
 |c::t,n,f,⟨D,o,I,q⟩,g,i,k=>by
  obtain⟨v,w⟩:=Us c d;have H:F c.nr=((gZ c d).steps,(gZ c d).act):=by
   rw[k c.nr o,vd,cx,beq_self_eq_true]
  have r:∀nr,c.nr+1<=nr->F nr=vd t d nr:=fun nr h=>by
   rw[k nr (by omega),vd,vd,cx,show(nr==c.nr)=false by rw[fo];omega]
  have z:∀f,eM f 0 c.nr->Ag F f->eM (addN f (gZ c d)) 0 (c.nr+1)/\Ag F (addN f (gZ c d))/\(addN f (gZ c d)).length<=f.length+1:=by
   intro f g i;have:=wq (x:=gZ c d) (by rw[v];exact g) i (by rw[v,w];exact dY _) fun nr a b=>by
    rw[v]at a;rw[w]at b;rw[show nr=c.nr by omega];exact H
   rw[w]at this;exact this
  rw[xl];cases hd:decide (c.nr>n)
  .have:=bH hd
   have e:n=c.nr:=by omega
   obtain⟨l,m,y⟩:=z f (by rw[<-e];exact g) i
   obtain⟨s,u,E⟩:=rD F d t (c.nr+1) _ q l m r;exact⟨s,u,by rw[af];simp only[aC];omega⟩
  .have:=aN hd
   obtain⟨p,G,J⟩:=wq (x:=⟨n,c.nr-1,[],d⟩) g i (by show n<=c.nr-1;omega) fun nr a b=>by
    have a:n<=nr:=a;have b:nr<=c.nr-1:=b;rw[k nr a,vd,cx,show(nr==c.nr)=false by rw[fo];omega,HJ q nr (by omega)]
   have p:eM _ 0 (c.nr-1+1):=p;rw[Int.sub_add_cancel]at p;obtain⟨l,m,y⟩:=z _ p G;obtain⟨s,u,E⟩:=rD F d t (c.nr+1) _ q l m r;exact⟨s,u,by rw[aj];simp only[aC];omega⟩
def Se(c:Ch)(d:Act):dV wd (gZ c d).act (gZ c d).steps=dV wd d c.steps:=by
 unfold gZ;cases hd:decide ((c.steps.length:Int)-1>=0)
 .rfl
 .cases he:nJ (c.steps.getLastD tq).cl
  .rfl
  .have a:=aN hd
   have b:c.steps≠[]:=by intro h;rw[h]at a;simp at a
   have e:c.steps=c.steps.dropLast++[c.steps.getLastD tq]:=by
    have:=(x9 b).symm;rw[jP,jk b];exact this
   show dV wd (c.steps.getLastD tq).act c.steps.dropLast=dV wd d c.steps
   have f:=HG (wd:=wd) he;generalize c.steps.getLastD tq=z at*;generalize g:c.steps.dropLast=p at*;rw[e,jG,dV,f];rfl
def w5(f:Int->Ch)(a:∀k,(f k).nr=k)(nr:Int):∀(b:List Int),(b.map f).find? (fun c=>nr==c.nr)=bif b.any (nr == ·)then some (f nr)else none
 |[]=>rfl
 |k::t=>by
  rw[bB,cx,a,iP,w5 f a nr t];cases h:nr==k
  .rfl
  .rw[eq_of_beq h];rfl
def Ny{m:List Mk}{nr:Int}(h:(m.map (·.1)).any (nr == ·)=false):gm m nr=none:=by
 unfold gm;rw[List.find?_eq_none];intro x a;have:=List.any_eq_false.1 h x.1 (C2 a);exact this
def Sf(m:List Mk)(d:Act)(nr:Int):dV wd (vd (bT m) d nr).2 (vd (bT m) d nr).1=dV wd d (eN m nr):=by
 have e:=w5 (fun k=>⟨k,((gm m k).map (·.2)).getD []⟩) (fun k=>rfl) nr (gD (m.map (·.1)))
 have e:(bT m).find? (fun c=>nr==c.nr)=_:=e
 unfold vd;rw[e];cases ha:(gD (m.map (·.1))).any (nr == ·)
 .rw[af]
  have:(m.map (·.1)).any (nr == ·)=false:=by
   rw[List.any_eq_false]at ha⊢;exact fun k a=>ha k ((se _ k).2 a)
  rw[eN,Ny this];rfl
 .exact Se _ d
def Kc{c:List Bd}{m:List Mk}(d:Act)(h:cJ c []=.ok m)(g:∀b∈c,0<=b.nr/\b.nr<4294967296):∀x∈cu (bT m) d,∀nr,x.lo<=nr->nr<=x.hi->dV wd x.act x.steps=dV wd d (m2 nr c):=by
 obtain⟨_,f,_⟩:=rD (vd (bT m) d) d (bT m) 0 [] (so h g) rfl (fun x e=>by simp at e) fun _ _=>rfl
 intro x e nr a b;have:=f x e nr a b;have k:=Sf (wd:=wd) m d nr;rw[this]at k;rw[k,Af c [] m h nr d];rfl
def l8{a:List Bd}{m:List Mk}(d:Act)(h:cJ a []=.ok m)(f:∀b∈a,0<=b.nr/\b.nr<4294967296):eM (cu (bT m) d) 0 4294967296/\(cu (bT m) d).length<=2*m.length+1:=by
 obtain⟨e,_,c⟩:=rD (vd (bT m) d) d (bT m) 0 [] (so h f) rfl (fun x g=>by simp at g) fun _ _=>rfl
 refine⟨e,?_⟩;rw[show(bT m).length=m.length by unfold bT;rw[ao,wh,ao]]at c
 simpa[cu]using c
def Ut{c:Ch}{d:Act}(h:∀s∈c.steps,s.cl≠[]):∀s∈(gZ c d).steps,s.cl≠[]:=by
 unfold gZ;cases decide ((c.steps.length:Int)-1>=0)
 .exact h
 .cases nJ (c.steps.getLastD tq).cl
  .exact h
  .exact fun s a=>h s (tT _ a)
def Sg{g:List Bd}{m:List Mk}(d:Act)(h:cJ g []=.ok m)(o:∀b∈g,0<=b.nr/\b.nr<4294967296):∀x∈cu (bT m) d,∀s∈x.steps,s.cl≠[]:=by
 obtain⟨j,n,_⟩:=rD (vd (bT m) d) d (bT m) 0 [] (so h o) rfl (fun x f=>by simp at f) fun _ _=>rfl
 have ok:=vc g [] m h (by simp) (by simp)
 intro x f;have q:x.lo<=x.hi:=by
  have:∀(l:List Sn)(a b:Int),eM l a b->∀x∈l,x.lo<=x.hi:=by
   intro l;induction l with
   |nil=>intro a b _ x f;simp at f
   |cons y l p=>
    intro a b h x f;rcases aU.1 f with rfl|f
    .exact h.2.1
    .exact p _ _ h.2.2 x f
  exact this _ _ _ j x f
 have e:=n x f x.lo (dY _) q;have i:(vd (bT m) d x.lo).1=x.steps:=by rw[e]
 rw[<-i];unfold vd;cases hf:(bT m).find? fun c=>x.lo==c.nr with
 |none=>simp
 |some c=>
  refine Ut ?_;obtain⟨k,_,rfl⟩:=bg.1 (kS hf);show∀s∈eN m k,s.cl≠[]
  unfold eN;cases hg:gm m k with
  |none=>simp
  |some y=>exact ok.ne y (lv hg).1
end
structure Uu (bs:List Bd):Prop where
 len:bs.length<=2^13
 sz:∀b∈bs,dU b.cond<=2^10
 nr:∀b∈bs,0<=b.nr/\b.nr<4294967296
def Co(n:Nat):∀(l:List (List At))(b:List (List Hf)),(∀x∈l,x.length<=n)->(∀x∈b,x.length<=2*n)->∀x∈(lJ l b).1,x.length<=2*n
 |[],b,_,c=>fun x a=>by
  have a:x∈tm b:=a;exact(zF b c).2 x ((uX (fZ b) 0).2 x a)
 |y::t,b,d,c=>by
  unfold lJ;cases(bif !(cM y [[]]).2 then true else decide (((b++(cM y [[]]).1).length:Int)>256))
  .refine Co n t _ (fun x a=>d x (aP _ a)) fun x a=>?_
   rcases bC.1 a with a|a
   .exact c x a
   .have e:=(tn y [[]] 0 ⟨by simp,by simp⟩).each x a
    have f:=d y aS;omega
  .simp
def Ah(c:Cn):∀x∈(cj c).1,x.length<=2*dU c:=by
 unfold cj;cases(fu c).2 !=0
 .exact Co _ _ _ (wV c).each (by simp)
 .simp
def HK{n:Nat}:∀{l:List (List Hf)},(∀x∈l,x.length<=n)->mU l<=l.length*(3*n+3)
 |[],_=>by simp[mU]
 |x::l,h=>by
  have:=h x aS;have b:=HK fun y a=>h y (aP _ a)
  simp only[mU,aC,bY,cN];omega
def Yz(s:Sp):Prop:=s.cl.length<=256/\∀x∈s.cl,x.length<=2^11
def Fh:Nat:=2^21
def HL:∀{l:List Sp},(∀s∈l,Yz s)->ga l<=1+l.length*Fh
 |[],_=>by simp[ga]
 |s::l,h=>by
  obtain⟨a,b⟩:=h s aS;have e:=HL fun y c=>h y (aP _ c)
  have d:=HK b;have:s.cl.length*(3*2^11+3)<=256*(3*2^11+3):=dt _ a;simp only[ga,aC,bY,cN];unfold Fh at*;omega
def ke(m:List Mk):Nat:=(m.map fun x=>x.2.length).sum
def HM(l:List Sp)(s:Sp):(mT l s).length<=l.length+1/\∀x∈mT l s,x=s\/x∈l:=by
 have k:∀x∈l++[s],x=s\/x∈l:=fun x a=>by
  rcases bC.1 a with a|a
  .exact .inr a
  .simp at a;exact .inl a
 unfold mT;cases(s.cl.length:Int)==0
 .cases decide ((l.length:Int)>0)
  .exact⟨by simp,k⟩
  .cases nJ (l.getLastD ⟨[],⟨0,0⟩⟩).cl
   .exact⟨by simp,k⟩
   .exact⟨by simp,fun x a=>.inr a⟩
 .exact⟨by simp,fun x a=>.inr a⟩
def Ai(k:Int)(l:List Sp):∀(m:List Mk),l.length<=(eN m k).length+1->ke (oL (k,l) m)<=ke m+1
 |[],h=>by simp[eN,gm]at h;simp[oL,ke];exact h
 |y::m,h=>by
  have e:eN (y::m) k=bif k==y.1 then y.2 else eN m k:=by
   unfold eN gm;rw[cx];cases k==y.1<;>rfl
  rw[e]at h;unfold oL;cases hk:k==y.1
  .rw[hk]at h
   have:=Ai k l m h;simp only[af,ke,bB,eF]at this⊢;omega
  .rw[hk]at h
   simp only[aj,ke,bB,eF]at h⊢;omega
structure MSm (n:Nat) (m:List Mk):Prop where
 len:m.length<=n
 st:ke m<=n
 each:∀y∈m,∀s∈y.2,Yz s
def Aj:∀(e:List Bd)(m c:List Mk)(n:Nat),cJ e m = .ok c->MSm n m->(∀b∈e,dU b.cond<=2^10)->MSm (n+e.length) c
 |[],m,c,n,h,a,_=>by
  have:m=c:=by simpa[cJ]using h
  subst this;exact a
 |b::t,m,c,n,h,a,i=>by
  unfold cJ at h;cases h1 : !(bV b.act).2<;>rw[h1]at h
  .cases h2:(cj b.cond).2 !=0<;>rw[h2]at h
   .rw[af,af]at h
    have o:Yz ⟨(cj b.cond).1,b.act⟩:=⟨rn b.cond,fun x f=>by have:=Ah b.cond x f;have:=i b aS;omega⟩
    obtain⟨k,l⟩:=HM (eN m b.nr) ⟨(cj b.cond).1,b.act⟩;have:=Aj t _ c (n+1) h ⟨by have:=zH (b.nr,mT (eN m b.nr) ⟨(cj b.cond).1,b.act⟩) m;have:=a.len;unfold eN at*; omega,by have:=Ai b.nr _ m k;have:=a.st;unfold eN at*; omega,fun y g s j=>by
     rcases lu g with rfl|g
     .rcases l s j with rfl|d
      .exact o
      .unfold eN at d
       cases hg:gm m b.nr with
       |none=>rw[hg]at d;simp at d
       |some z=>rw[hg]at d;exact a.each z (lv hg).1 s d
     .exact a.each y g s j⟩ fun x f=>i x (aP _ f)
    rw[aC,show n+(t.length+1)=n+1+t.length by omega]
    exact this
   .simp at h
  .simp at h
def sq(a:List Sn)(x:Sn):gW (addN a x)<=gW a+ga x.steps+3:=by
 have plain:gW (a++[x])<=gW a+ga x.steps+3:=by rw[me];simp[gW];omega
 unfold addN;cases hd:decide ((a.length:Int)-1>=0)
 .exact plain
 .cases nX (a.getLastD gy) x
  .exact plain
  .have c:=aN hd
   have d:a≠[]:=by intro h;rw[h]at c;simp at c
   have e:a=a.dropLast++[a.getLastD gy]:=by
    have:=(x9 d).symm;rw[jP,jk d];exact this
   have b:=me a.dropLast [a.getLastD gy];rw[<-e]at b;simp only[aj];rw[me];simp only[gW]at b⊢;omega
def Ak:∀(l:List Sp),ga l.dropLast<=ga l
 |[]=>ar _
 |[s]=>by simp[ga]
 |s::t::l=>by
  have:=Ak (t::l);rw[List.dropLast_cons_cons];simp only[ga]at this⊢;omega
def Nz(c:Ch)(d:Act):ga (gZ c d).steps<=ga c.steps:=by
 unfold gZ;cases decide ((c.steps.length:Int)-1>=0)
 .exact ar _
 .cases nJ (c.steps.getLastD tq).cl
  .exact ar _
  .exact Ak _
def Fj(l:List Ch):Nat:=(l.map fun c=>ga c.steps+7).sum
def Al(d:Act):∀(b:List Ch)(n:Int)(a:List Sn),gW (xl d b n a)<=gW a+Fj b+4
 |[],n,a=>by
  unfold xl;have:=sq a ⟨n,4294967295,[],d⟩;cases decide (n<=4294967295)
  .simp only[af];omega
  .simp only[aj,ga]at this⊢; omega
 |c::t,n,a=>by
  have e:=sq a ⟨n,c.nr-1,[],d⟩;have i:=sq (addN a ⟨n,c.nr-1,[],d⟩) (gZ c d);have j:=sq a (gZ c d);have k:=Nz c d;have f:=Al d t (c.nr+1) (addN (addN a ⟨n,c.nr-1,[],d⟩) (gZ c d));have g:=Al d t (c.nr+1) (addN a (gZ c d));unfold xl;simp only[ga]at e;simp only[Fj,bB,eF]at f g⊢;cases decide (c.nr>n)<;>simp only[aj,af]<;>omega
def w6{f:Int->Nat}:∀(l:List Int),((gD l).map f).sum=(l.map f).sum
 |[]=>rfl
 |n::l=>by
  have b:=w6 (f:=f) l;have:∀(m:List Int),((ni n m).map f).sum=f n+(m.map f).sum:=by
   intro m;induction m with
   |nil=>simp[ni]
   |cons a m b=>
    unfold ni;cases decide (n<=a)
    .simp only[af,bB,eF,b];omega
    .simp
  show((ni n (gD l)).map f).sum=_
  rw[this,b];simp
def HN{n:Nat}{m:List Mk}(h:MSm n m)(g:(m.map (·.1)).Nodup):Fj (bT m)<=n*8+n*Fh:=by
 unfold Fj bT;rw[dE];rw[w6];rw[dE];have key:∀(t:List Mk),(∀y∈t,(gm m y.1).map (·.2)=some y.2/\∀s∈y.2,Yz s)->((t.map ((fun c:Ch=>ga c.steps+7)∘(fun k=>⟨k,((gm m k).map (·.2)).getD []⟩)∘fun x=>x.1)).sum)<=t.length*8+ke t*Fh:=by
  intro t;induction t with
  |nil=>intro _;simp
  |cons y t d=>
   intro a;obtain⟨i,j⟩:=a y aS;have:=d fun z l=>a z (aP _ l)
   have q:=HL j;simp only[bB,eF,ke,C4,i,mq,aC,bY]at this⊢;omega
 have k:=key m fun y a=>⟨?_,h.each y a⟩
 .have:=h.len
  have:=h.st;have:ke m*Fh<=n*Fh:=dt _ h.st;exact dF k (by omega)
 ·
  have:∀(t:List Mk),(t.map (·.1)).Nodup->y∈t->gm t y.1=some y:=by
   intro t;induction t with
   |nil=>intro _ h;simp at h
   |cons z t d=>
    intro g a;obtain⟨o,p⟩:=hH.1 g;unfold gm at d⊢;rw[cx];rcases aU.1 a with rfl|a
    .rw[beq_self_eq_true]
    .have:(y.1==z.1)=false:=by
      rw[fo];intro e;have b:=C2 (f:=fun x:Mk=>x.1) a
      have b:y.1∈t.map (·.1):=b
      rw[e]at b;exact o b
     rw[this];exact d p a
  rw[this m g a];rfl
def Am{a:List Bd}{m:List Mk}(d:Act)(h:cJ a []=.ok m)(b:Uu a):gW (cu (bT m) d)+3*(cu (bT m) d).length+20<=2^40:=by
 have e:=Aj a [] m 0 h ⟨by simp,by simp[ke],by simp⟩ b.sz
 have ok:=vc a [] m h (by simp) (by simp)
 have f:=Al d (bT m) 0 [];have c:=HN e ok.nodup;have g:=(l8 d h b.nr).2;have i:=e.len;have j:=b.len;have k:a.length*Fh<=2^13*Fh:=dt _ j;unfold cu at g⊢;simp only[gW]at f;unfold Fh at c k;simp only[cr]at c i;omega
def x5(n:Int):Prop:=0<=n/\n<4294967296
def oQ(n:Int):x5 (IntKind.wrap .u32 n):=by
 have:=za (k:=.u32) rfl n;exact⟨this.1,by have:=this.2;simpa[IntKind.bits]using this⟩
def Ao(a:Act):x5 (pQ a):=by
 unfold pQ bV;cases(bif(bif !(fC a.kind).2 then true else decide (a.data<0))then true else decide (a.data>(bif(bif(bif(a.kind==3)then true else(a.kind==4))then true else(a.kind==5))then 65535 else 0)))
 .exact oQ _
 .exact⟨dY 0,by show(0:Int)<4294967296;decide⟩
def Sh(h:Hf):Prop:=x5 h.mask/\x5 h.value
def x6(a:At)(b:Bool)(o:Int):Sh (mR a b o):=by
 unfold mR;cases b<;>exact⟨oQ _,oQ _⟩
def NA(a:At):∀c∈dM a,∀h∈c,Sh h:=by
 have e:∀s,∀c∈l4 a s,∀h∈c,Sh h:=by
  intro s c d h b;simp only[l4,aU,jN,or_false]at d;rcases d with rfl|rfl<;>simp at b
  .subst b;exact x6 _ _ _
  .rcases b with rfl|rfl<;>exact x6 _ _ _
 unfold dM;cases !sD a.arg a.op
 .cases a.op==1
  .cases a.op==2
   .cases a.op==6
    .cases a.op==4
     .exact e _
     .exact e _
    .exact e _
   .intro c d h b
    simp at d;rcases d with rfl|rfl<;>simp at b<;>subst b<;>exact x6 _ _ _
  .intro c d h b
   simp at d;subst d;simp at b;rcases b with rfl|rfl<;>exact x6 _ _ _
 .simp
def NB{α:Type}{Q:α->Prop}{a b:List (List α)}(f:∀c∈a,∀x∈c,Q x)(g:∀c∈b,∀x∈c,Q x):∀c∈(lr a b).1,∀x∈c,Q x:=by
 unfold lr;cases decide ((a.length:Int)*(b.length:Int)>256)
 .intro c e x d
  obtain⟨y,i,e⟩:=fk.1 (show c∈fI a b from e)
  obtain⟨z,j,rfl⟩:=bg.1 e;rcases bC.1 d with d|d
  .exact f y i x d
  .exact g z j x d
 .simp
def w7{Q:Hf->Prop}:∀(l:List At)(d:List (List Hf)),(∀a∈l,∀c∈dM a,∀h∈c,Q h)->(∀c∈d,∀h∈c,Q h)->∀c∈(cM l d).1,∀h∈c,Q h
 |[],d,_,h=>h
 |a::t,d,e,h=>by
  unfold cM;cases(lr d (dM a)).2
  .simp
  .exact w7 t _ (fun b f=>e b (aP _ f)) (NB h (e a aS))
def w8:∀(l c:List Hf),∀h∈(cv l c).1,h∈c\/h∈l
 |[],c,h,a=>.inl a
 |x::t,c,h,a=>by
  have k:∀e,(∀y∈e,y∈c\/y=x)->h∈(cv t e).1->h∈c\/h∈x::t:=fun e f d=>by
   rcases w8 t e h d with d|d
   .rcases f h d with h|rfl
    .exact .inl h
    .exact .inr aS
   .exact .inr (aP _ d)
  unfold cv at a;cases h1:lI x<;>rw[h1]at a
  .cases f:c.any (fun y=>mS y x)<;>rw[f]at a
   .cases h3:jh x<;>rw[h3]at a
    .cases h4:c.any (tj x)<;>rw[h4]at a
     .exact k _ (fun y b=>by rcases bC.1 b with b|b;exact .inl b;simp at b;exact .inr b) a
     .exact k _ (fun y b=>.inl b) a
    .exact k _ (fun y b=>.inl b) a
   .simp at a
  .simp at a
def Cp{Q:Hf->Prop}:∀(l:List (List Hf)),(∀c∈l,∀h∈c,Q h)->∀c∈fZ l,∀h∈c,Q h
 |[],_=>by simp[fZ]
 |x::t,e=>by
  have f:=Cp t fun c a=>e c (aP _ a)
  unfold fZ;cases(cv x []).2
  .exact f
  .intro c a h d
   rcases aU.1 (show c∈(cv x []).1::fZ t from a)with rfl|a
   .rcases w8 x [] h d with b|b
    .simp at b
    .exact e x aS h b
   .exact f c a h d
def Ke{Q:Hf->Prop}(l:List (List Hf))(b:∀c∈l,∀h∈c,Q h):∀c∈tm l,∀h∈c,Q h:=fun c a=>Cp l b c ((uX (fZ l) 0).2 c a)
def Ap{Q:Hf->Prop}:∀(l:List (List At))(e:List (List Hf)),(∀c∈l,∀a∈c,∀d∈dM a,∀h∈d,Q h)->(∀c∈e,∀h∈c,Q h)->∀c∈(lJ l e).1,∀h∈c,Q h
 |[],e,_,h=>Ke e h
 |x::t,e,f,h=>by
  unfold lJ;cases(bif !(cM x [[]]).2 then true else decide (((e++(cM x [[]]).1).length:Int)>256))
  .refine Ap t _ (fun c b=>f c (aP _ b)) fun c b=>?_
   rcases bC.1 b with b|b
   .exact h c b
   .exact w7 x [[]] (f x aS) (by simp) c b
  .simp
def w9{Q:Hf->Prop}(c:Cn)(h:∀d∈(fu c).1,∀a∈d,∀e∈dM a,∀h∈e,Q h):∀d∈(cj c).1,∀h∈d,Q h:=by
 unfold cj;cases(fu c).2 !=0
 .exact Ap _ [] h (by simp)
 .simp
def NC(c:Cn):∀d∈(cj c).1,∀h∈d,Sh h:=w9 c fun _ _ a _=>NA a
def spQ(Q:Hf->Prop)(s:Sp):Prop:=∀c∈s.cl,∀h∈c,Q h
def Cq{R:Sp->Prop}:∀(f:List Bd)(m c:List Mk),cJ f m = .ok c->(∀b∈f,R ⟨(cj b.cond).1,b.act⟩)->(∀y∈m,∀s∈y.2,R s)->∀y∈c,∀s∈y.2,R s
 |[],m,c,h,_,d=>by
  have:m=c:=by simpa[cJ]using h
  subst this;exact d
 |b::t,m,c,h,g,d=>by
  unfold cJ at h;cases h1 : !(bV b.act).2<;>rw[h1]at h
  .cases h2:(cj b.cond).2 !=0<;>rw[h2]at h
   .rw[af,af]at h
    refine Cq t _ c h (fun x i=>g x (aP _ i)) fun y e s a=>?_
    rcases lu e with rfl|e
    .rcases(HM _ _).2 s a with rfl|a
     .exact g b aS
     .cases hg:gm m b.nr with
      |none=>rw[hg]at a;simp at a
      |some z=>rw[hg]at a;exact d z (lv hg).1 s a
    .exact d y e s a
   .simp at h
  .simp at h
def ve{R:Sp->Prop}{b:List Sn}{x:Sn}(h:∀y∈b,∀s∈y.steps,R s)(e:∀s∈x.steps,R s):∀y∈addN b x,∀s∈y.steps,R s:=by
 have k:∀y∈b++[x],∀s∈y.steps,R s:=fun y a=>by
  rcases bC.1 a with a|a
  .exact h y a
  .simp at a;subst a;exact e
 unfold addN;cases hd:decide ((b.length:Int)-1>=0)
 .exact k
 .cases nX (b.getLastD gy) x
  .exact k
  .intro y a
   rcases bC.1 (show y∈b.dropLast++[_]from a)with a|a
   .exact h y (tT _ a)
   .rcases cE.1 a with rfl
    have c:=aN hd;have d:b≠[]:=by intro h;rw[h]at c;simp at c
    show∀s∈(b.getLastD gy).steps,R s
    rw[jP,jk d];exact h _ (List.getLast_mem d)
def LQ{R:Sp->Prop}(d:Act):∀(f:List Ch)(n:Int)(a:List Sn),(∀c∈f,∀s∈c.steps,R s)->(∀y∈a,∀s∈y.steps,R s)->∀y∈xl d f n a,∀s∈y.steps,R s
 |[],n,a,_,h=>by
  unfold xl;cases decide (n<=4294967295)
  .exact h
  .exact ve h (by simp)
 |c::t,n,a,b,h=>by
  have e:∀s∈(gZ c d).steps,R s:=by
   have:=b c aS;unfold gZ;cases decide ((c.steps.length:Int)-1>=0)
   .exact this
   .cases nJ (c.steps.getLastD tq).cl
    .exact this
    .exact fun s g=>this s (tT _ g)
  have i:=fun n a h=>LQ d t n a (fun c j=>b c (aP _ j)) h
  unfold xl;cases decide (c.nr>n)
  .exact i _ _ (ve h e)
  .exact i _ _ (ve (ve h (by simp)) e)
def Cr{R:Sp->Prop}{a:List Bd}{m:List Mk}(d:Act)(h:cJ a []=.ok m)(e:∀b∈a,R ⟨(cj b.cond).1,b.act⟩):∀x∈cu (bT m) d,∀s∈x.steps,R s:=by
 refine LQ d (bT m) 0 [] (fun c f=>?_) (by simp)
 obtain⟨k,_,rfl⟩:=bg.1 f;show∀s∈((gm m k).map (·.2)).getD [],R s
 cases hg:gm m k with
 |none=>simp
 |some y=>exact Cq a [] m h e (by simp) y (lv hg).1
def PK(w:Wr):Prop:=∀x∈w.l,x5 x.k
section
variable {w:Wr}
def kN(h:PK w){t f c k:Int}(b:x5 k):PK (eL w t f c k):=fun x a=>by
 rcases bC.1 (show x∈w.l++[_]from a)with a|a
 .exact h x a
 .simp at a;subst a;exact b
def sr(h:PK w)(ch:Int):PK (cy w ch):=by
 unfold cy;cases w.label !=0
 .exact h
 .exact kN h ⟨by decide,by decide⟩
def LR(h:PK w){x:Hf}(a:Sh x)(y z:Int):PK (testW w x y z):=by
 have b:PK (iW w x):=by
  unfold iW;cases x.mask !=4294967295
  .exact kN h (oQ _)
  .exact kN (kN h (oQ _)) a.1
 unfold testW;cases qb x.op<;>exact kN b a.2
def Si(n yes no next:Int):∀(t:List Hf)(i:Int)(w:Wr),PK w->(∀h∈t,Sh h)->PK (ts n yes no next t i w)
 |[],_,_,h,_=>h
 |x::t,i,w,h,a=>by
  have b:=a x aS;unfold ts;refine Si n yes no next t _ _ ?_ fun y c=>a y (aP _ c)
  cases decide (i<n-1)
  .cases no==next<;>exact LR h b _ _
  .exact LR h b _ _
def Cs(h:PK w){l:List Hf}(a:∀x∈l,Sh x)(yes no next:Int):PK (dh w l yes no next):=by
 unfold dh;refine Si _ _ _ _ l _ _ ?_ a;cases(bif(l.length:Int)==0 then yes !=0 else false)
 .exact h
 .exact kN h ⟨by decide,by decide⟩
def Sj(h:PK w)(s:Sp)(a e:Int):PK (zL s a e w):=by
 unfold zL;cases decide ((s.cl.length:Int)>0)
 .exact sr h _
 .exact sr (kN (sr h _) (Ao _)) _
def Sk(s:Sp)(a e:Int):∀(t:List (List Hf))(i:Int)(w:Wr),PK w->(∀c∈t,∀h∈c,Sh h)->PK (wj s a e t i w)
 |[],_,_,h,_=>Sj h s a e
 |x::t,i,w,h,b=>by
  have d:=b x aS;unfold wj;cases i==(s.cl.length:Int)-1
  .exact Sk s a e t _ _ (sr (Cs (w:=dn w) h d _ _ _) _) fun c f=>b c (aP _ f)
  .exact Sj (Cs (w:=dn w) h d _ _ _) s a e
def HO(a:Act):∀(t:List Sp)(w:Wr),PK w->(∀s∈t,spQ Sh s)->PK (rq a t w)
 |[],_,h,_=>kN h (Ao _)
 |s::t,w,h,b=>HO a t _ (Sk s _ _ s.cl 0 (dn (dn w)) h (b s aS)) fun x c=>b x (aP _ c)
def wu:∀(n:Nat)(l:List Sn)(w:Wr),l≠[]->PK w->(∀x∈l,x5 x.lo)->(∀x∈l,∀s∈x.steps,spQ Sh s)->l.length<=n->PK (eV n l w)
 |0,_,_,_,h,_,_,_=>h
 |n+1,l,w,j,h,c,b,k=>by
  unfold eV;cases hd:(l.length:Int)==1
  .have m:1<=l.length:=by cases l with|nil=>exact(j rfl).elim|cons=>simp
   have o:=gr hd;have d:(l.drop (l.length/2)).length=l.length-l.length/2:=hK ..;have e:(l.take (l.length/2)).length=l.length/2:=by simp;omega
   have f:l.length/2<l.length:=by omega
   have i:x5 (l.getD (l.length/2) gy).lo:=by
    rw[bS,bk f];exact c _ (gv f)
   have g:=wu n (l.take (l.length/2)) (eL (dn w) (w.az+1) 0 53 (l.getD (l.length/2) gy).lo) (by intro h;rw[h]at e;simp at e;omega) (kN (w:=dn w) h i) (fun x a=>c x (List.take_subset _ _ a)) (fun x a=>b x (List.take_subset _ _ a)) (by omega)
   exact wu n (l.drop (l.length/2)) _ (by intro h;rw[h]at d;simp at d;omega) (sr g _) (fun x a=>c x (List.drop_subset _ _ a)) (fun x a=>b x (List.drop_subset _ _ a)) (by omega)
  .match l,eq_of_beq hd with
   |[x],_=>exact HO x.act x.steps w h (b x aS)
end
def Uv{aq:Int}{l:List Sn}(g:x5 aq)(i:∀x∈l,∀s∈x.steps,spQ Sh s):∀x∈(fc aq l).1,x5 x.k:=by
 unfold fc;cases hr : !fP l 0
 .have d:=m0 l 0 (by simpa using hr)
  have m:=(oP d).2;have k:∀(l:List Sn)(a b:Int),eM l a b->∀x∈l,x.lo<=x.hi:=by
   intro l;induction l with
   |nil=>intro a b _ x c;simp at c
   |cons y l j=>
    intro a b h x c;rcases aU.1 c with rfl|c
    .exact h.2.1
    .exact j _ _ h.2.2 x c
  refine wu l.length l _ (by rintro rfl;have e:(0:Int)=4294967296:=d;simp at e) ?_ (fun x c=>?_) i (ar _)
  .refine kN (sr (kN (kN (kN (w:=dn ⟨[],0,0⟩) (fun x c=>by simp[dn]at c) ⟨by decide,by decide⟩) g) (Ao _)) _) ⟨by decide,by decide⟩
  .have f:=m x c
   have n:=k l _ _ d x c;exact⟨f.1,by omega⟩
 .simp
def Aq{k:Lk}{y:In}:∀(t:List Sy)(q:List (Bool×Bool))(i:Nat),y∈dp k t q i->∃x∈t,∃j p,y∈fE k j x p
 |[],q,i,h=>by cases q<;>simp[dp]at h
 |x::t,[],i,h=>by simp[dp]at h
 |x::t,p::q,i,h=>by
  rw[dp]at h;rcases bC.1 h with h|h
  .exact⟨x,aS,i,p,h⟩
  .obtain⟨z,a,r⟩:=Aq t q (i+1) h
   exact⟨z,aP _ a,r⟩
def z0:(-4611686018427387904:Int)<=0/\(0:Int)<=4611686018427387904:=by decide
def HP{l:List Sy}(f:∀x∈l,x5 x.k)(o:l.length<=2^30):∀x∈u3 l,NZ x:=by
 have ok:=Cf l;have m:=ok.pl;have t:=ok.fl;have c:∀i:Nat,0<=(fv l).place.getD i 0/\(fv l).place.getD i 0<=2^40:=by
  intro i;rw[bS];rcases bR i (fv l).place.length with h|h
  .rw[bk h]
   have:=zS (fv l).ct 0 ((fv l).place[i]) (by rw[<-m];exact gv h)
   show 0<=(fv l).place[i]/\(fv l).place[i]<=2^40
   omega
  .rw[ee h];exact⟨by decide,by decide⟩
 intro y k;obtain⟨x,g,j,p,h⟩:=Aq l (fv l).ct 0 k;have d:=f x g;have e:∀ch,0<=jK (fv l) j ch/\jK (fv l) j ch<=2^40:=fun ch=>c _
 have q:0<=x4 (fv l) j/\x4 (fv l) j<=2^40:=c _;have ja:∀n,NZ ⟨5,0,0,IntKind.wrap .u32 n⟩:=fun n=>⟨oQ n,z0,z0⟩
 have tt:=e x.t;have s:=e x.f;unfold fE at h;cases hj:cG x.code<;>rw[hj]at h
 .cases h5:x.code==5<;>rw[h5]at h
  .simp at h;subst h;exact⟨d,z0,z0⟩
  .simp at h;subst h;exact ja _
 .rw[aj,oM]at h
  rcases aU.1 h with rfl|h
  .obtain⟨a,b⟩:=p
   refine⟨d,?_,?_⟩
   .cases a<;>simp only[aj,af]<;>omega
   .cases a<;>cases b<;>simp only[aj,af]<;>omega
  .obtain⟨a,b⟩:=p
   rcases bC.1 h with h|h
   .cases a<;>simp[jaI]at h
    subst h;exact ja _
   .cases b<;>simp[jaI]at h
    subst h;exact ja _
def LS(l:List In):∀(t:List In)(i:Nat)(b:List Int),oO l t i b = -1->∀(j:Nat)x,t[j]?=some x->gn l ((i+j:Nat):Int) x=true
 |[],i,b,_,j,x,a=>by simp at a
 |y::t,i,b,h,j,x,a=>by
  unfold oO at h;cases h1:gn l i y<;>rw[h1]at h
  .have:(i:Int)= -1:=h
   omega
  .cases h2:sk y (b.getD i 0)<;>rw[h2]at h
   .cases j with
    |zero=>simp at a;subst a;exact h1
    |succ j=>
     have:=LS l t (i+1) _ h j x (by simpa using a)
     rw[show i+(j+1)=i+1+j by omega]
     exact this
   .have:(i:Int)= -1:=h
    omega
def su{l:List In}(h:(jy l).2=true):0<l.length/\l.length<=4096/\∀(x:In),x∈l->jx x=true/\xr x=true:=by
 unfold jy at h;cases hb:Hy l<;>rw[hb]at h
 .rw[af]at h
  have b:=eq_of_beq h;have hlen:0<l.length/\l.length<=4096:=by
   unfold Hy at hb;cases h1:(l.length:Int)==0<;>rw[h1]at hb
   .have:=bH hb
    have:l.length≠0:=fun e=>by rw[e]at h1;simp at h1
    omega
   .simp at hb
  refine⟨hlen.1,hlen.2,fun x d=>?_⟩
  obtain⟨j,c⟩:=Dc d;have a:=LS l l 0 _ b j x c;unfold gn at a;cases h1 : !(rr x.code).isSome<;>rw[h1]at a
  .cases h2 : !jx x<;>rw[h2]at a
   .cases h3 : !xr x<;>rw[h3]at a
    .exact⟨by simpa using h2,by simpa using h3⟩
    .simp at a
   .simp at a
  .simp at a
 .simp at h
def ND{l:List In}(h:(jy l).2=true)(j:∀x∈l,NZ x):∀x∈l,ROK x:=fun x e=>by
 obtain⟨f,a⟩:=(su h).2.2 x e;have d:=(j x e).k;simp[jx,cond_eq_ite]at f;refine⟨d,by omega,by omega,fun i=>?_⟩
 unfold xr at a;rw[i]at a;obtain⟨c,g⟩:=cd (b:=Int.tmod x.k 4==0) (show(bif Int.tmod x.k 4==0 then decide (x.k<=60)else false)=true from a)
 rw[beq_iff_eq,tY d.1]at c;exact⟨c,aN g⟩
def HQ(n:Int):IntKind.wrap .u8 n=n%256:=by simp[IntKind.wrap,IntKind.signed,IntKind.bits]
def X3(n:Int):IntKind.wrap .u64 n=n%18446744073709551616:=by simp[IntKind.wrap,IntKind.signed,IntKind.bits]
def Sl(n:Int):IntKind.wrap .u32 n=n%4294967296:=by simp[IntKind.wrap,IntKind.signed,IntKind.bits]
def orB(n:Nat){A C e:Nat}(a:A<2^e)(h:A+C*2^e<2^n):(BitVec.ofInt n (A:Int) ||| BitVec.ofInt n ((C*2^e:Nat):Int)).toNat=A+C*2^e:=by
 rw[BitVec.toNat_or,xB,xB,xw,xw,mo (by omega),mo (by omega)]
 rw[Nat.or_comm,kY,<-Nat.two_pow_add_eq_or_of_lt a,oc]
def orI(k:IntKind)(b:k = .u32\/k = .u64\/k = .i64){a c:Int}{e:Nat}(f:0<=a/\a<2^e)(j:0<=c)(h:a+c*2^e<2^31\/(k = .u32/\a+c*2^e<2^32)\/(k = .u64/\a+c*2^e<2^64)):cF .or k a (c*2^e)=a+c*2^e:=by
 obtain⟨A,rfl⟩:=iq f.1;obtain⟨C,rfl⟩:=iq j;have i:A<2^e:=by have:=f.2;exact_mod_cast this
 have g:((C:Int)*2^e)=((C*2^e:Nat):Int):=by push_cast;rfl
 rw[g]at h⊢;have fin:∀n:Nat,A+C*2^e<2^n->((BitVec.ofInt n (A:Int) ||| BitVec.ofInt n ((C*2^e:Nat):Int)).toNat:Int)=(A:Int)+((C*2^e:Nat):Int):=fun n d=>by
  rw[orB n i d];push_cast;rfl
 generalize C*2^e=M at*;rcases b with rfl|rfl|rfl
 .have d:A+M<2^32:=by rcases h with h|⟨_,h⟩|⟨b,_⟩<;>first|omega|exact absurd b (by decide)
  show IntKind.wrap .u32 ((BitVec.ofInt 32 (A:Int) ||| BitVec.ofInt 32 (M:Int)).toNat:Int)=_
  rw[fin 32 d,Sl];omega
 .have d:A+M<2^64:=by rcases h with h|⟨_,h⟩|⟨_,h⟩<;>omega
  show IntKind.wrap .u64 ((BitVec.ofInt 64 (A:Int) ||| BitVec.ofInt 64 (M:Int)).toNat:Int)=_
  rw[fin 64 d,X3];omega
 .have d:A+M<2^31:=by rcases h with h|⟨b,_⟩|⟨b,_⟩<;>first|omega|exact absurd b (by decide)
  show IntKind.wrap .i64 ((BitVec.ofInt 64 (A:Int) ||| BitVec.ofInt 64 (M:Int)).toNat:Int)=_
  rw[fin 64 (by omega),rp (by omega) (by omega)]
def Sm{n:Int}(h:0<=n)(i:Nat)(a:i<8):kc n i=n/2^(8*i)%256:=by
 unfold kc;rw[HQ,xM _ (iO (oa (by decide))),show min (Int.toNat ((8:Int)*(i:Int))) (IntKind.bits .u64)=8*i by simp[IntKind.bits];omega]
def mod_mul(n p q:Int)(a:0<p)(b:0<q):n%p+n/p%q*p=n%(p*q):=by
 have d:=Int.mul_ediv_add_emod n p;have f:=Int.mul_ediv_add_emod (n/p) q;have j:=mm n (jL a);have l:=oV n a;have i:=mm (n/p) (jL b);have k:=oV (n/p) b;have e:n=(n%p+n/p%q*p)+(p*q)*(n/p/q):=by
  have:p*(q*(n/p/q)+n/p%q)+n%p=n:=by rw[f];exact d
  rw[Int.mul_add]at this;rw[Int.mul_comm (n/p%q) p,Int.mul_assoc];omega
 have g:n%p+n/p%q*p<p*q:=by
  have:n/p%q*p<=(q-1)*p:=Ix (by omega) (iO a)
  rw[Int.sub_mul,Int.one_mul,Int.mul_comm q p]at this;omega
 have c:0<=n%p+n/p%q*p:=Int.add_nonneg j (tM i (iO a));generalize n%p+n/p%q*p=z at*;rw[e,Int.add_mul_emod_self_left,Int.emod_eq_of_lt c g]
def Ct{n:Int}(h:0<=n):∀(k i:Nat),i+k<=8->Hw (ie n k i) i (n%2^(8*i))=n%2^(8*(i+k))
 |0,i,_=>rfl
 |k+1,i,j=>by
  have c:=Sm h i (by omega)
  have a:(0:Int)<2^(8*i):=oa (by decide)
  have g:(2:Int)^(8*(i+1))=2^(8*i)*256:=by rw[Nat.mul_add,Int.pow_add];rfl
  have l:(2:Int)^(8*i)<=2^56:=by
   have:(2:Nat)^(8*i)<=2^56:=Db (by decide) (by omega)
   exact_mod_cast this
  have d:=mm n (jL a);have f:=oV n a;have b:0<=kc n i/\kc n i<256:=by rw[c];exact⟨mm _ (by decide),oV _ (by decide)⟩
  have e:n%2^(8*i)+kc n i*2^(8*i)=n%2^(8*(i+1)):=by
   rw[c,g];exact mod_mul n _ 256 a (by decide)
  have m:kc n i*2^(8*i)<=255*2^(8*i):=Ix (by omega) (iO a)
  rw[ie,Hw,qd (n:=kc n i) (by omega) (by omega),show min (Int.toNat ((8:Int)*(i:Int))) (IntKind.bits .u64)=8*i by simp[IntKind.bits];omega]
  rw[qd (n:=kc n i*2^(8*i)) (tM b.1 (iO a)) (by omega)]
  rw[orI .u64 (.inr (.inl rfl)) ⟨d,f⟩ b.1 (.inr (.inr ⟨rfl,by omega⟩)),e]
  have:=Ct h k (i+1) (by omega)
  rw[this,show i+1+k=i+(k+1) by omega]
def HR{n:Int}(h:0<=n)(k:Nat)(a:k<=8):kM (ie n k 0)=n%2^(8*k):=by
 have:=Ct h k 0 (by omega)
 rw[cr]at this;rw[<-this,kM];congr 1
 simp
def Uw{n:Int}(h:x5 n):IntKind.wrap .u32 (kM (ie n 4 0))=n:=by
 have:=h.2;rw[HR h.1 4 (by decide),Sl]
 have e:(2:Int)^(8*4)=4294967296:=rfl;rw[e];have:=h.1;omega
def Kf{n:Int}(h:0<=n/\n<18446744073709551616):kM (ie n 8 0)=n:=by
 rw[HR h.1 8 (by decide)]
 have e:(2:Int)^(8*8)=18446744073709551616:=rfl;rw[e];omega
def Kg{d:Da}(h:Ck d):R9 (m1 d)=d:=by
 have e:R9 (m1 d)=⟨IntKind.wrap .u32 (kM (ie d.nr 4 0)),IntKind.wrap .u32 (kM (ie d.aq 4 0)),kM (ie d.ip 8 0),kM (ie d.a0 8 0),kM (ie d.a1 8 0),kM (ie d.a2 8 0),kM (ie d.a3 8 0),kM (ie d.a4 8 0),kM (ie d.a5 8 0)⟩:=rfl;rw[e,Uw h.nr,Uw h.aq,Kf h.ip,Kf h.a0,Kf h.a1,Kf h.a2,Kf h.a3,Kf h.a4,Kf h.a5]
def LU{d:Da}(h:Ck d):gd d 0=d.nr:=Uw h.nr
def Cu{d:Da}(h:Ck d):gd d 4=d.aq:=Uw h.aq
def ajf(a:Int)(high:Bool):Int:=IntKind.wrap .u32 (kM (bif high then[kc a 4,kc a 5,kc a 6,kc a 7]else[kc a 0,kc a 1,kc a 2,kc a 3]))
def Da.arg(d:Da)(i:Nat):Int:=match i with|0=>d.a0|1=>d.a1|2=>d.a2|3=>d.a3|4=>d.a4|_=>d.a5
def HS(d:Da)(i:Nat)(a:i<6)(high:Bool):gd d (bif high then 16+8*i+4 else 16+8*i)=ajf (d.arg i) high:=by
 match i,a with
 |0,_=>cases high<;>rfl
 |1,_=>cases high<;>rfl
 |2,_=>cases high<;>rfl
 |3,_=>cases high<;>rfl
 |4,_=>cases high<;>rfl
 |5,_=>cases high<;>rfl
def LV{k:Int}(h:0<=k)(i:Nat)(a:i<4):kB k i=k/2^(8*i)%256:=by
 unfold kB;rw[HQ,xM _ (iO (oa (by decide))),show min (Int.toNat ((8:Int)*(i:Int))) (IntKind.bits .u32)=8*i by simp[IntKind.bits];omega]
def Fk{c x:Int}{i:Nat}(e:i<4)(d:0<=c/\c<2^(8*i))(b:0<=x/\x<256):zX c x i=c+x*2^(8*i):=by
 have a:(0:Int)<2^(8*i):=oa (by decide)
 have f:(2:Int)^(8*i)<=2^24:=by
  have:(2:Nat)^(8*i)<=2^24:=Db (by decide) (by omega)
  exact_mod_cast this
 have g:x*2^(8*i)<=255*2^(8*i):=Ix (by omega) (iO a)
 unfold zX;rw[zK (n:=x) (by omega) (by omega),show min (Int.toNat ((8:Int)*(i:Int))) (IntKind.bits .u32)=8*i by simp[IntKind.bits];omega]
 rw[zK (n:=x*2^(8*i)) (tM b.1 (iO a)) (by omega)]
 exact orI .u32 (.inl rfl) d b.1 (.inr (.inl ⟨rfl,by omega⟩))
def Kh{x:In}(u:jx x=true)(o:x5 x.k)(rest:List Int):Uj (lK x++rest)=x:=by
 simp[jx,cond_eq_ite]at u;obtain⟨c,w,v,k⟩:=x;simp only at u o;have m:=o.1;have E:=o.2;have f:=LV m 0 (by decide)
 have b:=LV m 1 (by decide)
 have g:=LV m 2 (by decide)
 have l:=LV m 3 (by decide)
 simp only[Nat.mul_zero,Int.pow_zero,Int.ediv_one,Nat.mul_one]at f b;have d:(2:Int)^8=256:=rfl;have t2:(2:Int)^(8*2)=65536:=rfl;have h:(2:Int)^(8*3)=16777216:=rfl;rw[d]at b;rw[t2]at g;rw[h]at l;have z:zX (zX (zX (zX 0 (kB k 0) 0) (kB k 1) 1) (kB k 2) 2) (kB k 3) 3=k:=by
  have p:=Fk (c:=0) (x:=kB k 0) (i:=0) (by decide) ⟨by decide,by decide⟩ ⟨by rw[show kB k 0=k%256 from f];omega,by rw[show kB k 0=k%256 from f];omega⟩
  have p:zX 0 (kB k 0) 0=k%256:=by rw[show zX 0 (kB k 0) 0=0+kB k 0*2^(8*0)from p,show kB k 0=k%256 from f];simp
  have q:=Fk (c:=k%256) (x:=kB k 1) (i:=1) (by decide) ⟨by omega,by show k%256<256;omega⟩ ⟨by rw[show kB k 1=k/256%256 from b];omega,by rw[show kB k 1=k/256%256 from b];omega⟩
  have q:zX (k%256) (kB k 1) 1=k%65536:=by rw[show zX (k%256) (kB k 1) 1=k%256+kB k 1*256 from q,show kB k 1=k/256%256 from b];omega
  have s:=Fk (c:=k%65536) (x:=kB k 2) (i:=2) (by decide) ⟨by omega,by show k%65536<65536;omega⟩ ⟨by rw[show kB k 2=k/65536%256 from g];omega,by rw[show kB k 2=k/65536%256 from g];omega⟩
  have s:zX (k%65536) (kB k 2) 2=k%16777216:=by rw[show zX (k%65536) (kB k 2) 2=k%65536+kB k 2*65536 from s,show kB k 2=k/65536%256 from g];omega
  have t:=Fk (c:=k%16777216) (x:=kB k 3) (i:=3) (by decide) ⟨by omega,by show k%16777216<16777216;omega⟩ ⟨by rw[show kB k 3=k/16777216%256 from l];omega,by rw[show kB k 3=k/16777216%256 from l];omega⟩
  have t:zX (k%16777216) (kB k 3) 3=k:=by rw[show zX (k%16777216) (kB k 3) 3=k%16777216+kB k 3*16777216 from t,show kB k 3=k/16777216%256 from l];omega
  rw[p,q,s,t]
 have y:cF .or .i64 (IntKind.wrap .i64 (IntKind.wrap .u8 c)) (IntKind.wrap .i64 ((IntKind.wrap .i64 (IntKind.wrap .u8 (Int.fdiv c (2^(min (Int.toNat 8) (IntKind.bits .i64))))))*2^(min (Int.toNat 8) (IntKind.bits .i64))))=c:=by
  rw[show min (Int.toNat 8) (IntKind.bits .i64)=8 from rfl,xM _ (by decide),HQ,HQ,d]
  rw[rp (n:=c%256) (by omega) (by omega),rp (n:=c/256%256) (by omega) (by omega),rp (n:=c/256%256*256) (by omega) (by omega)]
  have:=orI .i64 (.inr (.inr rfl)) (a:=c%256) (c:=c/256%256) (e:=8) ⟨by omega,by rw[d];omega⟩ (by omega) (.inl (by rw[d];omega))
  rw[d]at this;rw[this];omega
 have j:∀n:Int,0<=n->n<=255->IntKind.wrap .i64 (IntKind.wrap .u8 n)=n:=fun n r D=>by rw[HQ,rp (by omega) (by omega)];omega
 show In.mk (cF .or .i64 (IntKind.wrap .i64 (IntKind.wrap .u8 c)) (IntKind.wrap .i64 ((IntKind.wrap .i64 (IntKind.wrap .u8 (Int.fdiv c (2^(min (Int.toNat 8) (IntKind.bits .i64))))))*2^(min (Int.toNat 8) (IntKind.bits .i64))))) (IntKind.wrap .i64 (IntKind.wrap .u8 w)) (IntKind.wrap .i64 (IntKind.wrap .u8 v)) (zX (zX (zX (zX 0 (kB k 0) 0) (kB k 1) 1) (kB k 2) 2) (kB k 3) 3)=_
 rw[y,z,j w (by omega) (by omega),j v (by omega) (by omega)]
def pR:∀(l:List In)(a b:List Int),fw l a=some b->b=a++l.flatMap lK/\∀x∈l,jx x=true
 |[],a,b,h=>by simp[fw]at h;subst h;simp
 |x::t,a,b,h=>by
  unfold fw at h;cases hr : !jx x<;>rw[hr]at h
  .obtain⟨d,e⟩:=pR t _ b h
   refine⟨by rw[d];simp,fun y c=>?_⟩
   rcases aU.1 c with rfl|c
   .simpa using hr
   .exact e y c
  .simp at h
def Cv:∀(l:List In)(n:Nat)(b:List In),(∀x∈l,jx x=true/\x5 x.k)->l.length<n->pO n (l.flatMap lK) b=b++l
 |[],n,b,_,a=>by
  cases n with
  |zero=>simp at a
  |succ n=>simp[pO]
 |x::t,0,b,_,a=>by simp at a
 |x::t,n+1,b,h,a=>by
  obtain⟨d,e⟩:=h x aS;have c:(lK x).length=8:=rfl;rw[eI,pO,bI (by simp[c];omega),aj,Kh d e,List.drop_append,Di (by omega),ea,c,kZ,gq]
  rw[Cv t n _ (fun y f=>h y (aP _ f)) (by simpa using a)]
  simp
def HT{l:List In}{b:List Int}(h:fw l []=some b)(e:∀x∈l,x5 x.k):Hx b=(l,0):=by
 obtain⟨a,d⟩:=pR l [] b h;rw[ea]at a;have hlen:b.length=8*l.length:=by
  rw[a,List.length_flatMap];have:∀l:List In,(l.map fun x=>(lK x).length).sum=8*l.length:=by
   intro l;induction l with
   |nil=>rfl
   |cons x l f=>simp only[bB,eF,f,aC];show 8+_=_;omega
  exact this l
 unfold Hx;rw[show(Int.tmod (b.length:Int) 8 !=0)=false by rw[tY (by omega)];simp;omega,af]
 have:=Cv l (b.length+1) [] (fun x c=>⟨d x c,e x c⟩) (by omega)
 rw[<-a]at this;rw[this,ea]
abbrev xa:=Int×Int×Cx
def gQ(rec:Int->Wv->Option (Except xa Wv))(l:List Fl):List Tok->Bool->Wv->Option (Except xa Wv)
 |[],_,x=>some (.ok {x with stack:=x.stack.dropLast})
 |t::a,soft,x=>bif(bif t.kind !=5 then true else !(t.text==iU))then gQ rec l a soft {x with eX:=x.eX++[t]}else
  match a with
  |[]=>bif soft then none else some (.error (3,t.file,t.spot))
  |p::a=>bif soft then none else
   bif(fq l x p).2 !=0 then some (.error ((fq l x p).2,t.file,t.spot))else
   match rec (fq l x p).1 {x with n:=x.n+1}with
   |none=>none
   |some (.error f)=>some (.error f)
   |some (.ok y)=>gQ rec l a true y
def ig(l:List Fl):Nat->Int->Wv->Option (Except xa Wv)
 |0,_,_=>none
 |d+1,m,x=>match l[m.toNat]? with
  |none=>none
  |some f=>match jr f.text m with
   |.error (e,c)=>some (.error (e,m,c))
   |.ok a=>gQ (ig l d) l a false {x with stack:=x.stack++[m]}
def wx{rec:Int->Wv->Option (Except xa Wv)}{l:List Fl}{K:Nat}(d:∀m x y,rec m x=some (.ok y)->y.stack=x.stack/\y.eX.length<=x.eX.length+K):∀(a:List Tok)(soft:Bool)(x y:Wv),gQ rec l a soft x=some (.ok y)->
  y.stack=x.stack.dropLast/\y.eX.length<=x.eX.length+a.length+(bif soft then 0 else K)
 |[],soft,x,y,h=>by
  simp only[gQ,aw,Except.ok.injEq]at h;subst h;exact⟨rfl,by simp⟩
 |t::a,soft,x,y,h=>by
  unfold gQ at h;cases h1:(bif t.kind !=5 then true else !(t.text==iU))<;>rw[h1]at h<;>simp only[aj,af]at h
  .match a,h with
   |[],h=>cases soft<;>simp at h
   |p::a,h=>
    cases soft with
    |true=>simp at h
    |false=>
     simp only[af]at h;cases h2:((fq l x p).2 !=0)<;>rw[h2]at h<;>simp only[aj,af]at h
     .split at h
      .simp at h
      .simp at h
      .rename_i z g
       obtain⟨e,f⟩:=d _ _ _ g;obtain⟨b,c⟩:=wx d a true z y h;simp only[aj,af,aC]at e f c⊢;exact⟨by rw[b,e],by omega⟩
     .simp at h
  .obtain⟨b,c⟩:=wx d a soft _ y h
   simp only[de,aC,cO]at b c⊢;exact⟨b,by omega⟩
def wy(l:List Fl):∀(d:Nat)(m:Int)(x y:Wv),ig l d m x=some (.ok y)->y.stack=x.stack/\y.eX.length<=x.eX.length+20000*d
 |0,m,x,y,h=>by simp[ig]at h
 |d+1,m,x,y,h=>by
  unfold ig at h;split at h<;>try(simp at h;done)
  rename_i f g;split at h
  .simp at h
  .rename_i c e
   obtain⟨a,b⟩:=wx (wy l d) c false _ y h;have:=zb e;simp only[af]at a b;refine⟨by rw[a];simp,by omega⟩
def Cw(a:List Tok)(t:Tok):a.map Tok.row++([[N t.kind,S t.text,N t.file,C t.spot]]:Rw)=(a++[t]).map Tok.row:=by simp[Tok.row]
def NF(l:List Fl)(K:List AV->List Bx->Prop):Except xa Wv->Prop
 |.error (e,f,c)=>e≠0/\∃y:Wv,K [.agg [N e,N f,C c]] [Yu l y]
 |.ok y=>K [.agg [N 0,N 0,C Ek]] [Yu l y]
def NF.mono{l:List Fl}{K a:List AV->List Bx->Prop}{R:Except xa Wv}(h:NF l K R)(k:∀r y,K r [Yu l y]->a r [Yu l y]):NF l a R:=by
 revert h
 cases R with
 |error f=>exact fun⟨b,y,c⟩=>⟨b,y,k _ _ c⟩
 |ok y=>exact fun h=>k _ _ h
def aaN(l:List Fl)(rec:Int->Wv->Option (Except xa Wv))(ad:List Tok)(w:ad.length<=2^40)(c d:Int)(f:Cx):∀(b:List Tok)(i:Nat)(x:Wv)(R:Except xa Wv),ad.drop i=b->x.stack≠[]->x.stack.length<=2^40->x.eX.length+b.length<=2^40->gQ rec l b true x=some R ->
  NF l (Lp f93 0 (nU (ad.map Tok.row) i (l.map Fl.row) (x.stack.map fun n=>[N n]) x.n (x.eX.map Tok.row) c d f) 1) R
 |[],i,x,R,h,k,o,j,a=>by
  simp only[gQ,aw]at a;subst a;have:0<x.stack.length:=by cases hx:x.stack with|nil=>exact absurd hx k|cons=>simp
  refine Qg _ _ _ _ _ _ _ _ _ (aT (l:=ad) (by simp) h ⟨aB (by simp;omega) (by simp;omega),⟨by simp,by simp;omega,by simp;omega⟩,ai rfl ?_⟩)
  have e:List.drop 0 (List.take (Int.toNat (((x.stack.map fun n=>[N n]).length:Int)-1)) (x.stack.map fun n=>[N n]))=x.stack.dropLast.map fun n=>[N n]:=by
   rw[gq,ao,show Int.toNat ((x.stack.length:Int)-1)=x.stack.length-1 by omega,Dg,iQ]
  rw[e]
 |t::b,i,x,R,h,k,o,j,a=>by
  obtain⟨q,s,z⟩:=drop_cons h;have g:(ad.map Tok.row)[Int.toNat (i:Int)]?=some [N t.kind,S t.text,N t.file,C t.spot]:=aY q;unfold gQ at a;cases hk:(bif t.kind !=5 then true else !(t.text==iU))<;>rw[hk]at a<;>simp only[aj,af]at a
  .cases b<;>simp at a
  .have v:=aaN l rec ad w c d f b (i+1) {x with eX:=x.eX++[t]} R s k o (by simp at j⊢; omega) a
   refine v.mono ?_;have step:∀r h,Lp f93 0 (nU (ad.map Tok.row) ((i:Int)+1) (l.map Fl.row) (x.stack.map fun n=>[N n]) x.n ((x.eX++[t]).map Tok.row) c d f) 1 r h ->
     Lp f93 0 (nU (ad.map Tok.row) i (l.map Fl.row) (x.stack.map fun n=>[N n]) x.n (x.eX.map Tok.row) c d f) 1 r h:=by
    intro r p u;have push:(x.eX.map Tok.row++([[N t.kind,S t.text,N t.file,C t.spot]]:Rw)).length*48<=2^47/\bh .i64 ((i:Int)+1)/\Lp f93 0 (nU (ad.map Tok.row) ((i:Int)+1) (l.map Fl.row) (x.stack.map fun n=>[N n]) x.n (x.eX.map Tok.row++([[N t.kind,S t.text,N t.file,C t.spot]]:Rw)) c d f) 1 r p:=by
     refine⟨by simp at j⊢; omega,aB,?_⟩
     rw[Cw];exact u
    refine Qg _ _ _ _ _ _ _ _ _ (aO (l:=ad) (by simp) h ⟨_,_,_,_,by omega,g,ae (fun m=>⟨_,_,_,_,by omega,g,push⟩) fun m=>⟨_,_,_,_,by omega,g,bF ?_ ⟨_,_,_,_,by omega,g,push⟩⟩⟩)
    rw[m]at hk;exact hk
   exact fun r y=>step r _
abbrev aaO(l:List Fl)(m:Int)(x:Wv)(R:Except xa Wv):Prop:=NF l (ak 93 [.aA 0 0,vN m] [wv l x]) R
def Sq{l:List Fl}{a:St}{r:List AV}{y:Wv}(h:Lp f93 0 a 1 r [wv l y]):Lp f93 0 a 1 r [Yu l y]:=h.vp [(0,1)]
def L93(l:List Fl)(d:Nat)(hp:∀f∈l,f.path.length<=2^28)(A:∀m x R,ig l d m x=some R->Zf l x->0<=m->x.stack.length+d<=2^30->x.eX.length+20000*d<=2^40->aaO l m x R)(ad:List Tok)(b2:ad.length<=2^30)(a4:∀t∈ad,t.text.length<=2^28)(c s:Int)(v:Cx):
  ∀(k:List Tok)(i:Nat)(x:Wv)(R:Except xa Wv),ad.drop i=k->x.stack≠[]->Zf l x->x.stack.length+d<=2^30->x.eX.length+k.length+20000*d<=2^40->gQ (ig l d) l k false x=some R ->
   NF l (Lp f93 0 (zc (ad.map Tok.row) i (l.map Fl.row) (x.stack.map fun n=>[N n]) x.n (x.eX.map Tok.row) c s v) 1) R
 |[],i,x,R,h,G,ok,M,E,g=>by
  simp only[gQ,aw]at g;subst g;have hs:=ok.deep;have:0<x.stack.length:=by cases hx:x.stack with|nil=>exact absurd hx G|cons=>simp
  refine Qf _ _ _ _ _ _ _ _ _ (aT (l:=ad) (by simp) h ⟨aB (by simp;omega) (by simp;omega),⟨by simp,by simp;omega,by simp;omega⟩,ai rfl ?_⟩)
  have e:List.drop 0 (List.take (Int.toNat (((x.stack.map fun n=>[N n]).length:Int)-1)) (x.stack.map fun n=>[N n]))=x.stack.dropLast.map fun n=>[N n]:=by
   rw[gq,ao,show Int.toNat ((x.stack.length:Int)-1)=x.stack.length-1 by omega,Dg,iQ]
  rw[e]
 |t::k,i,x,R,h,G,ok,M,E,g=>by
  obtain⟨h1,h2,h3⟩:=drop_cons h;have q:(ad.map Tok.row)[Int.toNat (i:Int)]?=some [N t.kind,S t.text,N t.file,C t.spot]:=aY h1;unfold gQ at g;cases hk:(bif t.kind !=5 then true else !(t.text==iU))<;>rw[hk]at g<;>simp only[aj,af]at g
  .have a0:(t.kind !=5)=false:=by revert hk;cases t.kind !=5<;>simp
   have b1:(!(t.text==[35,105,110,99,108,117,100,101]))=false:=by rw[a0]at hk;exact hk
   have e:List.drop (Int.toNat (i:Int)) (List.take (ad.map Tok.row).length (ad.map Tok.row))=(t::k).map Tok.row:=by
    rw[eU (ar _),toNat_cast,<-od,h]
   have o:=aec l x (t::k) ok G (fun u hu=>a4 u (tV (h▸hu))) hp
   have J:∀r D,(∃target Z F,ak 130 [.aA 0 0,vL 4 ((t::k).map Tok.row)] [wv l x] [vN target,vN Z] [.cells [vL 2 (l.map Fl.row),O 1 (x.stack.map fun n=>[N n]),vN F,O 4 (x.eX.map Tok.row)]]/\ay (Z !=0) (Fi r D [.agg [N Z,N t.file,C t.spot]] [.cells [vL 2 (l.map Fl.row),O 1 (x.stack.map fun n=>[N n]),vN F,O 4 (x.eX.map Tok.row)]])
     (∃Y a8 a9 Q T X,ak 93 [.aA 0 0,vN target] [.cells [vL 2 (l.map Fl.row),O 1 (x.stack.map fun n=>[N n]),vN F,O 4 (x.eX.map Tok.row)]] [.agg [N Y,N a8,C a9]] [.cells [vL 2 (l.map Fl.row),vL 1 Q,vN T,O 4 X]]/\ay (Y !=0) (Fi r D [.agg [N Y,N a8,C a9]] [.cells [vL 2 (l.map Fl.row),vL 1 Q,vN T,O 4 X]])
     (bh .i64 ((i:Int)+1)/\bh .i64 (((i:Int)+1)+1)/\Lp f93 0 (nU (ad.map Tok.row) (((i:Int)+1)+1) (l.map Fl.row) Q T X c s v) 1 r D)))->
     Lp f93 0 (zc (ad.map Tok.row) i (l.map Fl.row) (x.stack.map fun n=>[N n]) x.n (x.eX.map Tok.row) c s v) 1 r D:=by
    intro r D ⟨a,b,n',e1,w⟩;refine Qf _ _ _ _ _ _ _ _ _ (aO (l:=ad) (by simp) h ⟨_,_,_,_,by omega,q,aW a0 ⟨_,_,_,_,by omega,q,aW b1 ⟨⟨by omega,by simp;omega,by omega⟩,a,b,n',by rw[e];exact e1,?_⟩⟩⟩)
    revert w
    cases(b !=0)with
    |true=>exact fun w=>⟨_,_,_,_,by omega,q,_,_,_,_,by omega,q,w⟩
    |false=>exact fun w=>w
   cases k with
   |nil=>
    simp at g;subst g;exact⟨by decide,_,Sq (y:=x) (J _ _ ⟨_,_,_,o,bF rfl fi⟩)⟩
   |cons p k=>
    simp only[jO,af]at g;rw[show uK l x (t::p::k)=fq l x p from rfl]at o
    cases X4:((fq l x p).2 !=0)<;>rw[X4]at g<;>simp only[aj,af]at g
    .have H:((fq l x p).2==0)=true:=by revert X4;simp[bne]
     rw[H]at o;simp only[aj]at o;have a6:Zf l {x with n:=x.n+1}/\0<=(fq l x p).1:=by
      have j:(fq l x p).2=0:=by simpa using H
      unfold fq at j⊢;revert j
      cases p.kind !=4<;>simp only[aj,af]<;>try(intro j;simp at j;done)
      cases !(oD (l.getD (x.stack.getLastD 0).toNat ⟨[],[]⟩).path p.text).2<;>simp only[aj,af]<;>try(intro j;simp at j;done)
      cases hf : !(eY l (oD (l.getD (x.stack.getLastD 0).toNat ⟨[],[]⟩).path p.text).1).2<;>simp only[aj,af]<;>try(intro j;simp at j;done)
      cases x.stack.any ((eY l (oD (l.getD (x.stack.getLastD 0).toNat ⟨[],[]⟩).path p.text).1).1 == ·)<;>simp only[aj,af]<;>try(intro j;simp at j;done)
      cases decide ((x.stack.length:Int)>=8)<;>simp only[aj,af]<;>try(intro j;simp at j;done)
      cases hn:decide (x.n>=1000)<;>simp only[aj,af]<;>try(intro j;simp at j;done)
      intro _;have hn:=bH hn;have:=ok.n;exact⟨⟨ok.len,ok.path,ok.stack,ok.deep,by simp;omega⟩,(uL (by simpa using hf)).1⟩
     have K:=fun R h=>A (fq l x p).1 {x with n:=x.n+1} R h a6.1 a6.2 M (by simp at E⊢; omega)
     cases hw:ig l d (fq l x p).1 {x with n:=x.n+1}with
     |none=>rw[hw]at g;simp at g
     |some R0=>
      rw[hw]at g;have a5:=K R0 hw;cases R0 with
      |error f=>
       obtain⟨e0,f1,f2⟩:=f;simp at g;subst g;obtain⟨a7,y,hy⟩:=a5;exact⟨a7,y,J _ _ ⟨_,_,_,o,aW X4 ⟨_,_,_,_,_,_,hy,bF (by simpa using a7) fi⟩⟩⟩
      |ok y=>
       obtain⟨I,y2⟩:=wy l d _ _ _ hw;have y2:y.eX.length<=x.eX.length+20000*d:=y2;have I:y.stack=x.stack:=I;have b0:ad.drop (i+2)=k:=by
        obtain⟨a1,a2,a3⟩:=drop_cons h;exact(drop_cons a2).2.1
       have hs:=ok.deep;have b4:=aaN l (ig l d) ad (by omega) c s v k (i+2) y R b0 (by rw[I];exact G) (by rw[I];omega) (by simp only[aC]at E;omega) g
       refine b4.mono fun r z b3=>J _ _ ⟨_,_,_,o,aW X4 ⟨_,_,_,_,_,_,a5,aW rfl ⟨aB,aB,?_⟩⟩⟩
       exact b3
    .obtain rfl:=au g
     have H:((fq l x p).2==0)=false:=by revert X4;simp[bne]
     rw[H]at o;simp only[af]at o;exact⟨by simpa using X4,_,Sq (y:=x) (J _ _ ⟨_,_,_,o,bF X4 fi⟩)⟩
  .have K:=L93 l d hp A ad b2 a4 c s v k (i+1) {x with eX:=x.eX++[t]} R h2 G ⟨ok.len,ok.path,ok.stack,ok.deep,ok.n⟩ M (by simp at E⊢; omega) g
   refine K.mono fun r y hh=>?_
   have push:(x.eX.map Tok.row++([[N t.kind,S t.text,N t.file,C t.spot]]:Rw)).length*48<=2^47/\bh .i64 ((i:Int)+1)/\Lp f93 0 (zc (ad.map Tok.row) ((i:Int)+1) (l.map Fl.row) (x.stack.map fun n=>[N n]) x.n (x.eX.map Tok.row++([[N t.kind,S t.text,N t.file,C t.spot]]:Rw)) c s v) 1 r [Yu l y]:=by
    refine⟨by simp at E⊢; omega,aB,?_⟩
    rw[Cw];exact hh
   refine Qf _ _ _ _ _ _ _ _ _ (aO (l:=ad) (by simp) h ⟨_,_,_,_,by omega,q,ae (fun h4=>⟨_,_,_,_,by omega,q,push⟩) fun h4=>⟨_,_,_,_,by omega,q,bF ?_ ⟨_,_,_,_,by omega,q,push⟩⟩⟩)
   rw[h4]at hk;exact hk
def C93(l:List Fl)(k:∀f∈l,f.path.length<=2^28):∀(d:Nat)(m:Int)(x:Wv)(R:Except xa Wv),ig l d m x=some R->Zf l x->0<=m->x.stack.length+d<=2^30->x.eX.length+20000*d<=2^40->aaO l m x R
 |0,m,x,R,h,_,_,_,_=>by simp[ig]at h
 |d+1,m,x,R,h,ok,i,G,D=>by
  unfold ig at h;split at h<;>try(simp at h;done)
  rename_i f g;have w:=aK g;have H:=(ok.path f w).2;have E:=ok.deep;have q:(l.map Fl.row)[Int.toNat m]?=some [S f.path,S f.text]:=by rw[bp,g];rfl
  have b:=ad4 f.text m (by omega)
  split at h
  .rename_i e c a
   obtain rfl:=au h;rw[a]at b;have p:e≠0:=by
    unfold jr at a;cases h1:decide ((f.text.length:Int)>20000)<;>rw[h1]at a<;>simp only[aj,af]at a
    .split at a<;>simp at a
     omega
    .simp at a
     omega
   exact⟨p,x,(W93 _ _ _ _ _ ⟨_,_,i,q,_,_,_,_,b,bF (by simpa using p) fi⟩).vp [(0,1)]⟩
  .rename_i o j
   rw[j]at b;have z:=zb j;have v:=wQ j;have:=L93 l d k (C93 l k d) o (by omega) (fun t h=>by have:=v t h;omega) 0 0 (some (0,0)) o 0 {x with stack:=x.stack++[m]} R rfl (by simp) ⟨ok.len,ok.path,fun s h=>?_,by simp;omega,ok.n⟩ (by simp;omega) (by simp;omega) h
   .refine this.mono fun r y u=>W93 _ _ _ _ _ ⟨_,_,i,q,_,_,_,_,b,aW rfl ⟨by simp;omega,?_⟩⟩
    rw[show x.stack.map (fun n=>[N n])++([[N m]]:Rw)=(x.stack++[m]).map fun n=>[N n] by simp]
    exact u
   .rcases bC.1 h with h|h
    .exact ok.stack s h
    .simp at h;subst h;exact⟨i,(aE.1 g).1⟩
def m3(l:List Fl)(root:By):Option (Except xa (List Tok)):=
 bif !(eY l root).2 then some (.error (4,-1,Ek))else
 match ig l 9 (eY l root).1 ⟨[],0,[]⟩with
 |none=>none
 |some (.error f)=>some (.error f)
 |some (.ok y)=>some (.ok y.eX)
def X5:Except xa (List Tok)->List AV
 |.ok l=>[vL 4 (l.map Tok.row),.agg [N 0,N 0,C Ek]]
 |.error (e,f,c)=>[vL 4 [],.agg [N e,N f,C c]]
def C75(l:List Fl)(root:By)(e:l.length<=2^40)(c:∀f∈l,f.path.length<=2^28/\f.text.length<=2^28)(k:root.length<=2^31){R:Except xa (List Tok)}(h:m3 l root=some R):ak 75 [vL 2 (l.map Fl.row),vS root] [] (X5 R) []:=by
 unfold m3 at h;refine W75 _ _ ⟨_,_,C76 l root e (fun f a=>by have:=(c f a).1;omega) k,ae (fun b=>?_) fun b=>?_⟩
 .rw[b]at h
  obtain rfl:=au h;exact fi
 .rw[b]at h
  simp only[af]at h;have a:=uL (show(eY l root).2=true by simpa using b)
  have g:=fun R h=>C93 l (fun f a=>(c f a).1) 9 (eY l root).1 ⟨[],0,[]⟩ R h ⟨e,fun f a=>⟨by have:=(c f a).1;omega,by have:=(c f a).2;omega⟩,by simp,by simp,by simp⟩ a.1 (by simp) (by simp)
  split at h
  .simp at h
  .rename_i f d
   obtain rfl:=au h;obtain⟨i,y,j⟩:=g _ d;exact⟨_,_,_,_,_,_,j,bF (by simpa using i) fi⟩
  .rename_i y d
   obtain rfl:=au h;exact⟨_,_,_,_,_,_,g _ d,aW rfl fi⟩
def A31:bq:={an:=[(1,2,ah),(4,2,ah)]}
def W31(c:Rw)(d e:By){r h}(H:∃f g i j k a l m,ak 55 [vL 2 c,vS d] [] [.agg [L 6 f,L 2 g,L 1 i,N j,N k],.agg [N a,N l,C m]] []/\ay (a !=0) (Fi r h [vL 4 [],.agg [N a,N l,C m]] [])
 (∃n b,ak 56 [.agg [L 6 f,L 2 g,L 1 i,N j,N k],vS e] [] [vL 4 n,vN b] []/\ay (b !=0) (Fi r h [vL 4 [],.agg [N b,N (-1),C (some (0,0))]] [])
 (Fi r h [vL 4 n,.agg [N 0,N 0,C (some (0,0))]] []))):
  ak 31 [vL 2 c,vS d,vS e] [] r h:=.of func31 A31 H
def A55:bq:={an:=[(1,2,ah),(3,1,iG),(3,2,fy),(3,3,fg),(4,2,ah),(5,6,ah),(5,11,ah),(5,13,ah),(5,15,ah)]}
def W55(a:Rw)(c:By){r h}(H:∃e d f g,ak 75 [vL 2 a,vS c] [] [vL 4 e,.agg [N d,N f,C g]] []/\ay (d !=0) (Fi r h [.agg [L 6 [],L 2 [],L 1 [],N 0,N 0],.agg [N d,N f,C g]] [])
 (∃b s,ak 76 [vL 2 a,vS c] [] [vN b,vB s] []/\OK a b fun v t=>OK a b fun w u=>∃i,ak 78 [vS t,vN (u.length:Int)] [] [vC i] []/\∃j k l m n o p q,ak 77 [vL 4 e,.agg [N 0,N b,C i]] [] [.agg [L 6 j,L 2 k,L 1 l,N m,N n],.agg [N o,N p,C q]] []/\Fi r h [.agg [L 6 j,L 2 k,L 1 l,N m,N n],.agg [N o,N p,C q]] [])):
  ak 55 [vL 2 a,vS c] [] r h:=.of func55 A55 H
def A56:bq:={an:=[(1,2,ah),(4,1,ah),(7,1,ah),(8,4,ah),(8,5,ah),(11,1,ah),(14,1,ah)]}
def W56(j k l:Rw)(a b:Int)(c:By){r h}(H:∃m d,ak 79 [.agg [L 6 j,L 2 k,L 1 l,N a,N b],vS c] [] [vL 9 m,vN d] []/\ay (d !=0) (Fi r h [vL 4 [],vN d] [])
 (∃n e,ak 80 [vL 9 m] [] [vL 2 n,vN e] []/\ay (e !=0) (Fi r h [vL 4 [],vN e] [])
 (∃o t,ak 81 [vS c] [] [vW o,vB t] []/\∃p,ak 83 [vL 2 n,.agg [N a,N b]] [] [vL 5 p] []/\∃q f,ak 82 [vW o,vL 5 p] [] [vL 5 q,vN f] []/\ay (f !=0) (Fi r h [vL 4 [],vN f] [])
 (∃g i,ak 84 [vL 5 q] [] [vL 4 g,vN i] []/\ay (i !=0) (Fi r h [vL 4 [],vN i] [])
 (∃u s,ak 35 [vL 4 g] [] [vN u,vB s] []/\ay (!s) (Fi r h [vL 4 [],vN 10] [])
 (Fi r h [vL 4 g,vN 0] [])))))):
  ak 56 [.agg [L 6 j,L 2 k,L 1 l,N a,N b],vS c] [] r h:=.of func56 A56 H
def A17:bq:={an:=[(1,3,ah),(2,1,ah)]}
def W17(a:Rw)(b c:By){r h}(H:∃d e f g,ak 31 [vL 2 a,vS b,vS c] [] [vL 4 d,.agg [N e,N f,C g]] []/\∃i,ak 32 [vL 4 d] [] [vL 1 i] []/\Fi r h [vL 1 i,.agg [N e,N f,C g]] []):
  ak 17 [vL 2 a,vS b,vS c] [] r h:=.of func17 A17 H
def A18:bq:={an:=[(1,1,ah),(4,1,ah),(7,1,ah),(10,2,ah)]}
def W18(d e:Rw){r h}(H:∃a b,ak 33 [vL 1 d] [] [vL 4 a,vN b] []/\ay (b !=0) (Fi r h [vW 0,vN b] [])
 (∃f g i j k l m n o c,ak 34 [vL 1 e] [] [.agg [W f,W g,U i,U j,U k,U l,U m,U n,U o],vN c] []/\ay (c !=0) (Fi r h [vW 0,vN c] [])
 (∃s p,ak 35 [vL 4 a] [] [vN s,vB p] []/\ay (!p) (Fi r h [vW 0,vN 10] [])
 (∃q t u,ak 36 [vL 4 a,.agg [W f,W g,U i,U j,U k,U l,U m,U n,U o]] [] [vW q,vN t,vB u] []/\Fi r h [vW q,vN 0] [])))):
  ak 18 [vL 1 d,vL 1 e] [] r h:=.of func18 A18 H
def rE{rec:Int->Wv->Option (Except xa Wv)}{l:List Fl}{B:Nat}(e:∀m x y,rec m x=some (.ok y)->(∀t∈x.eX,t.text.length<=B)->∀t∈y.eX,t.text.length<=B):∀(b:List Tok)(soft:Bool)(x y:Wv),gQ rec l b soft x=some (.ok y)->
  (∀t∈b,t.text.length<=B)->(∀t∈x.eX,t.text.length<=B)->∀t∈y.eX,t.text.length<=B
 |[],soft,x,y,h,_,c=>by
  simp only[gQ,aw,Except.ok.injEq]at h;subst h;exact c
 |t::b,soft,x,y,h,d,c=>by
  unfold gQ at h;cases h1:(bif t.kind !=5 then true else !(t.text==iU))<;>rw[h1]at h<;>simp only[aj,af]at h
  .match b,h with
   |[],h=>cases soft<;>simp at h
   |p::b,h=>
    cases soft with
    |true=>simp at h
    |false=>
     simp only[af]at h;cases h2:((fq l x p).2 !=0)<;>rw[h2]at h<;>simp only[aj,af]at h
     .split at h
      .simp at h
      .simp at h
      .rename_i z a
       exact rE e b true z y h (fun t h=>d t (aP _ (aP _ h))) (e _ _ _ a c)
     .simp at h
  .refine rE e b soft _ y h (fun t h=>d t (aP _ h)) fun z a=>?_
   rcases bC.1 a with a|a
   .exact c z a
   .simp at a;subst a;exact d z aS
def xb(l:List Fl):∀(d:Nat)(m:Int)(x y:Wv),ig l d m x=some (.ok y)->(∀t∈x.eX,t.text.length<=20000)->∀t∈y.eX,t.text.length<=20000
 |0,m,x,y,h,_=>by simp[ig]at h
 |d+1,m,x,y,h,a=>by
  unfold ig at h;split at h<;>try(simp at h;done)
  rename_i f e;split at h
  .simp at h
  .rename_i b c
   exact rE (xb l d) b false _ y h (wQ c) a
def vf(l:List Fl)(root:By):Option (eW×xa):=match m3 l root with
 |none=>none
 |some (.error f)=>some (⟨[],[],[],⟨0,0⟩⟩,f)
 |some (.ok a)=>some (zq a 0 (eY l root).1 none)
structure YA (l:List Fl) (root:By):Prop where
 len:l.length<=2^40
 each:∀f∈l,f.path.length<=2^28/\f.text.length<=2^28
 root:root.length<=2^31
def NG{l:List Fl}{root:By}(b:YA l root){f:xa}(h:m3 l root=some (.error f)):f.1≠0:=by
 unfold m3 at h;cases h1 : !(eY l root).2<;>rw[h1]at h
 .rw[af]at h
  have a:=uL (show(eY l root).2=true by simpa using h1)
  have d:=fun R h=>C93 l (fun f a=>(b.each f a).1) 9 (eY l root).1 ⟨[],0,[]⟩ R h ⟨b.len,fun f a=>⟨by have:=(b.each f a).1;omega,by have:=(b.each f a).2;omega⟩,by simp,by simp,by simp⟩ a.1 (by simp) (by simp)
  split at h
  .simp at h
  .rename_i g c
   simp at h;subst h;exact(d _ c).1
  .simp at h
 .simp at h;subst h;decide
def Sr{l:List Fl}{root:By}{b:List Tok}(h:m3 l root=some (.ok b)):(eY l root).2=true/\TK b:=by
 unfold m3 at h;cases h1 : !(eY l root).2<;>rw[h1]at h
 .rw[af]at h
  refine⟨by simpa using h1,?_⟩
  split at h
  .simp at h
  .simp at h
  .rename_i y a
   simp at h;subst h;have c:=(wy l 9 _ _ _ a).2;have d:=xb l 9 _ _ _ a (by simp)
   simp at c;exact⟨by omega,fun t e=>by have:=d t e;omega⟩
 .simp at h
def C55(l:List Fl)(root:By)(a:YA l root){R:eW×xa}(h:vf l root=some R):ak 55 [vL 2 (l.map Fl.row),vS root] [] [sC R.1,QX R.2] []:=by
 unfold vf at h;split at h
 .simp at h
 .rename_i f b
  have k:=NG a b;obtain rfl:=au h;exact W55 _ _ ⟨_,_,_,_,C75 l root a.len a.each a.root b,bF (by simpa using k) fi⟩
 .rename_i j b
  obtain⟨e,tk⟩:=Sr b;obtain⟨f1,f2⟩:=uL e;obtain rfl:=au h;have c:l[(eY l root).1.toNat]?=some l[(eY l root).1.toNat]:=bk f2;have i:=aK c;have d:(l.map Fl.row)[Int.toNat (eY l root).1]?=some [S (l[(eY l root).1.toNat]).path,S (l[(eY l root).1.toNat]).text]:=by rw[bp,c];rfl
  exact W55 _ _ ⟨_,_,_,_,C75 l root a.len a.each a.root b,aW rfl ⟨_,_,C76 l root a.len (fun f g=>by have:=(a.each f g).1;omega) a.root,_,_,f1,d,_,_,f1,d,_,C78 _ (by have:=(a.each _ i).2;omega),_,_,_,_,_,_,_,_,C77 j 0 _ none tk,fi⟩⟩
def lowerB(aq:By)(d:Act)(b:List Bd):List In×Int:=match pM b with
 |.error e=>([],e)
 |.ok a=>bif(fc (dg aq).1 (cu a d)).2 !=0 then([],(fc (dg aq).1 (cu a d)).2)else
  bif(gb (fc (dg aq).1 (cu a d)).1).2 !=0 then([],(gb (fc (dg aq).1 (cu a d)).1).2)else
  bif !(jy (gb (fc (dg aq).1 (cu a d)).1).1).2 then([],10)else((gb (fc (dg aq).1 (cu a d)).1).1,0)
def cQ(u:eW)(aq:By):List In×Int:=match er u aq with
 |.error e=>([],e)
 |.ok a=>lowerB aq u.bZ a
def HU{u:eW}{aq:By}{a:Act}:∀{l:List gC}{b:List Bd}{e:Int},j8 u aq a l b = .error e->(e !=0)=true
 |[],b,e,h=>by simp[j8]at h
 |r::t,b,e,h=>by
  unfold j8 at h;cases hz:(fH u aq r a).2 !=0<;>rw[hz]at h
  .exact HU h
  .simp at h;subst h;exact hz
def Cy{u:eW}{aq:By}:∀{l:List dr}{a:List Bd}{e:Int},kL u aq l a = .error e->(e !=0)=true
 |[],a,e,h=>by simp[kL]at h
 |p::t,a,e,h=>by
  unfold kL at h;split at h
  .rename_i c b
   simp at h;subst h;exact HU b
  .exact Cy h
def Cz{u:eW}{aq:By}{e:Int}(h:er u aq = .error e):(e !=0)=true:=by
 unfold er at h;cases h1 : !(dg aq).2<;>rw[h1]at h
 .cases h2 : !iK u<;>rw[h2]at h
  .rw[af,af]at h
   split at h
   .rename_i i b a
    simp at h;subst h;exact B0 a
   .split at h
    .rename_i b a
     simp at h;subst h;exact Hc a
    .exact Cy h
  .simp at h;subst h;rfl
 .simp at h;subst h;rfl
def wz:∀{a:List Bd}{m:List Mk}{e:Int},cJ a m = .error e->(e !=0)=true
 |[],m,e,h=>by simp[cJ]at h
 |b::t,m,e,h=>by
  unfold cJ at h;cases h1 : !(bV b.act).2<;>rw[h1]at h
  .cases h2:(cj b.cond).2 !=0<;>rw[h2]at h
   .exact wz h
   .simp at h;subst h;exact h2
  .simp at h;subst h;rfl
def Ar:∀{m:List Mk}{y:Mk},y∈m->y.2.length<=ke m
 |z::m,y,h=>by
  rcases aU.1 h with rfl|h
  .simp only[ke,bB,eF];omega
  .have:=Ar h
   simp only[ke,bB,eF]at this⊢;omega
def Ss{s:Sp}(h:Yz s):Hl s:=⟨by have:=h.1;omega,fun l a=>by have:=h.2 l a;omega⟩
def X6{a:List Bd}{m:List Mk}(h:cJ a []=.ok m)(d:Uu a):(bT m).length<=2^30/\∀c∈bT m,Uc c:=by
 have b:=Aj a [] m 0 h ⟨by simp,by simp[ke],by simp⟩ d.sz
 have i:=b.len;have j:=b.st;have l:=d.len;refine⟨by unfold bT;rw[ao,wh,ao];omega,fun c f=>?_⟩
 obtain⟨k,_,rfl⟩:=bg.1 f;show(eN m k).length<=2^40/\∀s∈eN m k,Hl s
 unfold eN;cases hg:gm m k with
 |none=>simp
 |some y=>
  have e:=(lv hg).1;have:=Ar e;exact⟨by show y.2.length<=_;omega,fun s g=>Ss (b.each y e s g)⟩
def CA:∀(l:List Sp),l.length<=ga l
 |[]=>by simp
 |s::l=>by have:=CA l;simp only[ga,aC];omega
def CB:∀{l:List Sn}{x:Sn},x∈l->x.steps.length<=gW l
 |y::l,x,h=>by
  rcases aU.1 h with rfl|h
  .have:=CA x.steps;simp only[gW];omega
  .have:=CB h;simp only[gW];omega
def HV(a:By):x5 (dg a).1:=by
 have k:∀n:Int,0<=n->n<4294967296->x5 n:=fun n b c=>⟨b,c⟩
 unfold dg;cases a==[97,97,114,99,104,54,52]
 .cases a==[105,51,56,54]
  .cases a==[120,56,54,95,54,52]
   .exact k 0 (by decide) (by decide)
   .exact k 3221225534 (by decide) (by decide)
  .exact k 1073741827 (by decide) (by decide)
 .exact k 3221225655 (by decide) (by decide)
def HW{l:List Sy}(h:(gb l).2=0):(gb l).1=u3 l/\l.length<=4096:=by
 unfold gb at h⊢;cases h1 : !(cY l).1<;>rw[h1]at h
 .rw[af]at h⊢
  cases h2:decide ((l.length:Int)>4096)<;>rw[h2]at h
  .rw[af]at h⊢
   cases h3:decide (((u3 l).length:Int)>4096)<;>rw[h3]at h
   .exact⟨rfl,by have:=bH h2;omega⟩
   .simp at h
  .simp at h
 .simp at h
structure aaP (aq:By) (d:Act) (bs:List Bd) (m:List Mk):Prop where
 syms:∀x∈(fc (dg aq).1 (cu (bT m) d)).1,x5 x.k
 len:(fc (dg aq).1 (cu (bT m) d)).1.length<=2^40
def Su{aq:By}{d:Act}{a:List Bd}{m:List Mk}(h:cJ a []=.ok m)(c:Uu a):aaP aq d a m:=by
 have j:=Am d h c;refine⟨Uv (HV aq) (Cr d h fun b _=>NC b.cond),?_⟩
 unfold fc;cases hr : !fP (cu (bT m) d) 0
 .have g:WB (eL (cy (nk (eL (eL (dn ⟨[],0,0⟩) 0 0 32 4) 1 0 21 (dg aq).1) ⟨1,0⟩) 1) 0 0 32 0) 4:=⟨by simp[eL,cy,nk,dn],by simp[eL,cy,nk,dn],by simp[eL,cy,nk,dn]⟩
  have i:1<=(cu (bT m) d).length:=by
   have e:=(l8 d h c.nr).1;cases hsp:cu (bT m) d with
   |nil=>rw[hsp]at e;have f:(0:Int)=4294967296:=e;simp at f
   |cons x t=>simp
  have:=(si (cu (bT m) d).length (cu (bT m) d) _ 4 (ar _) i g).l;simp only[af];omega
 .simp
def C56(u:eW)(aq:By)(z:q8 u)(w:∀g,er u aq = .ok g->Uu g):ak 56 [sC u,vS aq] [] [vL 4 ((cQ u aq).1.map In.row),vN (cQ u aq).2] []:=by
 have n:=C79 u aq z;apply W56;unfold cQ;cases hr:er u aq with
 |error e=>
  rw[hr]at n;exact⟨_,_,n,bF (Cz hr) fi⟩
 |ok g=>
  rw[hr]at n;have f:=w g hr;have Z:=f.len;have k:=C80 g (by omega) (fun b p=>by have:=f.sz b p;omega) f.nr
  refine⟨_,_,n,aW rfl ?_⟩;simp only[lowerB];unfold pM at k⊢;cases hc:cJ g []with
  |error e=>
   rw[hc]at k;exact⟨_,_,k,bF (wz hc) fi⟩
  |ok m=>
   rw[hc]at k;have t:=Su (aq:=aq) (d:=u.bZ) hc f;obtain⟨E,G⟩:=X6 hc f;have q:=(l8 u.bZ hc f.nr).1;have Y:=Am u.bZ hc f;have X:=Cr (R:=Yz) u.bZ hc fun b p=>⟨rn b.cond,fun x c=>by have:=Ah b.cond x c;have:=f.sz b p;omega⟩
   have M:∀(l:List Sn)(a b:Int),eM l a b->∀x∈l,x.lo<=x.hi:=by
    intro l;induction l with
    |nil=>intro a b _ x c;simp at c
    |cons y l D=>
     intro a b h x c;rcases aU.1 c with rfl|c
     .exact h.2.1
     .exact D _ _ h.2.2 x c
   have T:∀x∈cu (bT m) u.bZ,wi x:=fun x c=>⟨by have:=CB c;omega,fun s Q=>Ss (X x c s Q)⟩
   have r:∀x∈cu (bT m) u.bZ,0<=x.lo/\x.lo<4294967296/\0<=x.hi/\x.hi<4294967296:=fun x c=>by
    have i:=(oP q).2 x c;have j:=M _ _ _ q x c;omega
   have J:=C82 (dg aq).1 (cu (bT m) u.bZ) (by omega) T r Y
   have K:=C84 (fc (dg aq).1 (cu (bT m) u.bZ)).1 t.len;refine⟨_,_,k,aW rfl ⟨_,_,C81 aq,_,C83 (bT m) u.bZ E G (so hc f.nr),_,_,J,?_⟩⟩;simp only;refine ae (fun i=>ai (by rw[i];rfl) rfl) fun i=>⟨_,_,K,ae (fun j=>ai (by rw[i,j];rfl) rfl) fun j=>?_⟩
   have v:(gb (fc (dg aq).1 (cu (bT m) u.bZ)).1).2=0:=by simpa using j
   obtain⟨H,F⟩:=HW v;have I:=C35 (gb (fc (dg aq).1 (cu (bT m) u.bZ)).1).1 (by rw[H];exact HP t.syms (by omega))
   exact⟨_,_,I,ae (fun o=>ai (by rw[i,j,o];rfl) rfl) fun o=>ai (by rw[i,j,o];rfl) rfl⟩
def ji(R:eW×xa)(aq:By):List In×xa:=bif R.2.1 !=0 then([],R.2)else bif(cQ R.1 aq).2 !=0 then([],((cQ R.1 aq).2,-1,some (0,0)))else((cQ R.1 aq).1,(0,0,some (0,0)))
def USm(R:eW×xa)(aq:By):Prop:=R.2.1=0->q8 R.1/\∀a,er R.1 aq = .ok a->Uu a
def C31(l:List Fl)(root aq:By)(c:YA l root){R:eW×xa}(h:vf l root=some R)(d:USm R aq):ak 31 [vL 2 (l.map Fl.row),vS root,vS aq] [] [vL 4 ((ji R aq).1.map In.row),QX (ji R aq).2] []:=by
 apply W31;refine⟨_,_,_,_,_,_,_,_,C55 l root c h,ae (fun a=>ai (by rw[ji,a];rfl) rfl) fun a=>?_⟩
 obtain⟨e,f⟩:=d (by simpa using a)
 exact⟨_,_,C56 R.1 aq e f,ae (fun b=>ai (by rw[ji,a,b];rfl) rfl) fun b=>ai (by rw[ji,a,b];rfl) rfl⟩
def NH(u:eW)(aq:By):(cQ u aq).1.length<=4096:=by
 unfold cQ lowerB;split
 .simp
 .split
  .simp
  .rename_i a _
   cases h1:(fc (dg aq).1 (cu a u.bZ)).2 !=0
   .cases h2:(gb (fc (dg aq).1 (cu a u.bZ)).1).2 !=0
    .cases h3:(jy (gb (fc (dg aq).1 (cu a u.bZ)).1).1).2
     .simp
     .exact(su h3).2.1
    .simp
   .simp
def kC(R:eW×xa)(aq:By):(ji R aq).1.length<=4096:=by
 unfold ji;cases R.2.1 !=0
 .cases(cQ R.1 aq).2 !=0
  .exact NH _ _
  .simp
 .simp
def pS(R:eW×xa)(aq:By):List Int:=(fw (ji R aq).1 []).getD []
def C17(l:List Fl)(root aq:By)(a:YA l root){R:eW×xa}(h:vf l root=some R)(b:USm R aq):ak 17 [vL 2 (l.map Fl.row),vS root,vS aq] [] [vL 1 (gJ (pS R aq)),QX (ji R aq).2] []:=by
 apply W17;exact⟨_,_,_,_,C31 l root aq a h b,_,C32 _ (by have:=kC R aq;omega),fi⟩
def C18{code:List In}{b:List Int}(f:fw code []=some b)(a:(jy code).2=true)(c:∀x∈code,NZ x)(d:Da)(g:Ck d){v:Int}{m:Nat}(H:jJ (gd d) code 0 v m):ak 18 [vL 1 (gJ b),vL 1 (gJ (m1 d))] [] [vW v,vN 0] []:=by
 have hlen:=(su a).2.1;have q:=HT f fun x k=>(c x k).k
 have p:b.length<=2^40:=by
  obtain⟨e,_⟩:=pR code [] b f;rw[e,ea,List.length_flatMap];have:∀l:List In,(l.map fun x=>(lK x).length).sum=8*l.length:=by
   intro l;induction l with
   |nil=>rfl
   |cons x l n=>simp only[bB,eF,n,aC];show 8+_=_;omega
  rw[this];omega
 have i:=C33 b p;rw[q]at i;have j:=C34 (m1 d) (sn d);rw[Kg g]at j;have o:=C35 code c;apply W18;exact⟨_,_,i,aW rfl ⟨_,_,_,_,_,_,_,_,_,_,j,aW rfl ⟨_,_,o,aW (by rw[a];rfl) ⟨_,_,_,C36 code d g hlen (ND a c) H,fi⟩⟩⟩⟩
def Ux(d:Da)(e:Ck d):ak 18 [vL 1 [],vL 1 (gJ (m1 d))] [] [vW 0,vN 10] []:=by
 have a:=C33 [] (by simp)
 have b:=C34 (m1 d) (sn d);have c:=C35 [] (by simp)
 apply W18;exact⟨_,_,a,aW rfl ⟨_,_,_,_,_,_,_,_,_,_,b,aW rfl ⟨_,_,c,bF rfl fi⟩⟩⟩
structure aaQ (u:eW) (aq:By) (bs:List Bd) (m:List Mk):Prop where
 chain:cJ bs []=.ok m
 chk:(jy (cQ u aq).1).2=true
 iok:∀x∈(cQ u aq).1,NZ x
 run:∀wd:Int->Int,wd 4=(dg aq).1->x5 (wd 0)->∃x∈cu (bT m) u.bZ,x.lo<=wd 0/\wd 0<=x.hi/\∃n,jJ wd (cQ u aq).1 0 (pQ (dV wd u.bZ (m2 (wd 0) bs))) n/\(x.steps=[]->∀D,(cu (bT m) u.bZ).length<=2^D->n<=5+2*D)
def As{u:eW}{aq:By}(r:∀b,er u aq = .ok b->Uu b)(h:(cQ u aq).2=0):∃b m,er u aq = .ok b/\aaQ u aq b m:=by
 cases hr:er u aq with
 |error e=>
  have a:(cQ u aq).2=e:=by unfold cQ;rw[hr]
  have:=Cz hr;rw[<-a,h]at this;simp at this
 |ok b=>
  have j:=r b hr;cases hc:cJ b []with
  |error e=>
   have a:(cQ u aq).2=e:=by unfold cQ;rw[hr];simp only[lowerB];unfold pM;rw[hc]
   have:=wz hc;rw[<-a,h]at this;simp at this
  |ok m=>
   have I:=Su (aq:=aq) (d:=u.bZ) hc j;have a:cQ u aq=bif(fc (dg aq).1 (cu (bT m) u.bZ)).2 !=0 then([],(fc (dg aq).1 (cu (bT m) u.bZ)).2)else
     bif(gb (fc (dg aq).1 (cu (bT m) u.bZ)).1).2 !=0 then([],(gb (fc (dg aq).1 (cu (bT m) u.bZ)).1).2)else
     bif !(jy (gb (fc (dg aq).1 (cu (bT m) u.bZ)).1).1).2 then([],10)else((gb (fc (dg aq).1 (cu (bT m) u.bZ)).1).1,0):=by
    unfold cQ;rw[hr];simp only[lowerB];unfold pM;rw[hc]
   rw[a]at h;generalize t:fc (dg aq).1 (cu (bT m) u.bZ)=q at*;cases g:q.2 !=0<;>rw[g]at h a
   .have g:q.2=0:=by simpa using g
    rw[af]at h a;cases f:(gb q.1).2 !=0<;>rw[f]at h a
    .have f:(gb q.1).2=0:=by simpa using f
     rw[af]at h a;cases i : !(jy (gb q.1).1).2<;>rw[i]at h a
     .have i:(jy (gb q.1).1).2=true:=by simpa using i
      rw[af]at h a;obtain⟨E,M⟩:=HW f;refine⟨b,m,rfl,hc,by rw[a];exact i,?_,?_⟩
      .rw[a]
       show∀x∈(gb q.1).1,NZ x
       have v:=I.syms;rw[t]at v;rw[E];exact HP v (by omega)
      .intro wd y s
       obtain⟨x,k,p,o⟩:=wZ (l8 u.bZ hc j.nr).1 (wd 0) s.1 s.2;obtain⟨c,w,J⟩:=R6 (wd:=wd) (aq:=(dg aq).1) (l:=cu (bT m) u.bZ) (syms:=q.1) (by rw[t,<-g]) (Sg u.bZ hc j.nr) y x k p o
       rw[Kc u.bZ hc j.nr x k (wd 0) p o]at w;obtain⟨n,K,G⟩:=Nv (code:=(gb q.1).1) (by rw[<-f]) w
       refine⟨x,k,p,o,n,by rw[a];exact G,fun H D z=>?_⟩
       have:=J H D z;omega
     .simp at h
    .rw[aj]at h;simp only at h;rw[h]at f;simp at f
   .rw[aj]at h;simp only at h;rw[h]at g;simp at g
def Au:∀(l:List In)(a:List Int),(∀x∈l,jx x=true)->∃b,fw l a=some b
 |[],a,_=>⟨a,rfl⟩
 |x::t,a,h=>by
  unfold fw;rw[h x aS];exact Au t _ fun x c=>h x (aP _ c)
def rF{l:List In}(h:(jy l).2=true):∃b,fw l []=some b/\0<b.length:=by
 obtain⟨c,-,d⟩:=su h;obtain⟨b,a⟩:=Au l [] fun x f=>(d x f).1
 refine⟨b,a,?_⟩;obtain⟨e,-⟩:=pR l [] b a;match l,c with
 |x::t,_=>rw[e];simp[lK]
def Sv(a:By)(b c:Rw)(d:Int):St:=⟨aM 55 [(0,vS a),(3,.own 0 0 3 b),(4,vL 5 c),(5,vN d)],[some 0],[]⟩
def CC(a:By)(b c:Rw)(d e:Int):St:=⟨aM 55 [(0,vS a),(3,.own 0 0 3 b),(4,vL 5 c),(5,vN d),(6,vN e)],[some 0],[]⟩
def A7:bq:={an:=[(2,0,ah),(9,4,ah),(11,4,ah),(13,4,ah),(15,5,ah),(15,12,ah)],cut:=[(4,{bl:=[0,3,4,5],dw:=[(3,3)],owns:=[3]})],join:=[(14,{bl:=[0,3,4,5,6],dw:=[(3,3)],owns:=[3]})]}
def W7(a:By){r h}(H:∃b,ak 20 [] [] [vL 5 b] []/\Lp f7 0 (Sv a [] b 0) 0 r h):
  ak 7 [vS a] [] r h:=.of func7 A7 H
def aaS(c:By)(d a:Rw)(b:Int){r h}(H:ay (decide (b<(a.length:Int))) (ay (c==[97,97,114,99,104,54,52]) (qP a b fun i j k l e=>Rp f7 14 (CC c d a b e) 0 r h)
 (ay (c==[105,51,56,54]) (qP a b fun m n o f p=>Rp f7 14 (CC c d a b f) 0 r h)
 (ay (c==[120,56,54,95,54,52]) (qP a b fun q s g t u=>Rp f7 14 (CC c d a b g) 0 r h)
 (Rp f7 14 (CC c d a b (-1)) 0 r h))))
 (Fi r h [.own 0 0 3 d] [])):
  Lp f7 0 (Sv c d a b) 0 r h:=.of A7 H
def aaT(e:By)(c b:Rw)(a d:Int){r h}(H:ay (decide (d>=0)) (qP b a fun f i j k l=>qP b a fun m g n o p=>(c++([[S f,W (IntKind.wrap .u32 d),L 1 g]]:Rw)).length*48<=2^47/\bh .i64 (a+1)/\Lp f7 0 (Sv e (c++([[S f,W (IntKind.wrap .u32 d),L 1 g]]:Rw)) b (a+1)) 0 r h)
 (bh .i64 (a+1)/\Lp f7 0 (Sv e c b (a+1)) 0 r h)):
  Rp f7 14 (CC e c b a d) 0 r h:=xm.of A7 H
def Uy(a:By)(b:Rw)(c:Int)(d:By)(e:Int)(f:Rw):St:=⟨aM 28 [(1,vS a),(4,.aA 0 0),(6,vL 3 b),(7,vN c)],[],[.cells [vS d,vW e,O 1 f]]⟩
def A9:bq:={an:=[(1,1,ah),(5,4,ah),(6,3,ah)],cut:=[(3,{bl:=[1,4,6,7]})]}
def W9(a b:By){r h}(H:∃c,ak 7 [vS a] [] [vL 3 c] []/\Lp f9 0 (Uy b c 0 [] 0 []) 0 r h):
  ak 9 [vS a,vS b] [] r h:=.of func9 A9 H
def aaU(c:By)(b:Rw)(a:Int)(d:By)(e:Int)(f:Rw){r h}(H:ay (decide (a<(b.length:Int))) (s7 b a fun g l m=>ay (g==c) (s7 b a fun i j k=>Fi r h [.agg [S i,W j,L 1 k],vB true] [])
 (bh .i64 (a+1)/\Lp f9 0 (Uy c b (a+1) d e f) 0 r h))
 (Fi r h [.agg [S [],W 0,L 1 []],vB false] [])):
  Lp f9 0 (Uy c b a d e f) 0 r h:=.of A9 H
def pT(a:Int)(b:Bool)(c d:Int):St:=⟨aM 47 [(1,.aA 0 0),(4,vW a),(5,vB b)],[],[.cells [vN c,vN d]]⟩
def A13:bq:={an:=[(21,2,aa),(21,3,aa),(21,4,aa),(21,5,aa),(21,6,aa),(21,7,aa),(21,8,aa),(21,9,aa),(21,12,aa),(21,13,aa),(21,14,aa),(21,15,aa),(21,16,aa),(21,17,aa),(21,18,aa)],join:=[(21,{bl:=[1,4,5]})]}
def W13(a b:Int){r h}(H:ay (a==1) (Rp f13 21 (pT 2147483648 false a b) 0 r h)
 (ay (a==2) (Rp f13 21 (pT 0 false a b) 0 r h)
 (ay (a==3) (Rp f13 21 (pT 196608 true a b) 0 r h)
 (ay (a==4) (Rp f13 21 (pT 327680 true a b) 0 r h)
 (ay (a==5) (Rp f13 21 (pT 2146435072 true a b) 0 r h)
 (ay (a==6) (Rp f13 21 (pT 2147221504 false a b) 0 r h)
 (ay (a==7) (Rp f13 21 (pT 2147418112 false a b) 0 r h)
 (Fi r h [vW 0,vB false] [])))))))):
  ak 13 [.agg [N a,N b]] [] r h:=.of func13 A13 H
def X7(c:Int)(b:Bool)(d a:Int){r h}(H:ay (bif(bif b then(bif(decide (a<0))then true else(decide (a>65535)))else false)then true else(bif(!b)then(a !=0)else false)) (Fi r h [vW 0,vB false] [])
 (Fi r h [vW (IntKind.wrap .u32 (c+(IntKind.wrap .u32 a))),vB true] [])):
  Rp f13 21 (pT c b d a) 0 r h:=xm.of A13 H
def A15:bq:={}
def W15(a:By){r h}(H:ay (a==[97,97,114,99,104,54,52]) (Fi r h [vW 3221225655,vB true] [])
 (ay (a==[105,51,56,54]) (Fi r h [vW 1073741827,vB true] [])
 (ay (a==[120,56,54,95,54,52]) (Fi r h [vW 3221225534,vB true] [])
 (Fi r h [vW 0,vB false] [])))):
  ak 15 [vS a] [] r h:=.of func15 A15 H
def A20:bq:={}
def W20{r h}(H:Fi r h [vL 5 [[S [98,114,107],L 1 [[S [97,100,100,114]]],N 12,N 45,N 214],[S [99,108,111,115,101],L 1 [[S [102,100]]],N 3,N 6,N 57],[S [100,117,112],L 1 [[S [102,100]]],N 32,N 41,N 23],[S [101,120,105,116],L 1 [[S [99,111,100,101]]],N 60,N 1,N 93],[S [101,120,105,116,95,103,114,111,117,112],L 1 [[S [99,111,100,101]]],N 231,N 252,N 94],[S [103,101,116,112,105,100],L 1 [],N 39,N 20,N 172],[S [105,111,99,116,108],L 1 [[S [102,100]],[S [114,101,113,117,101,115,116]],[S [97,114,103]]],N 16,N 54,N 29],[S [107,105,108,108],L 1 [[S [112,105,100]],[S [115,105,103]]],N 62,N 37,N 129],[S [109,109,97,112],L 1 [[S [97,100,100,114]],[S [108,101,110]],[S [112,114,111,116]],[S [102,108,97,103,115]],[S [102,100]],[S [111,102,102]]],N 9,N 90,N 222],[S [109,112,114,111,116,101,99,116],L 1 [[S [97,100,100,114]],[S [108,101,110]],[S [112,114,111,116]]],N 10,N 125,N 226],[S [109,117,110,109,97,112],L 1 [[S [97,100,100,114]],[S [108,101,110]]],N 11,N 91,N 215],[S [111,112,101,110],L 1 [[S [112,97,116,104]],[S [102,108,97,103,115]],[S [109,111,100,101]]],N 2,N 5,N (-1)],[S [111,112,101,110,97,116],L 1 [[S [100,105,114]],[S [112,97,116,104]],[S [102,108,97,103,115]],[S [109,111,100,101]]],N 257,N 295,N 56],[S [112,114,99,116,108],L 1 [[S [111,112,116,105,111,110]],[S [97]],[S [98]],[S [99]],[S [100]]],N 157,N 172,N 167],[S [114,101,97,100],L 1 [[S [102,100]],[S [98,117,102]],[S [99,111,117,110,116]]],N 0,N 3,N 63],[S [115,111,99,107,101,116],L 1 [[S [102,97,109,105,108,121]],[S [116,121,112,101]],[S [112,114,111,116,111,99,111,108]]],N 41,N 359,N 198],[S [119,114,105,116,101],L 1 [[S [102,100]],[S [98,117,102]],[S [99,111,117,110,116]]],N 1,N 4,N 64]]] []):
  ak 20 [] [] r h:=.of func20 A20 H
def LW(a:Int)(b c d:Rw)(e f:Int):St:=⟨aM 88 [(1,.aA 0 0),(3,vN a)],[],[.cells [vL 6 b,vL 2 c,vL 1 d,vN e,vN f]]⟩
def LX(a:Int)(b c d:Rw)(e f:Int):St:=⟨aM 88 [(1,.aA 0 0),(4,vN a)],[],[.cells [vL 6 b,vL 2 c,vL 1 d,vN e,vN f]]⟩
def LY(a b:Int)(c d e:Rw)(f g:Int):St:=⟨aM 88 [(1,.aA 0 0),(4,vN a),(5,vN b)],[],[.cells [vL 6 c,vL 2 d,vL 1 e,vN f,vN g]]⟩
def A22:bq:={an:=[(4,5,ah),(4,6,ah),(4,14,ah),(4,15,ah),(9,5,ah),(9,6,ah),(12,6,ah),(14,5,ah),(14,8,ah),(14,9,ah),(16,2,ah),(17,2,aa),(17,3,aa),(17,4,aa),(17,5,aa),(17,10,ah)],cut:=[(12,{bl:=[1,4,5]}),(2,{bl:=[1,3]}),(7,{bl:=[1,4]})]}
def W22(a b c:Rw)(d e:Int){r h}(H:Lp f22 0 (LW 0 a b c d e) 0 r h):
  ak 22 [.agg [L 6 a,L 2 b,L 1 c,N d,N e]] [] r h:=.of func22 A22 H
def VI(a:Int)(b c d:Rw)(e f:Int){r h}(H:ay (decide (a<(b.length:Int))) (gI b a fun j p q s t u=>∃g,ak 40 [vS j] [] [vB g] []/\ay (!g) (Fi r h [vB false] []) (gI b a fun v k l m n o=>∃i,ak 41 [.agg [N k,S l,S m,U n,L 5 o]] [] [vB i] []/\ay (!i) (Fi r h [vB false] [])
 (bh .i64 (a+1)/\Lp f22 0 (LW (a+1) b c d e f) 0 r h)))
 (Lp f22 1 (LX 0 b c d e f) 0 r h)):
  Lp f22 0 (LW a b c d e f) 0 r h:=.of A22 H
def VJ(a:Int)(f b c:Rw)(d e:Int){r h}(H:ay (decide (a<(b.length:Int))) (p8 b a fun l m=>∃g,ak 40 [vS l] [] [vB g] []/\ay (!g) (Fi r h [vB false] [])
 (Lp f22 2 (LY a 0 f b c d e) 0 r h))
 (∃k i,ak 13 [.agg [N d,N e]] [] [vW k,vB i] []/\ay (bif i then(decide ((c.length:Int)>0))else false) (∃j,ak 43 [vL 1 c] [] [vB j] []/\Fi r h [vB j] []) (Fi r h [vB false] []))):
  Lp f22 1 (LX a f b c d e) 0 r h:=.of A22 H
def VK(a b:Int)(d c e:Rw)(f g:Int){r h}(H:p8 c a fun p j=>ay (decide (b<(j.length:Int))) (p8 c a fun q k=>jV k b fun l m n o=>∃i,ak 42 [.agg [S l,N m,N n,L 3 o]] [] [vB i] []/\ay (!i) (Fi r h [vB false] [])
 (bh .i64 (b+1)/\Lp f22 2 (LY a (b+1) d c e f g) 0 r h))
 (bh .i64 (a+1)/\Lp f22 1 (LX (a+1) d c e f g) 0 r h)):
  Lp f22 2 (LY a b d c e f g) 0 r h:=.of A22 H
def LZ(a:By)(b:Int)(c d e:Rw)(f g:Int):St:=⟨aM 94 [(1,.aA 0 0),(3,vS a),(4,vN b)],[],[.cells [vL 6 c,vL 2 d,vL 1 e,vN f,vN g]]⟩
def L0(a:By)(b:Int)(c d e:Rw)(f g:Int):St:=⟨aM 94 [(1,.aA 0 0),(3,vS a),(5,vN b)],[],[.cells [vL 6 c,vL 2 d,vL 1 e,vN f,vN g]]⟩
def L1(a:By)(b:Int)(c:Rw)(d:Int)(e f g:Rw)(i j:Int):St:=⟨aM 94 [(1,.aA 0 0),(3,vS a),(5,vN b),(6,.own 0 0 1 c),(7,vN d)],[some 0],[.cells [vL 6 e,vL 2 f,vL 1 g,vN i,vN j]]⟩
def A23:bq:={an:=[(1,1,ah),(7,7,ah),(7,15,ah),(7,16,ah),(13,6,ah),(15,6,ah),(15,9,ah),(15,10,ah),(16,7,ah),(16,11,ah),(17,4,ah),(17,9,ah)],cut:=[(13,{bl:=[1,3,5,6,7],dw:=[(6,1)],owns:=[6]}),(5,{bl:=[1,3,4]}),(9,{bl:=[1,3,5]})]}
def W23(a b c:Rw)(d e:Int){r h}(H:∃f,ak 22 [.agg [L 6 a,L 2 b,L 1 c,N d,N e]] [] [vB f] []/\ay (!f) (Fi r h [vS []] [])
 (Lp f23 0 (LZ [] 0 a b c d e) 0 r h)):
  ak 23 [.agg [L 6 a,L 2 b,L 1 c,N d,N e]] [] r h:=.of func23 A23 H
def VL(a:By)(b:Int)(c f g:Rw)(i j:Int){r h}(H:ay (decide (b<(c.length:Int))) (a.length+([35,100,101,102,105,110,101,32]:By).length<=9223372036854775807/\gI c b fun d p q s t u=>(a++([35,100,101,102,105,110,101,32]:By)).length+d.length<=9223372036854775807/\((a++([35,100,101,102,105,110,101,32]:By))++d).length+([32]:By).length<=9223372036854775807/\gI c b fun v k l m n o=>∃e,ak 44 [.agg [N k,S l,S m,U n,L 5 o]] [] [vS e] []/\(((a++([35,100,101,102,105,110,101,32]:By))++d)++([32]:By)).length+e.length<=9223372036854775807/\((((a++([35,100,101,102,105,110,101,32]:By))++d)++([32]:By))++e).length+([10]:By).length<=9223372036854775807/\bh .i64 (b+1)/\Lp f23 0 (LZ (((((a++([35,100,101,102,105,110,101,32]:By))++d)++([32]:By))++e)++([10]:By)) (b+1) c f g i j) 0 r h)
 (Lp f23 1 (L0 a 0 c f g i j) 0 r h)):
  Lp f23 0 (LZ a b c f g i j) 0 r h:=.of A23 H
def VM(a:By)(d:Int)(j e f:Rw)(g i:Int){r h}(H:ay (decide (d<(e.length:Int))) (Lp f23 2 (L1 a d [] 0 j e f g i) 0 r h)
 (a.length+([85,83,69,32]:By).length<=9223372036854775807/\∃b,ak 47 [vL 1 f,vS [44,32]] [] [vS b] []/\(a++([85,83,69,32]:By)).length+b.length<=9223372036854775807/\((a++([85,83,69,32]:By))++b).length+([32,68,69,70,65,85,76,84,32]:By).length<=9223372036854775807/\∃c,ak 48 [.agg [N g,N i]] [] [vS c] []/\(((a++([85,83,69,32]:By))++b)++([32,68,69,70,65,85,76,84,32]:By)).length+c.length<=9223372036854775807/\((((a++([85,83,69,32]:By))++b)++([32,68,69,70,65,85,76,84,32]:By))++c).length+([10]:By).length<=9223372036854775807/\Fi r h [vS (((((a++([85,83,69,32]:By))++b)++([32,68,69,70,65,85,76,84,32]:By))++c)++([10]:By))] [])):
  Lp f23 1 (L0 a d j e f g i) 0 r h:=.of A23 H
def VN(a:By)(b:Int)(f:Rw)(d:Int)(i c j:Rw)(k l:Int){r h}(H:p8 c b fun u n=>ay (decide (d<(n.length:Int))) (p8 c b fun v o=>jV o d fun p q s t=>∃m,ak 45 [.agg [S p,N q,N s,L 3 t]] [] [vS m] []/\(f++([[S m]]:Rw)).length*16<=2^47/\bh .i64 (d+1)/\Lp f23 2 (L1 a b (f++([[S m]]:Rw)) (d+1) i c j k l) 0 r h)
 (a.length+([80,79,76,73,67,89,32]:By).length<=9223372036854775807/\p8 c b fun e w=>(a++([80,79,76,73,67,89,32]:By)).length+e.length<=9223372036854775807/\((a++([80,79,76,73,67,89,32]:By))++e).length+([32]:By).length<=9223372036854775807/\∃g,ak 46 [vL 1 f] [] [vS g] []/\(((a++([80,79,76,73,67,89,32]:By))++e)++([32]:By)).length+g.length<=9223372036854775807/\((((a++([80,79,76,73,67,89,32]:By))++e)++([32]:By))++g).length+([10]:By).length<=9223372036854775807/\bh .i64 (b+1)/\Lp f23 1 (L0 (((((a++([80,79,76,73,67,89,32]:By))++e)++([32]:By))++g)++([10]:By)) (b+1) i c j k l) 0 r h)):
  Lp f23 2 (L1 a b f d i c j k l) 0 r h:=.of A23 H
def HX(a:By)(b:Int):St:=⟨aM 34 [(0,vS a),(3,vN b)],[],[]⟩
def A40:bq:={an:=[(1,5,ah),(6,3,ah),(6,9,ah),(8,2,ah)],cut:=[(4,{bl:=[0,3]})]}
def W40(a:By){r h}(H:ay (a==[]) (Fi r h [vB false] []) ((0<=(0:Int)/\0<(a.length:Int))/\∃b,ak 66 [vY (UInt8.toNat (List.getD a (Int.toNat 0) 0):Int)] [] [vB b] []/\ay (!b) (Fi r h [vB false] [])
 (Lp f40 0 (HX a 0) 0 r h))):
  ak 40 [vS a] [] r h:=.of func40 A40 H
def VO(b:By)(a:Int){r h}(H:ay (decide (a<(b.length:Int))) ((0<=a/\a<(b.length:Int))/\∃c,ak 66 [vY (UInt8.toNat (List.getD b (Int.toNat a) 0):Int)] [] [vB c] []/\ay (!c) ((0<=a/\a<(b.length:Int))/\∃d,ak 67 [vY (UInt8.toNat (List.getD b (Int.toNat a) 0):Int)] [] [vB d] []/\ay (!d) (Fi r h [vB false] [])
 (bh .i64 (a+1)/\Lp f40 0 (HX b (a+1)) 0 r h)) (bh .i64 (a+1)/\Lp f40 0 (HX b (a+1)) 0 r h))
 (∃e,ak 68 [vL 1 [[S [80,79,76,73,67,89]],[S [85,83,69]],[S [68,69,70,65,85,76,84]],[S [65,76,76,79,87]],[S [76,79,71]],[S [75,73,76,76]],[S [75,73,76,76,95,80,82,79,67,69,83,83]],[S [84,82,65,80]],[S [69,82,82,78,79]],[S [84,82,65,67,69]]],vS b] [] [vB e] []/\Fi r h [vB (!e)] [])):
  Lp f40 0 (HX b a) 0 r h:=.of A40 H
def A41:bq:={an:=[(2,1,ah),(3,4,aa),(3,5,aa),(3,6,aa),(3,9,aa),(3,10,aa),(3,11,aa),(3,14,aa),(3,15,aa),(3,16,aa),(3,17,aa),(3,23,ah),(3,24,ah),(3,30,ah),(3,31,ah)]}
def W41(b:Int)(c d:By)(e:Int)(a:Rw){r h}(H:ay (b !=8) (∃f,ak 69 [.agg [N b,S c,S d,U e,L 5 a]] [] [vB f] []/\Fi r h [vB f] [])
 (ay (bif(bif(bif(c==[])then(d==[])else false)then(e==0)else false)then((a.length:Int)==2)else false) (bu a 0 fun j k l m n=>∃g,ak 41 [.agg [N j,S k,S l,U m,L 5 n]] [] [vB g] []/\ay g (bu a 1 fun o p q s t=>∃i,ak 69 [.agg [N o,S p,S q,U s,L 5 t]] [] [vB i] []/\Fi r h [vB i] []) (Fi r h [vB false] [])) (Fi r h [vB false] []))):
  ak 41 [.agg [N b,S c,S d,U e,L 5 a]] [] r h:=.of func41 A41 H
def qe(a:Bool)(b:Int)(c:By)(d e:Int)(f:Rw):St:=⟨aM 82 [(1,.aA 0 0),(4,vB a),(5,vN b)],[],[.cells [vS c,vN d,vN e,vL 3 f]]⟩
def A42:bq:={an:=[(2,2,ah),(2,10,aa),(2,11,aa),(2,12,aa),(2,13,aa),(3,2,ah),(5,6,aa),(7,4,ah),(8,2,ah),(8,6,ah),(8,9,aa),(8,10,aa),(8,11,aa),(8,12,aa),(8,23,ah),(8,24,ah),(8,29,ah),(8,30,ah)],cut:=[(5,{bl:=[1,4,5]})]}
def W42(a:By)(b c:Int)(d:Rw){r h}(H:ay (!(a==[])) (∃e,ak 40 [vS a] [] [vB e] []/\ay e (Fi r h [vB (bif((true&&(b==0))&&(c==0))then((d.length:Int)==0)else false)] []) (Fi r h [vB (bif false then((d.length:Int)==0)else false)] []))
 (∃g f,ak 13 [.agg [N b,N c]] [] [vW g,vB f] []/\Lp f42 0 (qe f 0 a b c d) 0 r h)):
  ak 42 [.agg [S a,N b,N c,L 3 d]] [] r h:=.of func42 A42 H
def VP(g:Bool)(a:Int)(c:By)(d e:Int)(b:Rw){r h}(H:ay (bif(decide (a<(b.length:Int)))then g else false) (rU b a fun o p f=>∃i,ak 40 [vS o] [] [vB i] []/\ay i (∃j,ak 43 [vL 1 p] [] [vB j] []/\ay (bif j then(decide ((f.length:Int)<=1))else false) (ay ((f.length:Int)==0) (bh .i64 (a+1)/\Lp f42 0 (qe true (a+1) c d e b) 0 r h) (bu f 0 fun q s t u v=>∃k,ak 70 [.agg [N q,S s,S t,U u,L 5 v]] [] [vB k] []/\ay k (bu f 0 fun w x y z D=>∃l,ak 71 [.agg [N w,S x,S y,U z,L 5 D]] [] [vN l] []/\bh .i64 (a+1)/\Lp f42 0 (qe (decide (l<=30)) (a+1) c d e b) 0 r h) (bh .i64 (a+1)/\Lp f42 0 (qe false (a+1) c d e b) 0 r h))) (bh .i64 (a+1)/\Lp f42 0 (qe false (a+1) c d e b) 0 r h)) (ay (bif false then(decide ((f.length:Int)<=1))else false) (ay ((f.length:Int)==0) (bh .i64 (a+1)/\Lp f42 0 (qe true (a+1) c d e b) 0 r h) (bu f 0 fun E G I J K=>∃m,ak 70 [.agg [N E,S G,S I,U J,L 5 K]] [] [vB m] []/\ay m (bu f 0 fun M Q T X Y=>∃n,ak 71 [.agg [N M,S Q,S T,U X,L 5 Y]] [] [vN n] []/\bh .i64 (a+1)/\Lp f42 0 (qe (decide (n<=30)) (a+1) c d e b) 0 r h) (bh .i64 (a+1)/\Lp f42 0 (qe false (a+1) c d e b) 0 r h))) (bh .i64 (a+1)/\Lp f42 0 (qe false (a+1) c d e b) 0 r h)))
 (Fi r h [vB g] [])):
  Lp f42 0 (qe g a c d e b) 0 r h:=.of A42 H
def L2(a:Rw)(b:Int):St:=⟨aM 16 [(0,vL 1 a),(3,vN b)],[],[]⟩
def A43:bq:={an:=[(4,3,ah),(4,4,ah)],cut:=[(2,{bl:=[0,3]})]}
def W43(a:Rw){r h}(H:Lp f43 0 (L2 a 0) 0 r h):
  ak 43 [vL 1 a] [] r h:=.of func43 A43 H
def VQ(b:Rw)(a:Int){r h}(H:ay (decide (a<(b.length:Int))) (M7 b a fun d=>∃c,ak 40 [vS d] [] [vB c] []/\ay (!c) (Fi r h [vB false] [])
 (bh .i64 (a+1)/\Lp f43 0 (L2 b (a+1)) 0 r h))
 (Fi r h [vB true] [])):
  Lp f43 0 (L2 b a) 0 r h:=.of A43 H
def A44:bq:={an:=[(3,3,ah),(3,4,ah),(3,10,ah),(3,11,ah),(5,3,ah),(5,4,ah),(5,10,ah),(5,11,ah),(7,3,ah),(7,4,ah),(9,3,ah),(9,4,ah),(9,13,ah),(9,14,ah),(11,6,ah),(11,7,ah),(13,3,ah),(13,4,ah),(13,9,ah),(13,10,ah),(15,2,ah)]}
def VR(b:Int)(f g:By)(p:Int)(a:Rw){r h}(H:ay (b==1) (bu a 0 fun s t u v w=>∃c,ak 44 [.agg [N s,S t,S u,U v,L 5 w]] [] [vS c] []/\([40]:By).length+c.length<=9223372036854775807/\(([40]:By)++c).length+([32,124,124,32]:By).length<=9223372036854775807/\bu a 1 fun x y z D E=>∃i,ak 44 [.agg [N x,S y,S z,U D,L 5 E]] [] [vS i] []/\((([40]:By)++c)++([32,124,124,32]:By)).length+i.length<=9223372036854775807/\(((([40]:By)++c)++([32,124,124,32]:By))++i).length+([41]:By).length<=9223372036854775807/\Fi r h [vS ((((([40]:By)++c)++([32,124,124,32]:By))++i)++([41]:By))] [])
 (ay (b==2) (bu a 0 fun G I J K M=>∃d,ak 44 [.agg [N G,S I,S J,U K,L 5 M]] [] [vS d] []/\([40]:By).length+d.length<=9223372036854775807/\(([40]:By)++d).length+([32,38,38,32]:By).length<=9223372036854775807/\bu a 1 fun Q T X Y Z=>∃j,ak 44 [.agg [N Q,S T,S X,U Y,L 5 Z]] [] [vS j] []/\((([40]:By)++d)++([32,38,38,32]:By)).length+j.length<=9223372036854775807/\(((([40]:By)++d)++([32,38,38,32]:By))++j).length+([41]:By).length<=9223372036854775807/\Fi r h [vS ((((([40]:By)++d)++([32,38,38,32]:By))++j)++([41]:By))] [])
 (ay (b==3) (bu a 0 fun F A R a3 a4=>∃l,ak 44 [.agg [N F,S A,S R,U a3,L 5 a4]] [] [vS l] []/\([33]:By).length+l.length<=9223372036854775807/\Fi r h [vS (([33]:By)++l)] [])
 (ay (b==4) (bu a 0 fun a5 a6 a7 a8 a9=>∃e,ak 44 [.agg [N a5,S a6,S a7,U a8,L 5 a9]] [] [vS e] []/\e.length+([32]:By).length<=9223372036854775807/\(e++([32]:By)).length+f.length<=9223372036854775807/\((e++([32]:By))++f).length+([32]:By).length<=9223372036854775807/\bu a 1 fun b0 b1 b2 b3 b4=>∃m,ak 44 [.agg [N b0,S b1,S b2,U b3,L 5 b4]] [] [vS m] []/\(((e++([32]:By))++f)++([32]:By)).length+m.length<=9223372036854775807/\Fi r h [vS ((((e++([32]:By))++f)++([32]:By))++m)] [])
 (ay (b==6) (g.length+([32,38,32]:By).length<=9223372036854775807/\bu a 0 fun b5 b6 b7 b8 b9=>∃n,ak 44 [.agg [N b5,S b6,S b7,U b8,L 5 b9]] [] [vS n] []/\(g++([32,38,32]:By)).length+n.length<=9223372036854775807/\Fi r h [vS ((g++([32,38,32]:By))++n)] [])
 (ay (b==8) (bu a 0 fun c0 c1 c2 c3 c4=>∃k,ak 44 [.agg [N c0,S c1,S c2,U c3,L 5 c4]] [] [vS k] []/\k.length+([32,124,32]:By).length<=9223372036854775807/\bu a 1 fun c5 c6 c7 c8 c9=>∃o,ak 44 [.agg [N c5,S c6,S c7,U c8,L 5 c9]] [] [vS o] []/\(k++([32,124,32]:By)).length+o.length<=9223372036854775807/\Fi r h [vS ((k++([32,124,32]:By))++o)] [])
 (ay (b==7) (∃q,ak 72 [vU p] [] [vS q] []/\Fi r h [vS q] [])
 (Fi r h [vS g] [])))))))):
  ak 44 [.agg [N b,S f,S g,U p,L 5 a]] [] r h:=.of func44 A44 H
def HY(a:Rw)(b:Int)(c:By)(d e:Int)(f:Rw):St:=⟨aM 62 [(1,.aA 0 0),(3,.own 0 0 1 a),(4,vN b)],[some 0],[.cells [vS c,vN d,vN e,vL 3 f]]⟩
def Fm(a:Rw)(b:Int)(c d:By)(e f:Int)(g:Rw)(i:By)(j k:Rw):St:=⟨aM 62 [(1,.aA 0 0),(3,.own 0 0 1 a),(4,vN b),(5,.aA 1 0),(6,vS c)],[some 0],[.cells [vS d,vN e,vN f,vL 3 g],.cells [vS i,vL 1 j,vL 5 k]]⟩
def A45:bq:={an:=[(7,4,ah),(10,4,ah),(12,5,ah),(12,6,ah),(14,2,ah),(14,5,ah)],cut:=[(5,{bl:=[1,3,4],dw:=[(3,1)],owns:=[3]})],join:=[(11,{bl:=[1,3,4,5,6],dw:=[(3,1)],owns:=[3]})]}
def W45(a:By)(b c:Int)(d:Rw){r h}(H:ay (!(a==[])) (([85,83,69,32]:By).length+a.length<=9223372036854775807/\Fi r h [vS (([85,83,69,32]:By)++a)] [])
 (Lp f45 0 (HY [] 0 a b c d) 0 r h)):
  ak 45 [.agg [S a,N b,N c,L 3 d]] [] r h:=.of func45 A45 H
def VS(d:Rw)(b:Int)(k:By)(e f:Int)(c:Rw){r h}(H:ay (decide (b<(c.length:Int))) (rU c b fun a j m=>ay (decide ((j.length:Int)>0)) (a.length+([40]:By).length<=9223372036854775807/\∃g,ak 47 [vL 1 j,vS [44,32]] [] [vS g] []/\(a++([40]:By)).length+g.length<=9223372036854775807/\((a++([40]:By))++g).length+([41]:By).length<=9223372036854775807/\Rp f45 11 (Fm d b (((a++([40]:By))++g)++([41]:By)) k e f c a j m) 0 r h)
 (Rp f45 11 (Fm d b a k e f c a j m) 0 r h))
 (∃i,ak 48 [.agg [N e,N f]] [] [vS i] []/\i.length+([32]:By).length<=9223372036854775807/\∃l,ak 46 [vL 1 d] [] [vS l] []/\(i++([32]:By)).length+l.length<=9223372036854775807/\Fi r h [vS ((i++([32]:By))++l)] [])):
  Lp f45 0 (HY d b k e f c) 0 r h:=.of A45 H
def X8(b:Rw)(c:Int)(a e:By)(f g:Int)(i:Rw)(k:By)(l j:Rw){r h}(H:ay (decide ((j.length:Int)>0)) (a.length+([32,123,32]:By).length<=9223372036854775807/\bu j 0 fun m n o p q=>∃d,ak 44 [.agg [N m,S n,S o,U p,L 5 q]] [] [vS d] []/\(a++([32,123,32]:By)).length+d.length<=9223372036854775807/\((a++([32,123,32]:By))++d).length+([32,125]:By).length<=9223372036854775807/\(b++([[S (((a++([32,123,32]:By))++d)++([32,125]:By))]]:Rw)).length*16<=2^47/\bh .i64 (c+1)/\Lp f45 0 (HY (b++([[S (((a++([32,123,32]:By))++d)++([32,125]:By))]]:Rw)) (c+1) e f g i) 0 r h)
 ((b++([[S a]]:Rw)).length*16<=2^47/\bh .i64 (c+1)/\Lp f45 0 (HY (b++([[S a]]:Rw)) (c+1) e f g i) 0 r h)):
  Rp f45 11 (Fm b c a e f g i k l j) 0 r h:=xm.of A45 H
def A46:bq:={an:=[(3,1,ah)]}
def W46(b:Rw){r h}(H:ay ((b.length:Int)==0) (Fi r h [vS [123,32,125]] [])
 (∃a,ak 47 [vL 1 b,vS [44,32]] [] [vS a] []/\([123,32]:By).length+a.length<=9223372036854775807/\(([123,32]:By)++a).length+([32,125]:By).length<=9223372036854775807/\Fi r h [vS ((([123,32]:By)++a)++([32,125]:By))] [])):
  ak 46 [vL 1 b] [] r h:=.of func46 A46 H
def HZ(a:Rw)(b c:By)(d:Int):St:=⟨aM 25 [(0,vL 1 a),(1,vS b),(5,vS c),(6,vN d)],[],[]⟩
def A47:bq:={an:=[(7,4,ah)],cut:=[(3,{bl:=[0,1,5,6]})]}
def W47(a:Rw)(b:By){r h}(H:Lp f47 0 (HZ a b [] 0) 0 r h):
  ak 47 [vL 1 a,vS b] [] r h:=.of func47 A47 H
def L3(c:Rw)(d b:By)(a:Int){r h}(H:ay (decide (a<(c.length:Int))) (ay (decide (a>0)) (b.length+d.length<=9223372036854775807/\M7 c a fun e=>(b++d).length+e.length<=9223372036854775807/\bh .i64 (a+1)/\Lp f47 0 (HZ c d ((b++d)++e) (a+1)) 0 r h)
 (M7 c a fun f=>b.length+f.length<=9223372036854775807/\bh .i64 (a+1)/\Lp f47 0 (HZ c d (b++f) (a+1)) 0 r h))
 (Fi r h [vS b] [])):
  Lp f47 0 (HZ c d b a) 0 r h:=.of A47 H
def A48:bq:={an:=[(1,4,ah),(2,4,aa),(2,5,aa),(2,6,aa),(3,5,ah)]}
def W48(b d:Int){r h}(H:M7 [[S []],[S [75,73,76,76,95,80,82,79,67,69,83,83]],[S [75,73,76,76]],[S [84,82,65,80]],[S [69,82,82,78,79]],[S [84,82,65,67,69]],[S [76,79,71]],[S [65,76,76,79,87]]] b fun a=>ay (bif(decide (b>=3))then(decide (b<=5))else false) (a.length+([40]:By).length<=9223372036854775807/\∃c,ak 72 [vU (IntKind.wrap .u64 d)] [] [vS c] []/\(a++([40]:By)).length+c.length<=9223372036854775807/\((a++([40]:By))++c).length+([41]:By).length<=9223372036854775807/\Fi r h [vS (((a++([40]:By))++c)++([41]:By))] [])
 (Fi r h [vS a] [])):
  ak 48 [.agg [N b,N d]] [] r h:=.of func48 A48 H
def L4(a:Rw)(b:By)(c:Int):St:=⟨aM 18 [(0,vL 1 a),(1,vS b),(5,vN c)],[],[]⟩
def A68:bq:={an:=[(4,3,ah)],cut:=[(2,{bl:=[0,1,5]})]}
def W68(a:Rw)(b:By){r h}(H:Lp f68 0 (L4 a b 0) 0 r h):
  ak 68 [vL 1 a,vS b] [] r h:=.of func68 A68 H
def VT(b:Rw)(c:By)(a:Int){r h}(H:ay (decide (a<(b.length:Int))) (M7 b a fun d=>ay (d==c) (Fi r h [vB true] [])
 (bh .i64 (a+1)/\Lp f68 0 (L4 b c (a+1)) 0 r h))
 (Fi r h [vB false] [])):
  Lp f68 0 (L4 b c a) 0 r h:=.of A68 H
def A69:bq:={an:=[(3,4,aa),(3,5,aa),(3,6,aa),(3,9,aa),(3,10,aa),(3,11,aa),(3,12,aa),(5,6,ah),(5,9,aa),(5,10,aa),(5,11,aa),(5,14,aa),(5,15,aa),(5,16,aa),(5,17,aa)]}
def W69(b:Int)(c d:By)(e:Int)(a:Rw){r h}(H:ay (b==7) (Fi r h [vB (bif(bif(c==[])then(d==[])else false)then((a.length:Int)==0)else false)] [])
 (ay (b==5) (ay (c==[]) (∃f,ak 40 [vS d] [] [vB f] []/\Fi r h [vB (bif(bif f then(e==0)else false)then((a.length:Int)==0)else false)] []) (Fi r h [vB (bif(bif false then(e==0)else false)then((a.length:Int)==0)else false)] []))
 (Fi r h [vB false] []))):
  ak 69 [.agg [N b,S c,S d,U e,L 5 a]] [] r h:=.of func69 A69 H
def A70:bq:={an:=[(1,4,aa),(1,5,aa),(1,6,aa),(6,4,aa),(6,5,aa),(6,6,aa),(6,7,aa),(6,13,ah),(6,14,ah),(6,20,ah),(6,21,ah),(8,4,aa),(8,5,aa),(8,6,aa),(8,7,aa),(8,13,ah),(8,14,ah),(10,7,ah),(10,14,ah),(10,15,ah),(12,3,ah),(14,1,ah),(15,4,aa),(15,5,aa),(15,6,aa),(15,11,ah),(15,14,aa),(15,15,aa),(15,16,aa),(15,19,aa),(15,20,aa),(15,21,aa),(15,22,aa),(15,28,ah),(15,29,ah)]}
def W70(b:Int)(c g:By)(i:Int)(a:Rw){r h}(H:ay (bif(!(g==[]))then true else(i !=0)) (Fi r h [vB false] [])
 (ay (b==1) (ay (bif(c==[])then((a.length:Int)==2)else false) (bu a 0 fun x y z D E=>∃j,ak 70 [.agg [N x,S y,S z,U D,L 5 E]] [] [vB j] []/\ay j (bu a 1 fun G I J K M=>∃k,ak 70 [.agg [N G,S I,S J,U K,L 5 M]] [] [vB k] []/\Fi r h [vB k] []) (Fi r h [vB false] [])) (Fi r h [vB false] []))
 (ay (b==2) (ay (bif(c==[])then((a.length:Int)==2)else false) (bu a 0 fun Q T X Y Z=>∃l,ak 70 [.agg [N Q,S T,S X,U Y,L 5 Z]] [] [vB l] []/\ay l (bu a 1 fun F A R a3 a4=>∃m,ak 70 [.agg [N F,S A,S R,U a3,L 5 a4]] [] [vB m] []/\Fi r h [vB m] []) (Fi r h [vB false] [])) (Fi r h [vB false] []))
 (ay (b==3) (ay (bif(c==[])then((a.length:Int)==1)else false) (bu a 0 fun a5 a6 a7 a8 a9=>∃n,ak 70 [.agg [N a5,S a6,S a7,U a8,L 5 a9]] [] [vB n] []/\Fi r h [vB n] []) (Fi r h [vB false] []))
 (ay (b==4) (ay ((a.length:Int) !=2) (Fi r h [vB false] []) (∃o,ak 73 [vS c] [] [vN o] []/\ay (o==0) (Fi r h [vB false] []) (bu a 1 fun b0 b1 b2 b3 b4=>∃p,ak 41 [.agg [N b0,S b1,S b2,U b3,L 5 b4]] [] [vB p] []/\ay (!p) (Fi r h [vB false] [])
 (bu a 0 fun e v w f d=>ay (e==5) (∃q,ak 69 [.agg [N e,S v,S w,U f,L 5 d]] [] [vB q] []/\Fi r h [vB q] [])
 (ay (bif(e==6)then(v==[])else false) (∃s,ak 40 [vS w] [] [vB s] []/\ay (bif(bif s then(f==0)else false)then((d.length:Int)==1)else false) (bu d 0 fun b5 b6 b7 b8 b9=>∃t,ak 69 [.agg [N b5,S b6,S b7,U b8,L 5 b9]] [] [vB t] []/\Fi r h [vB t] []) (Fi r h [vB false] [])) (ay (bif(bif false then(f==0)else false)then((d.length:Int)==1)else false) (bu d 0 fun c0 c1 c2 c3 c4=>∃u,ak 69 [.agg [N c0,S c1,S c2,U c3,L 5 c4]] [] [vB u] []/\Fi r h [vB u] []) (Fi r h [vB false] [])))))))
 (Fi r h [vB false] [])))))):
  ak 70 [.agg [N b,S c,S g,U i,L 5 a]] [] r h:=.of func70 A70 H
def H0(a b c:Int)(d e:By)(f:Int)(g:Rw):St:=⟨aM 25 [(1,.aA 0 0),(3,vN a),(4,vN b)],[],[.cells [vN c,vS d,vS e,vU f,vL 5 g]]⟩
def A71:bq:={an:=[(5,4,ah),(5,5,ah)],cut:=[(3,{bl:=[1,3,4]})]}
def W71(a:Int)(b c:By)(d:Int)(e:Rw){r h}(H:Lp f71 0 (H0 0 0 a b c d e) 0 r h):
  ak 71 [.agg [N a,S b,S c,U d,L 5 e]] [] r h:=.of func71 A71 H
def VU(b a d:Int)(e f:By)(g:Int)(c:Rw){r h}(H:ay (decide (a<(c.length:Int))) (bu c a fun j k l m n=>∃i,ak 71 [.agg [N j,S k,S l,U m,L 5 n]] [] [vN i] []/\ay (decide (i>b)) (bh .i64 (a+1)/\Lp f71 0 (H0 i (a+1) d e f g c) 0 r h)
 (bh .i64 (a+1)/\Lp f71 0 (H0 b (a+1) d e f g c) 0 r h))
 (bh .i64 (b+1)/\Fi r h [vN (b+1)] [])):
  Lp f71 0 (H0 b a d e f g c) 0 r h:=.of A71 H
def A73:bq:={}
def W73(a:By){r h}(H:ay (a==[61,61]) (Fi r h [vN 1] [])
 (ay (a==[33,61]) (Fi r h [vN 2] [])
 (ay (a==[60]) (Fi r h [vN 3] [])
 (ay (a==[60,61]) (Fi r h [vN 4] [])
 (ay (a==[62]) (Fi r h [vN 5] [])
 (ay (a==[62,61]) (Fi r h [vN 6] [])
 (Fi r h [vN 0] []))))))):
  ak 73 [vS a] [] r h:=.of func73 A73 H
def H2(a:Rw)(b c d e f g i j k l:Int):St:=⟨aM 27 [(1,.aA 0 0),(3,.own 0 0 1 a),(4,vN b)],[some 0],[K1 c d e f g i j k l]⟩
def A19:bq:={an:=[(1,3,{fz:=true,bA:=true,cons:=[0]}),(1,7,{fz:=true,bA:=true,cons:=[0]}),(1,10,{fz:=true,bA:=true,cons:=[0]}),(5,5,{fz:=true,bA:=true,cons:=[0]})],cut:=[(3,{bl:=[1,3,4],dw:=[(3,1)],owns:=[3]})]}
def W19(a b c d e f g i j:Int){r h}(H:∃k,ak 37 [.own 0 0 1 [],vU (IntKind.wrap .u64 a),vN 4] [] [.own 0 0 1 k] []/\∃l,ak 37 [.own 0 0 1 k,vU (IntKind.wrap .u64 b),vN 4] [] [.own 0 0 1 l] []/\∃m,ak 37 [.own 0 0 1 l,vU c,vN 8] [] [.own 0 0 1 m] []/\Lp f19 0 (H2 m 0 a b c d e f g i j) 0 r h):
  ak 19 [.agg [W a,W b,U c,U d,U e,U f,U g,U i,U j]] [] r h:=.of func19 A19 H
def VV(b:Rw)(a c d e f g i j k l:Int){r h}(H:ay (decide (a<6)) ((0<=a/\a<6)/\∃m,([vW c,vW d,vU e,vU f,vU g,vU i,vU j,vU k,vU l]:List AV)[3+Int.toNat a*1+0]?=some (.v (U m))/\∃n,ak 37 [.own 0 0 1 b,vU m,vN 8] [] [.own 0 0 1 n] []/\bh .i64 (a+1)/\Lp f19 0 (H2 n (a+1) c d e f g i j k l) 0 r h)
 (Fi r h [.own 0 0 1 b] [])):
  Lp f19 0 (H2 b a c d e f g i j k l) 0 r h:=.of A19 H
def L5(a:Rw)(b c d:Int):St:=⟨aM 24 [(0,.own 0 0 1 a),(1,vU b),(2,vN c),(7,vN d)],[some 0],[]⟩
def A37:bq:={cut:=[(2,{bl:=[0,1,2,7],dw:=[(0,1)],owns:=[0]})]}
def W37(a:Rw)(b c:Int){r h}(H:Lp f37 0 (L5 a b c 0) 0 r h):
  ak 37 [.own 0 0 1 a,vU b,vN c] [] r h:=.of func37 A37 H
def VW(b:Rw)(c d a:Int){r h}(H:ay (decide (a<d)) (bh .i64 ((8:Int)*a)/\0<=(IntKind.wrap .u64 ((8:Int)*a))/\(b++([[Y (IntKind.wrap .u8 (cF .and .u64 (Int.fdiv c (2^(min (Int.toNat (IntKind.wrap .u64 ((8:Int)*a))) (IntKind.bits .u64)))) 255))]]:Rw)).length*1<=2^47/\bh .i64 (a+1)/\Lp f37 0 (L5 (b++([[Y (IntKind.wrap .u8 (cF .and .u64 (Int.fdiv c (2^(min (Int.toNat (IntKind.wrap .u64 ((8:Int)*a))) (IntKind.bits .u64)))) 255))]]:Rw)) c d (a+1)) 0 r h)
 (Fi r h [.own 0 0 1 b] [])):
  Lp f37 0 (L5 b c d a) 0 r h:=.of A37 H
def A66:bq:={an:=[(1,3,aa),(1,4,aa),(1,7,aa),(1,8,aa),(1,9,aa),(1,10,aa),(1,11,aa),(1,12,aa),(1,15,aa),(1,16,aa)]}
def W66(a:Int){r h}(H:Fi r h [vB (bif(bif(bif(decide (a>=97))then(decide (a<=122))else false)then true else(bif(decide (a>=65))then(decide (a<=90))else false))then true else(a==95))] []):
  ak 66 [vY a] [] r h:=.of func66 A66 H
def A67:bq:={an:=[(1,3,aa),(1,4,aa)]}
def W67(a:Int){r h}(H:Fi r h [vB (bif(decide (a>=48))then(decide (a<=57))else false)] []):
  ak 67 [vY a] [] r h:=.of func67 A67 H
def A72:bq:={an:=[(3,2,ah)]}
def W72(a:Int){r h}(H:(10:Int)≠0/\(10:Int)≠0/\(0<=(Int.tmod a 10)/\(Int.tmod a 10)<=(IntKind.wrap .u64 ((Int.tmod a 10)+1))/\(IntKind.wrap .u64 ((Int.tmod a 10)+1))<=(([48,49,50,51,52,53,54,55,56,57]:By).length:Int))/\ay (decide (a>9)) ((10:Int)≠0/\∃b,ak 72 [vU (IntKind.wrap .u64 (Int.tdiv a 10))] [] [vS b] []/\b.length+(List.drop (Int.toNat (Int.tmod a 10)) (List.take (Int.toNat (IntKind.wrap .u64 ((Int.tmod a 10)+1))) ([48,49,50,51,52,53,54,55,56,57]:By))).length<=9223372036854775807/\Fi r h [vS (b++(List.drop (Int.toNat (Int.tmod a 10)) (List.take (Int.toNat (IntKind.wrap .u64 ((Int.tmod a 10)+1))) ([48,49,50,51,52,53,54,55,56,57]:By))))] [])
 (Fi r h [vS (List.drop (Int.toNat (Int.tmod a 10)) (List.take (Int.toNat (IntKind.wrap .u64 ((Int.tmod a 10)+1))) ([48,49,50,51,52,53,54,55,56,57]:By)))] [])):
  ak 72 [vU a] [] r h:=.of func72 A72 H
def C66(c:Int):ak 66 [vY c] [] [vB (cT c)] []:=by
 apply W66;refine ai ?_ rfl;unfold cT;cases(c==95)<;>cases(bif decide (c>=97)then decide (c<=122)else false)<;>cases(bif decide (c>=65)then decide (c<=90)else false)<;>rfl
def C67(c:Int):ak 67 [vY c] [] [vB (gj c)] []:=by apply W67;exact fi
def C68(l:List By)(s:By)(k:l.length<=2^40):ak 68 [vL 1 (aR l),vS s] [] [vB (ki s l)] []:=by
 have b:(aR l).length=l.length:=ao ..;have key:∀(t:List By)(i:Nat),l.drop i=t->Lp f68 0 (L4 (aR l) s i) 0 [vB (ki s t)] []:=by
  intro t;induction t with
  |nil=>intro i a;apply VT;rw[b];exact aT (l:=l) rfl a fi
  |cons x t g=>
   intro i a;obtain⟨c,d,j⟩:=drop_cons a;apply VT;rw[b];refine aO (l:=l) rfl a ⟨x,by omega,aY c,ae (fun h=>ai ?_ rfl) fun h=>⟨aB,?_⟩⟩
   .rw[ki,iP,eq_of_beq h];simp
   .have f:(s==x)=false:=by rw[k8]at h⊢; intro e;exact h (by rw[eq_of_beq e];simp)
    have:=g (i+1) d;rw[ki,iP,f,mj];exact this
 apply W68;exact key l 0 rfl
def Fo(p:Int->Bool):∀(s:By),((runN p s:Int)==(s.length:Int))=s.all fun c=>p c.toNat
 |[]=>rfl
 |c::s=>by
  have a:=Fo p s;unfold runN;rw[bE,<-a];cases hc:p (c.toNat:Int)
  .simp only[af,Bool.false_and,aC]
   rw[fo];omega
  .simp only[aj,Bool.true_and,aC]
   rw[Bool.eq_iff_iff,beq_iff_eq,beq_iff_eq];omega
def X9(s:By)(o:s.length<=2^40):ak 40 [vS s] [] [vB (bK s)] []:=by
 have key:∀(t:By)(i:Nat),s.drop i=t->Lp f40 0 (HX s i) 0 [vB (bif t.all (fun c=>bL c.toNat)then !ki s keys else false)] []:=by
  intro t;induction t with
  |nil=>
   intro i e;apply VO;exact aT (l:=s) rfl e ⟨_,C68 keys s (by decide),fi⟩
  |cons c t m=>
   intro i e;obtain⟨j,d,n⟩:=drop_cons e;have k:=byte_at j;apply VO;rw[k];have g:=m (i+1) d;refine aO (l:=s) rfl e ⟨⟨by omega,by omega⟩,_,C66 _,ae (fun h=>⟨⟨by omega,by omega⟩,_,C67 _,ae (fun f=>ai ?_ rfl) fun f=>⟨aB,?_⟩⟩) fun h=>⟨aB,?_⟩⟩
   .have a:cT (c.toNat:Int)=false:=by simpa using h
    have b:gj (c.toNat:Int)=false:=by simpa using f
    rw[bE,bL,a,b];rfl
   .have a:cT (c.toNat:Int)=false:=by simpa using h
    have b:gj (c.toNat:Int)=true:=by simpa using f
    rw[bE,bL,a,b];exact g
   .have a:cT (c.toNat:Int)=true:=by simpa using h
    rw[bE,bL,a];exact g
 apply W40;refine ae (fun h=>ai (by rw[bK,lM,h];rfl) rfl) fun h=>?_
 have p:0<s.length:=by
  cases s with
  |nil=>simp at h
  |cons c s=>simp
 refine⟨⟨by omega,by omega⟩,_,C66 _,ae (fun d=>ai ?_ rfl) fun d=>?_⟩
 .rw[bK,lM,h]
  rw[show cT (UInt8.toNat (s.getD 0 0):Int)=false from by simpa using d];rfl
 .rw[bK,lM,h]
  rw[show cT (UInt8.toNat (s.getD 0 0):Int)=true from by simpa using d,Fo]
  exact key s 0 rfl
def C43(l:List By)(j:l.length<=2^40)(e:∀s∈l,s.length<=2^40):ak 43 [vL 1 (aR l)] [] [vB (l.all bK)] []:=by
 have c:(aR l).length=l.length:=ao ..;have key:∀(t:List By)(i:Nat),l.drop i=t->Lp f43 0 (L2 (aR l) i) 0 [vB (t.all bK)] []:=by
  intro t;induction t with
  |nil=>intro i a;apply VQ;rw[c];exact aT (l:=l) rfl a fi
  |cons x t f=>
   intro i a;obtain⟨b,d,g⟩:=drop_cons a;apply VQ;rw[c];refine aO (l:=l) rfl a ⟨x,by omega,aY b,_,X9 x (e x (aK b)),ae (fun h=>ai ?_ rfl) fun h=>⟨aB,?_⟩⟩
   .rw[bE,show bK x=false by simpa using h];rfl
   .rw[bE,show bK x=true by simpa using h];exact f (i+1) d
 apply W43;exact key l 0 rfl
def eO(l:List Ex):(bw l).length=l.length:=by rw[db,ao]
def fF{l:List Ex}{i:Nat}{x:Ex}(h:l[i]?=some x):(bw l)[Int.toNat (i:Int)]?=some [N x.kind,S x.op,S x.name,U x.num,L 5 (bw x.kids)]:=by
 rw[db,<-Ex.cD];exact aY h
def C69(e:Ex)(g:tf e):ak 69 [oE e] [] [vB (eZ e)] []:=by
 have c:=((mN e).1 g).2.1;obtain⟨k,o,n,m,l⟩:=e;have c:n.length<=2^40:=c;apply W69;rw[eO];refine ae (fun h=>?_) fun h=>ae (fun a=>ae (fun b=>⟨_,X9 n c,ai ?_ rfl⟩) fun b=>ai ?_ rfl) fun a=>ai ?_ rfl
 .have h:(k==7)=true:=h
  have f:=eq_of_beq h;refine ai ?_ rfl;have d:(k==5)=false:=by rw[f];rfl
  unfold eZ eK dQ;simp only[Ex.kind,Ex.op,Ex.name,Ex.num,Ex.kids,h,d];cases o==[]<;>cases n==[]<;>cases((l.length:Int)==0)<;>rfl
 .have a:(k==5)=true:=a
  have h:(k==7)=false:=h;have b:(o==[])=true:=b;unfold eZ eK dQ;simp only[Ex.kind,Ex.op,Ex.name,Ex.num,Ex.kids,h,a,b];cases bK n<;>cases m==0<;>cases((l.length:Int)==0)<;>rfl
 .have a:(k==5)=true:=a
  have h:(k==7)=false:=h;have b:(o==[])=false:=b;unfold eZ eK dQ;simp only[Ex.kind,Ex.op,Ex.name,Ex.num,Ex.kids,h,a,b];cases bK n<;>cases m==0<;>cases((l.length:Int)==0)<;>rfl
 .have a:(k==5)=false:=a
  have h:(k==7)=false:=h;unfold eZ eK dQ;simp only[Ex.kind,Ex.op,Ex.name,Ex.num,Ex.kids,h,a];rfl
def C41:∀(d:Nat)(e:Ex),bJ e<=d->tf e->ak 41 [oE e] [] [vB (gN e)] []
 |0,e,h,_=>by rw[cW]at h;omega
 |d+1,e,h,j=>by
  have f:=((mN e).1 j).2.2.2;obtain⟨k,o,n,m,l⟩:=e;have f:S5 l:=f;have h:cp l+1<=d+1:=h;apply W41;rw[eO];refine ae (fun a=>⟨_,C69 _ j,ai ?_ rfl⟩) fun a=>?_
  .have a:(k !=8)=true:=a
   rw[xX (by simpa using a)]
  .have a:(k !=8)=false:=a
   obtain rfl:k=8:=by simpa using a
   have p:dH (.mk 8 o n m l)=(bif(bif(bif o==[]then n==[]else false)then m==0 else false)then((l.length:Int)==2)else false):=by
    unfold dH;simp only[Ex.kind,Ex.op,Ex.name,Ex.num,Ex.kids];cases o==[]<;>cases n==[]<;>cases m==0<;>cases((l.length:Int)==2)<;>rfl
   refine ae (fun c=>?_) fun c=>ai (by rw[JV (by rw[p];exact c)]) rfl
   have q:dH (.mk 8 o n m l)=true:=by rw[p];exact c
   obtain⟨x,y,rfl⟩:=MP (cd (b:=(bif(bif o==[]then n==[]else false)then m==0 else false)) c).2;have s:=ft (l:=[x,y]) f x (by simp)
   have t:=ft (l:=[x,y]) f y (by simp)
   have u:=ep (l:=[x,y]) x (by simp)
   refine⟨_,_,_,_,_,by omega,fF (i:=0) (x:=x) rfl,_,C41 d x (by omega) s,ae (fun g=>⟨_,_,_,_,_,by omega,fF (i:=1) (x:=y) rfl,_,C69 y t,ai ?_ rfl⟩) fun g=>ai ?_ rfl⟩
   .simp only[gN,q,g];cases eZ y<;>rfl
   .simp only[gN,q,g];cases eZ y<;>rfl
def S6(s:By):Int:=bif s==[61,61]then 1 else bif s==[33,61]then 2 else bif s==[60]then 3 else bif s==[60,61]then 4 else bif s==[62]then 5 else bif s==[62,61]then 6 else 0
def C73(s:By):ak 73 [vS s] [] [vN (S6 s)] []:=by
 apply W73;exact ae (fun h=>ai (by rw[S6,h];rfl) rfl) fun a=>ae (fun h=>ai (by rw[S6,a,h];rfl) rfl) fun b=>ae (fun h=>ai (by rw[S6,a,b,h];rfl) rfl) fun c=>ae (fun h=>ai (by rw[S6,a,b,c,h];rfl) rfl) fun d=>
  ae (fun h=>ai (by rw[S6,a,b,c,d,h];rfl) rfl) fun e=>ae (fun h=>ai (by rw[S6,a,b,c,d,e,h];rfl) rfl) fun h=>ai (by rw[S6,a,b,c,d,e,h];rfl) rfl
def L6(s:By):(S6 s==0)= !ki s ops:=by
 unfold S6 ki ops;simp only[iP,List.any_nil,Bool.or_false];cases s==[61,61]<;>cases s==[33,61]<;>cases s==[60]<;>cases s==[60,61]<;>cases s==[62]<;>cases s==[62,61]<;>rfl
def C71:∀(d:Nat)(e:Ex),bJ e<=d->d<=2^41->lN e->ak 71 [oE e] [] [vN (bJ e)] []
 |0,e,h,_,_=>by rw[cW]at h;omega
 |d+1,e,h,s,m=>by
  rw[cW]at h;obtain⟨u,p⟩:=(zm e).1 m;have key:∀(t:List Ex)(i:Nat)(n:Nat),e.kids.drop i=t->max n (cp t)<=2^41->Lp f71 0 (H0 (n:Int) i e.kind e.op e.name e.num (bw e.kids)) 0 [vN ((max n (cp t)+1:Nat):Int)] []:=by
   intro t;induction t with
   |nil=>
    intro i n a b;apply VU;rw[eO];exact aT (l:=e.kids) rfl a ⟨aB (by omega) (by simp[cp]at b;omega),ai (by simp[cp]) rfl⟩
   |cons x t o=>
    intro i n a b;obtain⟨g,k,q⟩:=drop_cons a;have j:=aK g;have v:=ep x j;have f:max n (cp (x::t))=max (max n (bJ x)) (cp t):=by simp only[cp];omega
    rw[f]at b;have K:=o (i+1) _ k b;apply VU;rw[eO,f];refine aO (l:=e.kids) rfl a ⟨x.kind,x.op,x.name,x.num,bw x.kids,by omega,fF g,_,C71 d x (by omega) (by omega) (sa p x j),ae (fun c=>⟨aB,?_⟩) fun c=>⟨aB,?_⟩⟩
    .have:=aN c
     rw[show max n (bJ x)=bJ x by omega]at K⊢
     exact K
    .have:=bH c
     rw[show max n (bJ x)=n by omega]at K⊢
     exact K
  have:=key e.kids 0 0 rfl (by omega)
  rw[show max 0 (cp e.kids)+1=bJ e by rw[cW];omega]at this
  apply W71;exact this
def Av{k:Int}{o n:By}{m:Int}(h:(bif !(n==[])then true else m !=0)=true)(l:List Ex):dH (.mk k o n m l)=false/\ib (.mk k o n m l)=false/\fD (.mk k o n m l)=false:=by
 unfold dH ib fD;simp only[Ex.kind,Ex.op,Ex.name,Ex.num,Ex.kids];generalize(bif(bif k==1 then true else k==2)then true else k==8)=a;cases hn:n==[]<;>cases hm:m==0
 .cases a<;>cases k==4<;>cases k==3<;>cases o==[]<;>exact⟨rfl,rfl,rfl⟩
 .cases a<;>cases k==4<;>cases k==3<;>cases o==[]<;>exact⟨rfl,rfl,rfl⟩
 .cases a<;>cases k==4<;>cases k==3<;>cases o==[]<;>exact⟨rfl,rfl,rfl⟩
 .rw[hn,bne,hm]at h;simp at h
def NI{k:Int}{o n:By}{m:Int}(h:(bif !(n==[])then true else m !=0)=true):∀(l:List Ex),cz (.mk k o n m l)=false
 |[]=>rfl
 |[x]=>by simp only[cz,(Av h [x]).2.2];cases k==3<;>rfl
 |[x,y]=>by simp only[cz,(Av h [x,y]).1,(Av h [x,y]).2.1];cases(bif k==1 then true else k==2)<;>cases k==4<;>rfl
 |_::_::_::_=>rfl
def C70:∀(d:Nat)(e:Ex),bJ e<=d->tf e->ak 70 [oE e] [] [vB (cz e)] []
 |0,e,h,_=>by rw[cW]at h;omega
 |d+1,e,h,hs=>by
  have b6:=(mN e).1 hs;obtain⟨k,o,n,m,l⟩:=e;have Z:S5 l:=b6.2.2.2;have h:cp l+1<=d+1:=h;have a1:∀x∈l,ak 70 [oE x] [] [vB (cz x)] []:=fun x u=>C70 d x (by have:=ep x u;omega) (ft Z x u)
  apply W70;rw[eO];refine ae (fun c=>ai (by rw[show cz (.mk k o n m l)=false from NI (k:=k) (o:=o) (n:=n) (m:=m) c l]) rfl) fun c=>?_
  have c:(bif !(n==[])then true else m !=0)=false:=c;have b4:n=[]/\m=0:=by
   cases hn:n==[]
   .rw[hn]at c;simp at c
   .rw[hn]at c;exact⟨by simpa using hn,by simpa using c⟩
  obtain⟨rfl,rfl⟩:=b4;have a6:∀{r:List AV}{s:List Bx},(k=1\/k=2)->([vB (cz (.mk k o [] 0 l))]=r)->([]=s)->ay (bif o==[]then((l.length:Int)==2)else false) (∃v w D E G,0<=(0:Int)/\(bw l)[Int.toNat 0]?=some [N v,S w,S D,U E,L 5 G]/\∃b,ak 70 [.agg [N v,S w,S D,U E,L 5 G]] [] [vB b] []/\
    ay b (∃v w D E G,0<=(1:Int)/\(bw l)[Int.toNat 1]?=some [N v,S w,S D,U E,L 5 G]/\∃b1,ak 70 [.agg [N v,S w,S D,U E,L 5 G]] [] [vB b1] []/\Fi r s [vB b1] []) (Fi r s [vB false] [])) (Fi r s [vB false] []):=by
   rintro r s R rfl rfl;have t:dH (.mk k o [] 0 l)=(bif o==[]then((l.length:Int)==2)else false):=by
    unfold dH;simp only[Ex.kind,Ex.op,Ex.name,Ex.num,Ex.kids];rcases R with rfl|rfl<;>cases o==[]<;>cases((l.length:Int)==2)<;>rfl
   have a2:(bif k==1 then true else k==2)=true:=by rcases R with rfl|rfl<;>rfl
   have b0:(k==3)=false:=by rcases R with rfl|rfl<;>rfl
   refine ae (fun f=>?_) fun f=>?_
   .have Q:dH (.mk k o [] 0 l)=true:=by rw[t];exact f
    obtain⟨x,y,rfl⟩:=MP (cd (b:=o==[]) f).2;refine⟨_,_,_,_,_,by omega,fF (i:=0) (x:=x) rfl,_,a1 x (by simp),ae (fun g=>⟨_,_,_,_,_,by omega,fF (i:=1) (x:=y) rfl,_,a1 y (by simp),ai ?_ rfl⟩) fun g=>ai ?_ rfl⟩
    .simp only[cz,a2,Q,g];rfl
    .simp only[cz,a2,Q,g];rfl
   .have Q:dH (.mk k o [] 0 l)=false:=by rw[t];exact f
    refine ai ?_ rfl;match l with
    |[]=>rfl
    |[x]=>simp only[cz,b0];rfl
    |[x,y]=>simp only[cz,a2,Q];rfl
    |_::_::_::_=>rfl
  refine ae (fun T=>a6 (.inl (eq_of_beq T)) rfl rfl) fun T=>ae (fun f=>a6 (.inr (eq_of_beq f)) rfl rfl) fun f=>ae (fun g=>?_) fun g=>ae (fun H=>?_) fun H=>?_
  .obtain rfl:k=3:=eq_of_beq g
   have t:fD (.mk 3 o [] 0 l)=(bif o==[]then((l.length:Int)==1)else false):=by
    unfold fD;simp only[Ex.kind,Ex.op,Ex.name,Ex.num,Ex.kids];cases o==[]<;>cases((l.length:Int)==1)<;>rfl
   refine ae (fun a=>?_) fun a=>ai ?_ rfl
   .have A:fD (.mk 3 o [] 0 l)=true:=by rw[t];exact a
    obtain⟨x,rfl⟩:=Ov (cd (b:=o==[]) a).2;refine⟨_,_,_,_,_,by omega,fF (i:=0) (x:=x) rfl,_,a1 x (by simp),ai ?_ rfl⟩
    simp only[cz,A];rfl
   .have A:fD (.mk 3 o [] 0 l)=false:=by rw[t];exact a
    match l with
    |[]=>rfl
    |[x]=>simp only[cz,A];rfl
    |[x,y]=>rfl
    |_::_::_::_=>rfl
  .obtain rfl:k=4:=eq_of_beq H
   refine ae (fun a=>ai ?_ rfl) fun a=>?_
   .match l,a with
    |[],_=>rfl
    |[x],_=>rfl
    |_::_::_::_,_=>rfl
   .obtain⟨x,y,rfl⟩:=MP (l:=l) (by have a:((l.length:Int) !=2)=false:=a;simpa using a)
    have u:=ft Z x (by simp)
    have hy:=ft Z y (by simp)
    have dy:=ep (l:=[x,y]) y (by simp)
    have Y:cz (.mk 4 o [] 0 [x,y])=bif ki o ops then(bif jF x then gN y else false)else false:=rfl;refine⟨_,C73 o,ae (fun q=>ai ?_ rfl) fun q=>⟨_,_,_,_,_,by omega,fF (i:=1) (x:=y) rfl,_,C41 d y (by omega) hy,ae (fun X=>ai ?_ rfl) fun X=>?_⟩⟩
    .rw[L6]at q
     rw[Y,show ki o ops=false by simpa using q];rfl
    .rw[Y,show gN y=false by simpa using X]
     cases ki o ops<;>cases jF x<;>rfl
    .rw[L6]at q
     have hm:ki o ops=true:=by simpa using q
     have b5:gN y=true:=by simpa using X
     have J:cz (.mk 4 o [] 0 [x,y])=jF x:=by rw[Y,hm,b5];cases jF x<;>rfl
     have a5:=(mN x).1 u;refine⟨_,_,_,_,_,by omega,fF (i:=0) (x:=x) rfl,ae (fun I=>⟨_,C69 x u,ai ?_ rfl⟩) fun I=>?_⟩
     .rw[J]
      have b3:eK x=false:=by unfold eK;rw[eq_of_beq I];rfl
      have b2:ia x=false:=by unfold ia;rw[eq_of_beq I];rfl
      unfold jF eZ;rw[b3,b2];cases dQ x<;>rfl
     .have a0:dQ x=false:=by unfold dQ;rw[I];rfl
      have a3:ia x=(bif(bif x.kind==6 then x.op==[]else false)then(bif x.num==0 then((x.kids.length:Int)==1)else false)else false):=by
       unfold ia;cases x.kind==6<;>cases x.op==[]<;>cases x.num==0<;>cases((x.kids.length:Int)==1)<;>rfl
      rw[eO];have last:∀b,(bif x.kind==6 then x.op==[]else false)=true->bK x.name=b->ay (bif(bif b then x.num==0 else false)then((x.kids.length:Int)==1)else false) (∃y0 y1 y2 y3 y4,0<=(0:Int)/\(bw x.kids)[Int.toNat 0]?=some [N y0,S y1,S y2,U y3,L 5 y4]/\∃p,ak 69 [.agg [N y0,S y1,S y2,U y3,L 5 y4]] [] [vB p] []/\Fi [vB (cz (.mk 4 o [] 0 [x,y]))] [] [vB p] [])
        (Fi [vB (cz (.mk 4 o [] 0 [x,y]))] [] [vB false] []):=by
       intro b j a4;refine ae (fun K=>?_) fun K=>ai ?_ rfl
       .obtain⟨a7,M⟩:=cd (b:=(bif b then x.num==0 else false)) K
        obtain⟨a8,a9⟩:=cd (b:=b) a7;obtain⟨z,F⟩:=Ov M;have b7:tf z:=ft a5.2.2.2 z (by rw[F];simp)
        refine⟨_,_,_,_,_,by omega,fF (i:=0) (x:=z) (by rw[F];rfl),_,C69 z b7,ai ?_ rfl⟩
        rw[J,jF,a0,a3,j,a9,M,a4,a8,lZ,F];rfl
       .rw[J,jF,a0,a3,j,a4]
        cases b<;>cases hq:x.num==0<;>cases hr:((x.kids.length:Int)==1)<;>rw[hq,hr]at K<;>first|rfl|simp at K
      refine ae (fun j=>⟨_,X9 x.name a5.2.1,?_⟩) fun j=>?_
      .exact last _ j rfl
      .refine aW ?_ (ai ?_ rfl)
       .rfl
       .rw[J,jF,a0,a3,j];rfl
  .refine ai ?_ rfl
   have M:(bif k==1 then true else k==2)=false:=by rw[show(k==1)=false from T];exact f
   have g3:(k==3)=false:=g;have g4:(k==4)=false:=H;clear g H;match l with
   |[]=>rfl
   |[x]=>simp only[cz,g3];rfl
   |[x,y]=>simp only[cz,M,g4];rfl
   |_::_::_::_=>rfl
def L7(a b:Int)(c d e:Rw)(f g:Int):St:=⟨aM 184 [(1,.aA 0 0),(3,vN a),(4,vN b)],[],[.cells [vL 6 c,vL 2 d,vL 1 e,vN f,vN g]]⟩
def L8(a b:Int)(c d e:Rw)(f g:Int):St:=⟨aM 184 [(1,.aA 0 0),(3,vN a),(5,vN b)],[],[.cells [vL 6 c,vL 2 d,vL 1 e,vN f,vN g]]⟩
def L9(a b:Int)(c d e:Rw)(f g:Int):St:=⟨aM 184 [(1,.aA 0 0),(3,vN a),(6,vN b)],[],[.cells [vL 6 c,vL 2 d,vL 1 e,vN f,vN g]]⟩
def Ma(a b:Int)(c:Rw)(d:Int)(e f g:Rw)(i j:Int):St:=⟨aM 184 [(1,.aA 0 0),(3,vN a),(6,vN b),(7,vL 4 c),(8,vN d)],[],[.cells [vL 6 e,vL 2 f,vL 1 g,vN i,vN j]]⟩
def Mb(a b:Int)(c:Rw)(d e:Int)(f g i:Rw)(j k:Int):St:=⟨aM 184 [(1,.aA 0 0),(3,vN a),(6,vN b),(7,vL 4 c),(8,vN d),(9,vN e)],[],[.cells [vL 6 f,vL 2 g,vL 1 i,vN j,vN k]]⟩
def Mc(a b:Int)(c:Rw)(d e f:Int)(g i j:Rw)(k l:Int)(m:By)(n o:Rw):St:=⟨aM 184 [(1,.aA 0 0),(3,vN a),(6,vN b),(7,vL 4 c),(8,vN d),(9,vN e),(10,.aA 1 0),(11,vN f)],[],[.cells [vL 6 g,vL 2 i,vL 1 j,vN k,vN l],.cells [vS m,vL 1 n,vL 5 o]]⟩
def Md(a b:Int)(c:Rw)(d e f:Int)(g i j:Rw)(k l:Int)(m:By)(n o:Rw):St:=⟨aM 184 [(1,.aA 0 0),(3,vN a),(6,vN b),(7,vL 4 c),(8,vN d),(9,vN e),(10,.aA 1 0),(12,vN f)],[],[.cells [vL 6 g,vL 2 i,vL 1 j,vN k,vN l],.cells [vS m,vL 1 n,vL 5 o]]⟩
def VX:bq:={an:=[(1,5,aa),(1,6,aa),(1,7,aa),(1,8,aa),(1,11,aa),(1,12,aa),(1,13,aa),(1,14,aa),(7,5,ah),(7,6,ah),(7,14,ah),(12,4,ah),(17,5,ah),(18,9,ah),(23,4,ah),(23,12,ah),(26,5,ah),(28,4,ah),(28,7,ah),(30,5,aa),(30,6,aa),(30,7,aa),(30,8,aa),(30,11,aa),(30,12,aa),(30,13,aa),(30,14,aa),(30,17,aa),(30,18,aa),(35,4,ah),(40,4,ah),(40,5,ah)],cut:=[(10,{bl:=[1,3,5]}),(15,{bl:=[1,3,6]}),(21,{bl:=[1,3,6,7,8]}),(26,{bl:=[1,3,6,7,8,9]}),(33,{bl:=[1,3,6,7,8,9,10,11]}),(38,{bl:=[1,3,6,7,8,9,10,12]}),(5,{bl:=[1,3,4]})]}
def W38(a b c:Rw)(d e:Int){r h}(H:ay (bif(bif(decide ((a.length:Int)>12))then true else(decide ((b.length:Int)>8)))then true else(decide ((c.length:Int)>8))) (Fi r h [vB false] [])
 (Lp f38 0 (L7 0 0 a b c d e) 0 r h)):
  ak 38 [.agg [L 6 a,L 2 b,L 1 c,N d,N e]] [] r h:=.of func38 VX H
def VY(c a:Int)(b d e:Rw)(f g:Int){r h}(H:ay (decide (a<(b.length:Int))) (gI b a fun p j k l m n=>∃i,ak 63 [.agg [N j,S k,S l,U m,L 5 n]] [] [vB i] []/\ay (!i) (Fi r h [vB false] []) (gI b a fun o q s t u v=>ay (decide ((o.length:Int)>60)) (Fi r h [vB false] [])
 (bh .i64 (a+1)/\Lp f38 0 (L7 c (a+1) b d e f g) 0 r h)))
 (Lp f38 1 (L8 c 0 b d e f g) 0 r h)):
  Lp f38 0 (L7 c a b d e f g) 0 r h:=.of VX H
def VZ(c a:Int)(d e b:Rw)(f g:Int){r h}(H:ay (decide (a<(b.length:Int))) (M7 b a fun i=>ay (decide ((i.length:Int)>60)) (Fi r h [vB false] [])
 (bh .i64 (a+1)/\Lp f38 1 (L8 c (a+1) d e b f g) 0 r h))
 (Lp f38 2 (L9 c 0 d e b f g) 0 r h)):
  Lp f38 1 (L8 c a d e b f g) 0 r h:=.of VX H
def V0(c a:Int)(d b e:Rw)(f g:Int){r h}(H:ay (decide (a<(b.length:Int))) (p8 b a fun k i=>ay (decide ((i.length:Int)>12)) (Fi r h [vB false] []) (p8 b a fun j l=>ay (decide ((j.length:Int)>60)) (Fi r h [vB false] [])
 (Lp f38 3 (Ma c a i 0 d b e f g) 0 r h)))
 (Fi r h [vB true] [])):
  Lp f38 2 (L9 c a d b e f g) 0 r h:=.of VX H
def V1(d c:Int)(a:Rw)(b:Int)(e f g:Rw)(i j:Int){r h}(H:ay (decide (b<(a.length:Int))) (jV a b fun k m n o=>ay (decide ((k.length:Int)>60)) (Fi r h [vB false] []) (jV a b fun p q s l=>ay (decide ((l.length:Int)>12)) (Fi r h [vB false] [])
 (Lp f38 4 (Mb d c a b 0 e f g i j) 0 r h)))
 (bh .i64 (c+1)/\Lp f38 2 (L9 d (c+1) e f g i j) 0 r h)):
  Lp f38 3 (Ma d c a b e f g i j) 0 r h:=.of VX H
def V2(b e:Int)(c:Rw)(a d:Int)(f g i:Rw)(j k:Int){r h}(H:jV c a fun q s t o=>ay (decide (d<(o.length:Int))) (jV c a fun u v w p=>rU p d fun l m n=>bh .i64 (b+1)/\ay (bif(bif(bif(decide ((l.length:Int)>60))then true else(decide ((m.length:Int)>10)))then true else(decide ((n.length:Int)>3)))then true else(decide ((b+1)>60))) (Fi r h [vB false] [])
 (Lp f38 5 (Mc (b+1) e c a d 0 f g i j k l m n) 0 r h))
 (bh .i64 (a+1)/\Lp f38 3 (Ma b e c (a+1) f g i j k) 0 r h)):
  Lp f38 4 (Mb b e c a d f g i j k) 0 r h:=.of VX H
def V3(c d:Int)(e:Rw)(f g a:Int)(i j k:Rw)(l m:Int)(n:By)(b o:Rw){r h}(H:ay (decide (a<(b.length:Int))) (M7 b a fun p=>ay (decide ((p.length:Int)>60)) (Fi r h [vB false] [])
 (bh .i64 (a+1)/\Lp f38 5 (Mc c d e f g (a+1) i j k l m n b o) 0 r h))
 (Lp f38 6 (Md c d e f g 0 i j k l m n b o) 0 r h)):
  Lp f38 5 (Mc c d e f g a i j k l m n b o) 0 r h:=.of VX H
def V4(d e:Int)(f:Rw)(g b a:Int)(i j k:Rw)(l m:Int)(n:By)(o c:Rw){r h}(H:ay (decide (a<(c.length:Int))) (bu c a fun q s t u v=>∃p,ak 63 [.agg [N q,S s,S t,U u,L 5 v]] [] [vB p] []/\ay (!p) (Fi r h [vB false] [])
 (bh .i64 (a+1)/\Lp f38 6 (Md d e f g b (a+1) i j k l m n o c) 0 r h))
 (bh .i64 (b+1)/\Lp f38 4 (Mb d e f g (b+1) i j k l m) 0 r h)):
  Lp f38 6 (Md d e f g b a i j k l m n o c) 0 r h:=.of VX H
def A63:bq:={an:=[(1,1,ah)]}
def W63(a:Int)(b c:By)(d:Int)(e:Rw){r h}(H:∃f,ak 92 [.agg [N a,S b,S c,U d,L 5 e],vN 0] [] [vN f] []/\Fi r h [vB (decide (f<=300))] []):
  ak 63 [.agg [N a,S b,S c,U d,L 5 e]] [] r h:=.of func63 A63 H
def Me(a b c d:Int)(e f:By)(g:Int)(i:Rw):St:=⟨aM 43 [(1,vN a),(2,.aA 0 0),(5,vN b),(6,vN c)],[],[.cells [vN d,vS e,vS f,vU g,vL 5 i]]⟩
def A92:bq:={an:=[(1,3,aa),(1,4,aa),(1,5,aa),(1,6,aa),(1,9,aa),(1,10,aa),(1,11,aa),(1,12,aa),(5,6,aa),(5,7,aa),(7,5,ah),(7,8,ah)],cut:=[(5,{bl:=[1,2,5,6]})]}
def W92(d:Int)(a b:By)(e:Int)(f:Rw)(c:Int){r h}(H:ay (bif(bif(decide (c>100))then true else(decide ((b.length:Int)>60)))then true else(decide ((a.length:Int)>20))) (Fi r h [vN 1000] [])
 (Lp f92 0 (Me c 1 0 d a b e f) 0 r h)):
  ak 92 [.agg [N d,S a,S b,U e,L 5 f],vN c] [] r h:=.of func92 A92 H
def Sw(c a b f:Int)(g i:By)(j:Int)(d:Rw){r h}(H:ay (bif(decide (b<(d.length:Int)))then(decide (a<1000))else false) (bu d b fun k l m n o=>bh .i64 (c+1)/\∃e,ak 92 [.agg [N k,S l,S m,U n,L 5 o],vN (c+1)] [] [vN e] []/\bh .i64 (a+e)/\bh .i64 (b+1)/\Lp f92 0 (Me c (a+e) (b+1) f g i j d) 0 r h)
 (Fi r h [vN a] [])):
  Lp f92 0 (Me c a b f g i j d) 0 r h:=.of A92 H
def Mf(a:Int)(b c d:Rw)(e f:Int):St:=⟨aM 23 [(1,.aA 0 0),(3,vN a)],[],[.cells [vL 6 b,vL 2 c,vL 1 d,vN e,vN f]]⟩
def A39:bq:={an:=[(4,5,ah),(4,6,ah),(6,2,ah)],cut:=[(2,{bl:=[1,3]})]}
def W39(a b c:Rw)(d e:Int){r h}(H:Lp f39 0 (Mf 0 a b c d e) 0 r h):
  ak 39 [.agg [L 6 a,L 2 b,L 1 c,N d,N e]] [] r h:=.of func39 A39 H
def V5(a:Int)(b c d:Rw)(e f:Int){r h}(H:ay (decide (a<(b.length:Int))) (gI b a fun o j k l m n=>∃g,ak 64 [.agg [N j,S k,S l,U m,L 5 n]] [] [vN g] []/\ay (decide (g>3)) (Fi r h [vB false] [])
 (bh .i64 (a+1)/\Lp f39 0 (Mf (a+1) b c d e f) 0 r h))
 (∃i,ak 65 [vL 2 c] [] [vN i] []/\Fi r h [vB (decide (i<=3))] [])):
  Lp f39 0 (Mf a b c d e f) 0 r h:=.of A39 H
def H3(a b c:Int)(d e:By)(f:Int)(g:Rw):St:=⟨aM 24 [(1,.aA 0 0),(3,vN a),(4,vN b)],[],[.cells [vN c,vS d,vS e,vU f,vL 5 g]]⟩
def A64:bq:={an:=[(7,5,ah),(7,6,ah)],cut:=[(5,{bl:=[1,3,4]})]}
def W64(a:Int)(b c:By)(d:Int)(e:Rw){r h}(H:ay (a==5) (Lp f64 0 (H3 1 0 a b c d e) 0 r h)
 (Lp f64 0 (H3 0 0 a b c d e) 0 r h)):
  ak 64 [.agg [N a,S b,S c,U d,L 5 e]] [] r h:=.of func64 A64 H
def V6(b a e:Int)(f g:By)(i:Int)(c:Rw){r h}(H:ay (decide (a<(c.length:Int))) (bu c a fun j k l m n=>∃d,ak 64 [.agg [N j,S k,S l,U m,L 5 n]] [] [vN d] []/\bh .i64 (b+d)/\bh .i64 (a+1)/\Lp f64 0 (H3 (b+d) (a+1) e f g i c) 0 r h)
 (Fi r h [vN b] [])):
  Lp f64 0 (H3 b a e f g i c) 0 r h:=.of A64 H
def H4(a:Rw)(b c:Int):St:=⟨aM 40 [(0,vL 2 a),(3,vN b),(4,vN c)],[],[]⟩
def H5(a:Rw)(b c d e:Int):St:=⟨aM 40 [(0,vL 2 a),(3,vN b),(4,vN c),(5,vN d),(6,vN e)],[],[]⟩
def A65:bq:={an:=[(7,5,ah),(9,4,ah),(9,8,ah)],cut:=[(3,{bl:=[0,3,4]}),(7,{bl:=[0,3,4,5,6]})]}
def W65(a:Rw){r h}(H:Lp f65 0 (H4 a 0 0) 0 r h):
  ak 65 [vL 2 a] [] r h:=.of func65 A65 H
def V7(a:Rw)(b c:Int){r h}(H:ay (decide (c<(a.length:Int))) (Lp f65 1 (H5 a b c 0 0) 0 r h)
 (Fi r h [vN b] [])):
  Lp f65 0 (H4 a b c) 0 r h:=.of A65 H
def V8(b:Rw)(e a d c:Int){r h}(H:p8 b a fun j f=>ay (decide (c<(f.length:Int))) (p8 b a fun k g=>jV g c fun i l m n=>ay (!(i==[])) (bh .i64 (d+1)/\bh .i64 (c+1)/\Lp f65 1 (H5 b e a (d+1) (c+1)) 0 r h)
 (bh .i64 (c+1)/\Lp f65 1 (H5 b e a d (c+1)) 0 r h))
 (ay (decide (d>e)) (bh .i64 (a+1)/\Lp f65 0 (H4 b d (a+1)) 0 r h)
 (bh .i64 (a+1)/\Lp f65 0 (H4 b e (a+1)) 0 r h))):
  Lp f65 1 (H5 b e a d c) 0 r h:=.of A65 H
def A21:bq:={an:=[(1,1,ah),(1,4,ah)]}
def W21(a b c:Rw)(d e:Int){r h}(H:∃f,ak 38 [.agg [L 6 a,L 2 b,L 1 c,N d,N e]] [] [vB f] []/\ay f (∃g,ak 39 [.agg [L 6 a,L 2 b,L 1 c,N d,N e]] [] [vB g] []/\Fi r h [vB g] []) (Fi r h [vB false] [])):
  ak 21 [.agg [L 6 a,L 2 b,L 1 c,N d,N e]] [] r h:=.of func21 A21 H
mutual
def lP:Ex->Int->Int
 |.mk _ o n _ l,d=>bif(bif(bif decide (d>100)then true else decide ((n.length:Int)>60))then true else decide ((o.length:Int)>20))then 1000 else m4 l d 1
def m4:List Ex->Int->Int->Int
 |[],_,n=>n
 |x::t,d,n=>bif decide (n<1000)then m4 t d (n+lP x (d+1))else n
end
mutual
def dc:Ex->Int|.mk _ _ _ _ l=>cC l+1
def cC:List Ex->Int|[]=>0|x::t=>dc x+cC t
end
mutual
theorem et:∀e,1<=dc e
 |.mk _ _ _ _ l=>by have:=kO l;simp only[dc];omega
theorem kO:∀l,0<=cC l
 |[]=>dY _
 |x::t=>by have:=et x;have:=kO t;simp only[cC];omega
end
mutual
def nZ:Ex->Prop|.mk _ o n _ l=>o.length<=20/\n.length<=60/\Aw l
def Aw:List Ex->Prop|[]=>True|x::t=>nZ x/\Aw t
end
mutual
theorem Ax:∀(e:Ex)(d:Int),1<=lP e d
 |.mk k o n m l,d=>by
  unfold lP;cases(bif(bif decide (d>100)then true else decide ((n.length:Int)>60))then true else decide ((o.length:Int)>20))
  .exact wA l d 1
  .show(1:Int)<=1000;decide
theorem wA:∀(l:List Ex)(d n:Int),n<=m4 l d n
 |[],_,n=>dY n
 |x::t,d,n=>by
  unfold m4;have a:=Ax x (d+1);have b:=wA t d (n+lP x (d+1));cases decide (n<1000)
  .exact dY n
  .simp only[aj];omega
end
mutual
theorem CD:∀(e:Ex)(d:Int),lP e d<1000->lP e d=dc e/\nZ e
 |.mk k o n m l,d,h=>by
  unfold lP at h⊢;cases hb:(bif(bif decide (d>100)then true else decide ((n.length:Int)>60))then true else decide ((o.length:Int)>20))<;>rw[hb]at h
  .obtain⟨b,j⟩:=Ay l d 1 (dY 1) h
   refine⟨by rw[af,b];simp only[dc];omega,?_⟩
   have p:decide ((o.length:Int)>20)=false:=by
    cases hq:(bif decide (d>100)then true else decide ((n.length:Int)>60))<;>rw[hq]at hb
    .exact hb
    .simp at hb
   have a:decide ((n.length:Int)>60)=false:=by
    cases hd:decide (d>100)<;>rw[hd]at hb
    .cases a:decide ((n.length:Int)>60)with
     |false=>rfl
     |true=>rw[a]at hb;simp at hb
    .simp at hb
   have:=bH p;have:=bH a;exact⟨by omega,by omega,j⟩
  .simp at h
theorem Ay:∀(l:List Ex)(d n:Int),1<=n->m4 l d n<1000->m4 l d n=n+cC l/\Aw l
 |[],_,n,_,h=>⟨by simp[m4,cC],trivial⟩
 |x::t,d,n,s,h=>by
  unfold m4 at h⊢;cases a:decide (n<1000)<;>rw[a]at h
  .have:=bH a
   have:n<1000:=h;omega
  .rw[aj]at h⊢
   have q:=wA t d (n+lP x (d+1));have b:=Ax x (d+1);obtain⟨c,f⟩:=Ay t d _ (by omega) h
   obtain⟨g,i⟩:=CD x (d+1) (by omega)
   exact⟨by rw[c,g];simp only[cC];omega,i,f⟩
end
mutual
def Fp:Ex->Prop|.mk _ _ _ _ l=>l.length<=2^47/\NJ l
def NJ:List Ex->Prop|[]=>True|e::l=>Fp e/\NJ l
end
def H6:∀{l:List Ex},NJ l->∀x∈l,Fp x
 |[],_,_,h=>by simp at h
 |e::l,a,x,h=>by
  unfold NJ at a;rcases aU.1 h with rfl|h
  .exact a.1
  .exact H6 a.2 x h
structure V9 (r:gC):Prop where
 pl:r.params.length<=2^47
 cl:r.cond.length<=2^47
 cond:∀e∈r.cond,Fp e
structure Wa (p:dr):Prop where
 rl:p.bj.length<=2^47
 bj:∀r∈p.bj,V9 r
structure Wb (p:dP):Prop where
 pl:p.aV.length<=2^47
 aV:∀x∈p.aV,Wa x
structure H7 (u:eW):Prop where
 dl:u.aG.length<=2^47
 aG:∀d∈u.aG,Fp d.ex
 pl:u.aD.length<=2^47
 aD:∀p∈u.aD,Wb p
 ml:u.main.length<=2^47
def C92:∀(m:Nat)(e:Ex)(d:Int),Fp e->0<=d->d+m=101->ak 92 [oE e,vN d] [] [vN (lP e d)] []/\lP e d<=1000*((m:Int)+1)
 |m,e,d,g,D,G=>by
  obtain⟨k,o,n,v,l⟩:=e;unfold Fp at g;obtain⟨hlen,u⟩:=g;cases hb:(bif(bif decide (d>100)then true else decide ((n.length:Int)>60))then true else decide ((o.length:Int)>20))with
  |true=>
   refine⟨?_,by unfold lP;rw[hb];simp only[aj];omega⟩
   apply W92;exact bF hb (ai (by unfold lP;rw[hb];rfl) rfl)
  |false=>
   have E:d<=100:=by
    cases hq:decide (d>100)<;>rw[hq]at hb
    .have:=bH hq;omega
    .simp at hb
   obtain⟨a,rfl⟩:∃a,m=a+1:=⟨m-1,by omega⟩
   have h:=fun(x:Ex)(w:x∈l)=>C92 a x (d+1) (H6 u x w) (by omega) (by omega)
   have key:∀(t:List Ex)(i:Nat)(q:Int),l.drop i=t->1<=q->q<=999+1000*((a:Int)+1)->Lp f92 0 (Me d q i k o n v (bw l)) 0 [vN (m4 t d q)] []/\m4 t d q<=999+1000*((a:Int)+1):=by
    intro t;induction t with
    |nil=>
     intro i q f s b;have:=drop_nil f;refine⟨?_,b⟩;apply Sw;rw[eO];exact aW (by rw[cf (by omega)];rfl) fi
    |cons x t z=>
     intro i q f s b;obtain⟨j,y,H⟩:=drop_cons f;obtain⟨c,r⟩:=h x (aK j);have lo:=Ax x (d+1);unfold m4;cases hq:decide (q<1000)with
     |false=>
      refine⟨?_,b⟩;apply Sw;rw[eO];exact aW (by rw[bI (by omega),hq];rfl) fi
     |true=>
      have I:=aN hq;obtain⟨K,p⟩:=z (i+1) (q+lP x (d+1)) y (by omega) (by omega)
      refine⟨?_,p⟩;apply Sw;rw[eO];exact bF (by rw[bI (by omega),hq];rfl) ⟨_,_,_,_,_,by omega,fF j,aB,_,c,aB,aB,K⟩
   obtain⟨K,p⟩:=key l 0 1 rfl (by omega) (by omega)
   refine⟨?_,by unfold lP;rw[hb];simp only[af];omega⟩
   apply W92;refine aW hb ?_;unfold lP;rw[hb];exact K
def qi(e:Ex):Bool:=decide (lP e 0<=300)
def C63(e:Ex)(a:Fp e):ak 63 [oE e] [] [vB (qi e)] []:=by
 apply W63;exact⟨_,(C92 101 e 0 a (by omega) (by omega)).1,fi⟩
def x7{e:Ex}(h:qi e=true):dc e<=300/\nZ e:=by
 have h:=aN h;obtain⟨b,a⟩:=CD e 0 (by omega)
 exact⟨by omega,a⟩
def ij(s:By):Bool :=!decide ((s.length:Int)>60)
def Az(d:dT):Bool:=bif qi d.ex then ij d.name else false
def nK:List gC->Int->Option Int
 |[],n=>some n
 |r::t,n=>bif(bif(bif(bif decide ((r.call.length:Int)>60)then true else decide ((r.params.length:Int)>10))then true else decide ((r.cond.length:Int)>3))then true else decide (n+1>60))then none else
  bif !r.params.all ij then none else bif !r.cond.all qi then none else nK t (n+1)
def nL:List dr->Int->Option Int
 |[],n=>some n
 |p::t,n=>bif decide ((p.use.length:Int)>60)then none else bif decide ((p.bj.length:Int)>12)then none else(nK p.bj n).bind (nL t)
def lQ:List dP->Int->Option Int
 |[],n=>some n
 |p::t,n=>bif decide ((p.aV.length:Int)>12)then none else bif decide ((p.name.length:Int)>60)then none else(nL p.aV n).bind (lQ t)
def wB(u:eW):Bool:=bif(bif(bif decide ((u.aG.length:Int)>12)then true else decide ((u.aD.length:Int)>8))then true else decide ((u.main.length:Int)>8))then false else
 bif !u.aG.all Az then false else bif !u.main.all ij then false else(lQ u.aD 0).isSome
def C38(u:eW)(h:H7 u):ak 38 [sC u] [] [vB (wB u)] []:=by
 have ld:(u.aG.map dT.row).length=u.aG.length:=ao ..;have T:(u.aD.map dP.row).length=u.aD.length:=ao ..;have Q:(aR u.main).length=u.main.length:=ao ..;have a2:=h.dl;have a4:=h.pl;have a3:=h.ml;have k2:∀(t:List dP)(i:Nat)(n:Int),u.aD.drop i=t->0<=n->n<=60->Lp f38 2 (L9 n i (u.aG.map dT.row) (u.aD.map dP.row) (aR u.main) u.bZ.kind u.bZ.data) 0 [vB (lQ t n).isSome] []:=by
  intro t;induction t with
  |nil=>
   intro i n c _ _;apply V0;rw[T];exact aT (l:=u.aD) rfl c fi
  |cons p t D=>
   intro i n c k g;obtain⟨m,y,h3⟩:=drop_cons c;have hp:=h.aD p (aK m);have a5:=hp.pl;have E:(u.aD.map dP.row)[Int.toNat (i:Int)]?=some [S p.name,L 4 (p.aV.map dr.row)]:=aY m;have Z:(p.aV.map dr.row).length=p.aV.length:=ao ..;have k3:∀(v:List dr)(j:Nat)(n:Int),p.aV.drop j=v->0<=n->n<=60->Lp f38 3 (Ma n i (p.aV.map dr.row) j (u.aG.map dT.row) (u.aD.map dP.row) (aR u.main) u.bZ.kind u.bZ.data) 0 [vB ((nL v n).bind (lQ t)).isSome] []:=by
    intro v;induction v with
    |nil=>
     intro j n H k g;apply V1;rw[Z];exact aT (l:=p.aV) rfl H ⟨aB,D (i+1) n y k g⟩
    |cons x v a0=>
     intro j n H k g;obtain⟨j1,j2,j3⟩:=drop_cons H;have hx:=hp.aV x (aK j1);have a8:=hx.rl;have R:(x.bj.map gC.row).length=x.bj.length:=ao ..;have G:(p.aV.map dr.row)[Int.toNat (j:Int)]?=some [S x.use,N x.act.kind,N x.act.data,L 3 (x.bj.map gC.row)]:=aY j1;have k4:∀(w:List gC)(q:Nat)(n:Int),x.bj.drop q=w->0<=n->n<=60->Lp f38 4 (Mb n i (p.aV.map dr.row) j q (u.aG.map dT.row) (u.aD.map dP.row) (aR u.main) u.bZ.kind u.bZ.data) 0 [vB (((nK w n).bind (nL v)).bind (lQ t)).isSome] []:=by
      intro w;induction w with
      |nil=>
       intro q n I k g;apply V2;refine⟨_,_,_,_,by omega,G,?_⟩
       simp only[R];exact aT (l:=x.bj) rfl I ⟨aB,a0 (j+1) n j2 k g⟩
      |cons r w a1=>
       intro q n I k g;obtain⟨q1,q2,q3⟩:=drop_cons I;have M:=hx.bj r (aK q1);have a7:=M.pl;have a6:=M.cl;have A:(aR r.params).length=r.params.length:=ao ..;have F:(r.cond.map Ex.row).length=r.cond.length:=ao ..;apply V2;refine⟨_,_,_,_,by omega,G,?_⟩
       simp only[R];refine aO (l:=x.bj) rfl I ⟨_,_,_,_,by omega,G,_,_,_,by omega,aY q1,aB,?_⟩
       rw[A,F];refine ae (fun a=>ai (by rw[nK,a];rfl) rfl) fun a=>?_
       have h4:n+1<=60:=by
        cases hz:(bif(bif decide ((r.call.length:Int)>60)then true else decide ((r.params.length:Int)>10))then true else decide ((r.cond.length:Int)>3))<;>rw[hz]at a
        .have:=bH a;omega
        .simp at a
       have e0:nK (r::w) n=bif !r.params.all ij then none else bif !r.cond.all qi then none else nK w (n+1):=by rw[nK,a];rfl
       have k6:∀(z:List Ex)(s:Nat),r.cond.drop s=z->Lp f38 6 (Md (n+1) i (p.aV.map dr.row) j q s (u.aG.map dT.row) (u.aD.map dP.row) (aR u.main) u.bZ.kind u.bZ.data r.call (aR r.params) (r.cond.map Ex.row)) 0 [vB (((bif !z.all qi then none else nK w (n+1)).bind (nL v)).bind (lQ t)).isSome] []:=by
        intro z;induction z with
        |nil=>
         intro s f;apply V4;rw[F];exact aT (l:=r.cond) rfl f ⟨aB,a1 (q+1) (n+1) q2 (by omega) h4⟩
        |cons e z Y=>
         intro s f;obtain⟨J,X,s3⟩:=drop_cons f;apply V4;rw[F];refine aO (l:=r.cond) rfl f ⟨_,_,_,_,_,by omega,(aY J).trans (by rw[Ex.cD]),_,C63 e (M.cond e (aK J)),ae (fun b=>ai ?_ rfl) fun b=>⟨aB,?_⟩⟩
         .rw[bE,show qi e=false by simpa using b];rfl
         .rw[bE,show qi e=true by simpa using b];exact Y (s+1) X
       have k5:∀(z:List By)(s:Nat),r.params.drop s=z->Lp f38 5 (Mc (n+1) i (p.aV.map dr.row) j q s (u.aG.map dT.row) (u.aD.map dP.row) (aR u.main) u.bZ.kind u.bZ.data r.call (aR r.params) (r.cond.map Ex.row)) 0 [vB (((bif !z.all ij then none else bif !r.cond.all qi then none else nK w (n+1)).bind (nL v)).bind (lQ t)).isSome] []:=by
        intro z;induction z with
        |nil=>
         intro s f;apply V3;rw[A];exact aT (l:=r.params) rfl f (k6 r.cond 0 rfl)
        |cons e z Y=>
         intro s f;obtain⟨J,X,s3⟩:=drop_cons f;apply V3;rw[A];refine aO (l:=r.params) rfl f ⟨_,by omega,aY J,ae (fun b=>ai ?_ rfl) fun b=>⟨aB,?_⟩⟩
         .rw[bE,ij,b];rfl
         .rw[bE,ij,b];exact Y (s+1) X
       rw[e0];exact k5 r.params 0 rfl
     apply V1;rw[Z];refine aO (l:=p.aV) rfl H ⟨_,_,_,_,by omega,G,ae (fun a=>ai (by rw[nL,a];rfl) rfl) fun a=>⟨_,_,_,_,by omega,G,?_⟩⟩
     simp only[R];refine ae (fun o=>ai (by rw[nL,a,o];rfl) rfl) fun o=>?_
     rw[nL,a,o];exact k4 x.bj 0 n rfl k g
   apply V0;rw[T];refine aO (l:=u.aD) rfl c ⟨_,_,by omega,E,?_⟩
   simp only[Z];refine ae (fun a=>ai (by rw[lQ,a];rfl) rfl) fun a=>⟨_,_,by omega,E,ae (fun o=>ai (by rw[lQ,a,o];rfl) rfl) fun o=>?_⟩
   rw[lQ,a,o];exact k3 p.aV 0 n rfl k g
 have k1:∀(t:List By)(i:Nat),u.main.drop i=t->Lp f38 1 (L8 0 i (u.aG.map dT.row) (u.aD.map dP.row) (aR u.main) u.bZ.kind u.bZ.data) 0 [vB (bif !t.all ij then false else(lQ u.aD 0).isSome)] []:=by
  intro t;induction t with
  |nil=>intro i c;apply VZ;rw[Q];exact aT (l:=u.main) rfl c (k2 u.aD 0 0 rfl (by omega) (by omega))
  |cons s t D=>
   intro i c;obtain⟨m,y,h3⟩:=drop_cons c;apply VZ;rw[Q];refine aO (l:=u.main) rfl c ⟨_,by omega,aY m,ae (fun b=>ai ?_ rfl) fun b=>⟨aB,?_⟩⟩
   .rw[bE,ij,b];rfl
   .rw[bE,ij,b];exact D (i+1) y
 have k0:∀(t:List dT)(i:Nat),u.aG.drop i=t->Lp f38 0 (L7 0 i (u.aG.map dT.row) (u.aD.map dP.row) (aR u.main) u.bZ.kind u.bZ.data) 0 [vB (bif !t.all Az then false else bif !u.main.all ij then false else(lQ u.aD 0).isSome)] []:=by
  intro t;induction t with
  |nil=>intro i c;apply VY;rw[ld];exact aT (l:=u.aG) rfl c (k1 u.main 0 rfl)
  |cons d t D=>
   intro i c;obtain⟨m,y,h3⟩:=drop_cons c;have hd:=h.aG d (aK m);have E:(u.aG.map dT.row)[Int.toNat (i:Int)]?=some [S d.name,N d.ex.kind,S d.ex.op,S d.ex.name,U d.ex.num,L 5 (bw d.ex.kids)]:=(aY m).trans (by rw[dT.row,Ex.cD])
   apply VY;rw[ld];refine aO (l:=u.aG) rfl c ⟨_,_,_,_,_,_,by omega,E,_,C63 d.ex hd,ae (fun b=>ai ?_ rfl) fun b=>⟨_,_,_,_,_,_,by omega,E,ae (fun K=>ai ?_ rfl) fun K=>⟨aB,?_⟩⟩⟩
   .rw[bE,Az,show qi d.ex=false by simpa using b];rfl
   .rw[bE,Az,show qi d.ex=true by simpa using b,ij,K];rfl
   .rw[bE,Az,show qi d.ex=true by simpa using b,ij,K];exact D (i+1) y
 apply W38;rw[ld,T,Q];refine ae (fun a=>ai (by rw[wB,a];rfl) rfl) fun a=>?_
 rw[wB,a];exact k0 u.aG 0 rfl
def vg{b c:Bool}(h:(bif b then true else c)=false):b=false/\c=false:=by cases b<;>cases c<;>simp at h⊢
def vh{b:Bool}{α:Type}{x:Option α}{y:α}(h:(bif b then none else x)=some y):b=false/\x=some y:=by cases b<;>simp_all
def oR{a b:Int}(h:decide (a>b)=false):a<=b:=by have:=bH h;omega
def sw{l:List By}(h:l.all ij=true):∀s∈l,s.length<=60:=fun s c=>by
 have:=bf.1 h s c;unfold ij at this;have:=oR (a:=(s.length:Int)) (b:=60) (by simpa using this)
 omega
def CE:∀(l:List gC)(n m:Int),nK l n=some m->∀r∈l,r.call.length<=60/\r.params.length<=10/\r.cond.length<=3/\(∀s∈r.params,s.length<=60)/\∀e∈r.cond,qi e=true
 |[],_,_,_=>by simp
 |r::t,n,m,h=>by
  unfold nK at h;obtain⟨f,h⟩:=vh h;obtain⟨g,h⟩:=vh h;obtain⟨i,h⟩:=vh h;obtain⟨j,-⟩:=vg f;obtain⟨k,d⟩:=vg j;obtain⟨b,c⟩:=vg k;have b:=oR b;have c:=oR c;have d:=oR d;intro x a;rcases aU.1 a with rfl|a
  .exact⟨by omega,by omega,by omega,sw (by simpa using g),bf.1 (by simpa using i)⟩
  .exact CE t _ m h x a
def CF:∀(l:List dr)(n m:Int),nL l n=some m->∀x∈l,x.use.length<=60/\x.bj.length<=12/\∃n m,nK x.bj n=some m
 |[],_,_,_=>by simp
 |p::t,n,m,h=>by
  unfold nL at h;obtain⟨b,h⟩:=vh h;obtain⟨c,h⟩:=vh h;have b:=oR b;have c:=oR c;obtain⟨k,d,e⟩:=cI.1 h;intro x a;rcases aU.1 a with rfl|a
  .exact⟨by omega,by omega,_,_,d⟩
  .exact CF t _ m e x a
def CG:∀(l:List dP)(n m:Int),lQ l n=some m->∀p∈l,p.name.length<=60/\p.aV.length<=12/\∃n m,nL p.aV n=some m
 |[],_,_,_=>by simp
 |p::t,n,m,h=>by
  unfold lQ at h;obtain⟨b,h⟩:=vh h;obtain⟨c,h⟩:=vh h;have b:=oR b;have c:=oR c;obtain⟨k,d,e⟩:=cI.1 h;intro x a;rcases aU.1 a with rfl|a
  .exact⟨by omega,by omega,_,_,d⟩
  .exact CG t _ m e x a
mutual
theorem Sx:∀e:Ex,nZ e->dc e<=300->tf e/\(bJ e:Int)<=dc e
 |.mk k o n v l,h,b=>by
  unfold nZ at h;unfold dc at b;obtain⟨a,d,c⟩:=Mg l h.2.2 (by omega)
  unfold tf bJ dc;exact⟨⟨by omega,by omega,by omega,a⟩,by omega⟩
theorem Mg:∀l:List Ex,Aw l->cC l<=299->S5 l/\(cp l:Int)<=cC l/\(l.length:Int)<=cC l
 |[],_,_=>⟨trivial,by simp[cp,cC],by simp[cC]⟩
 |x::t,h,b=>by
  unfold Aw at h;unfold cC at b;have i:=et x;have j:=kO t;obtain⟨a,d⟩:=Sx x h.1 (by omega)
  obtain⟨c,f,g⟩:=Mg t h.2 (by omega)
  unfold S5 cp cC;exact⟨⟨a,c⟩,by omega,by simp;omega⟩
end
def Ki{u:eW}(h:wB u=true):q8 u:=by
 unfold wB at h;cases h1:(bif(bif decide ((u.aG.length:Int)>12)then true else decide ((u.aD.length:Int)>8))then true else decide ((u.main.length:Int)>8))<;>rw[h1]at h
 .obtain⟨v,j⟩:=vg h1
  obtain⟨k,n⟩:=vg v;have j:=oR j;have k:=oR k;have n:=oR n;have o:∀e:Ex,qi e=true->tf e/\bJ e<=300:=fun e c=>by
   obtain⟨g,i⟩:=x7 c;obtain⟨a,q⟩:=Sx e i g;exact⟨a,by omega⟩
  cases h6 : !u.aG.all Az<;>rw[h6]at h
  .cases h7 : !u.main.all ij<;>rw[h7]at h
   .simp only[af]at h
    obtain⟨m,w⟩:=lT.1 h;refine⟨by omega,fun d z=>?_,by omega,fun p D=>?_,by omega,fun s f=>by have:=sw (by simpa using h7) s f;omega⟩
    .obtain⟨y,J⟩:=cd (b:=qi d.ex) (bf.1 (show u.aG.all Az=true by simpa using h6) d z)
     have X:=sw (l:=[d.name]) (by simp[J]) d.name (by simp)
     exact⟨by omega,(o _ y).1⟩
    .obtain⟨g,i,_,_,a⟩:=CG _ _ _ w p D
     refine⟨by omega,by omega,fun x G=>?_⟩
     obtain⟨q,K,_,_,t⟩:=CF _ _ _ a x G;refine⟨by omega,by omega,fun r E=>?_⟩
     obtain⟨M,Q,T,H,I⟩:=CE _ _ _ t r E;exact⟨by omega,by omega,fun s f=>by have:=H s f;omega,by omega,fun e c=>by have:=o e (I e c);exact⟨this.1,by omega⟩⟩
   .simp at h
  .simp at h
 .simp at h
mutual
def sQ:Ex->Int|.mk k _ _ _ l=>tH l (bif k==5 then 1 else 0)
def tH:List Ex->Int->Int|[],n=>n|x::t,n=>tH t (n+sQ x)
end
mutual
theorem H8:∀e,0<=sQ e/\sQ e<=dc e
 |.mk k _ _ _ l=>by
  have a:=wC l 1;have b:=wC l 0;simp only[sQ,dc];cases k==5<;>simp only[aj,af]<;>omega
theorem wC:∀l n,n<=tH l n/\tH l n<=n+cC l
 |[],n=>⟨dY n,by simp[tH,cC]⟩
 |x::t,n=>by
  have a:=H8 x;have c:=wC t (n+sQ x);simp only[tH,cC];omega
end
def AA:∀{l:List Ex}{x:Ex},x∈l->dc x<=cC l
 |y::l,x,h=>by
  have:=kO l;have:=et y;rcases aU.1 h with rfl|h
  .simp only[cC];omega
  .have:=AA h;simp only[cC];omega
def C64:∀(m:Nat)(e:Ex),bJ e<=m->dc e<=300->tf e->ak 64 [oE e] [] [vN (sQ e)] []
 |0,e,h,_,_=>by rw[cW]at h;omega
 |m+1,e,h,f,p=>by
  have w:=((mN e).1 p).2.2;obtain⟨k,o,n,v,l⟩:=e;obtain⟨hlen,c⟩:=w;have hlen:l.length<=2^40:=hlen;have c:S5 l:=c;have h:cp l+1<=m+1:=h;have f:cC l+1<=300:=f;have key:∀(t:List Ex)(i:Nat)(q:Int),l.drop i=t->0<=q->q+cC t<=300->Lp f64 0 (H3 q i k o n v (bw l)) 0 [vN (tH t q)] []:=by
   intro t;induction t with
   |nil=>intro i q a _ _;apply V6;rw[eO];exact aT (l:=l) rfl a fi
   |cons x t u=>
    intro i q a y j;obtain⟨g,s,r⟩:=drop_cons a;have d:=aK g;have D:=ep x d;have G:=AA d;have z:=H8 x;have E:=kO t;simp only[cC]at j;apply V6;rw[eO];exact aO (l:=l) rfl a ⟨_,_,_,_,_,by omega,fF g,_,C64 m x (by omega) (by omega) (ft c x d),aB,aB,u (i+1) _ s (by omega) (by omega)⟩
  apply W64;refine ae (fun b=>?_) fun b=>?_
  .have:=key l 0 1 rfl (by omega) (by omega)
   rw[sQ,show(k==5)=true from b];exact this
  .have:=key l 0 0 rfl (by omega) (by omega)
   rw[sQ,show(k==5)=false from b];exact this
def n3:List dr->Int->Int
 |[],n=>n
 |p::t,n=>bif !(p.use==[])then n3 t (n+1)else n3 t n
def rG:List dP->Int->Int
 |[],b=>b
 |p::t,b=>bif decide (n3 p.aV 0>b)then rG t (n3 p.aV 0)else rG t b
def C65(l:List dP)(z:l.length<=2^40)(w:∀p∈l,p.aV.length<=2^40):ak 65 [vL 2 (l.map dP.row)] [] [vN (rG l 0)] []:=by
 have o:(l.map dP.row).length=l.length:=ao ..;have key:∀(t:List dP)(i:Nat)(b:Int),l.drop i=t->Lp f65 0 (H4 (l.map dP.row) b i) 0 [vN (rG t b)] []:=by
  intro t;induction t with
  |nil=>intro i b a;apply V7;rw[o];exact aT (l:=l) rfl a fi
  |cons p t k=>
   intro i b a;obtain⟨f,g,r⟩:=drop_cons a;have E:=w p (aK f);have d:(l.map dP.row)[Int.toNat (i:Int)]?=some [S p.name,L 4 (p.aV.map dr.row)]:=aY f;have s:(p.aV.map dr.row).length=p.aV.length:=ao ..;have inner:∀(v:List dr)(j:Nat)(n:Int),p.aV.drop j=v->0<=n->n<=j->Lp f65 1 (H5 (l.map dP.row) b i n j) 0 [vN (bif decide (n3 v n>b)then rG t (n3 v n)else rG t b)] []:=by
    intro v;induction v with
    |nil=>
     intro j n c e u;apply V8;refine⟨_,_,by omega,d,?_⟩
     simp only[s];refine aT (l:=p.aV) rfl c (ae (fun h=>⟨aB,?_⟩) fun h=>⟨aB,?_⟩)
     .rw[n3,h];exact k (i+1) n g
     .rw[n3,h];exact k (i+1) b g
    |cons x v q=>
     intro j n c e u;obtain⟨y,m,D⟩:=drop_cons c;apply V8;refine⟨_,_,by omega,d,?_⟩
     simp only[s];refine aO (l:=p.aV) rfl c ⟨_,_,by omega,d,_,_,_,_,by omega,aY y,ae (fun h=>⟨aB,aB,?_⟩) fun h=>⟨aB,?_⟩⟩
     .rw[n3,show(!(x.use==[]))=true from h];exact q (j+1) (n+1) m (by omega) (by omega)
     .rw[n3,show(!(x.use==[]))=false from h];exact q (j+1) n m e (by omega)
   apply V7;rw[o];exact aO (l:=l) rfl a (inner p.aV 0 0 rfl (by omega) (by omega))
 apply W65;exact key l 0 0 rfl
def aaV(u:eW):Bool:=bif u.aG.all (fun d => !decide (sQ d.ex>3))then decide (rG u.aD 0<=3)else false
def C39(u:eW)(h:q8 u)(j:∀d∈u.aG,dc d.ex<=300):ak 39 [sC u] [] [vB (aaV u)] []:=by
 have ld:(u.aG.map dT.row).length=u.aG.length:=ao ..;have q:=h.dl;have key:∀(t:List dT)(i:Nat),u.aG.drop i=t->Lp f39 0 (Mf i (u.aG.map dT.row) (u.aD.map dP.row) (aR u.main) u.bZ.kind u.bZ.data) 0 [vB (bif t.all (fun d => !decide (sQ d.ex>3))then decide (rG u.aD 0<=3)else false)] []:=by
  intro t;induction t with
  |nil=>intro i a;apply V5;rw[ld];exact aT (l:=u.aG) rfl a ⟨_,C65 u.aD h.pl (fun p k=>(h.aD p k).pl),fi⟩
  |cons d t m=>
   intro i a;obtain⟨c,f,o⟩:=drop_cons a;have e:=aK c;have g:=h.aG d e;have n:(u.aG.map dT.row)[Int.toNat (i:Int)]?=some [S d.name,N d.ex.kind,S d.ex.op,S d.ex.name,U d.ex.num,L 5 (bw d.ex.kids)]:=(aY c).trans (by rw[dT.row,Ex.cD])
   apply V5;rw[ld];refine aO (l:=u.aG) rfl a ⟨_,_,_,_,_,_,by omega,n,_,C64 _ d.ex (ar _) (j d e) g.2,ae (fun b=>ai ?_ rfl) fun b=>⟨aB,?_⟩⟩
   .rw[bE,b];rfl
   .rw[bE,b];exact m (i+1) f
 apply W39;exact key u.aG 0 rfl
def Sz{u:eW}(h:wB u=true):∀d∈u.aG,dc d.ex<=300:=by
 unfold wB at h;cases h1:(bif(bif decide ((u.aG.length:Int)>12)then true else decide ((u.aD.length:Int)>8))then true else decide ((u.main.length:Int)>8))<;>rw[h1]at h
 .cases h2 : !u.aG.all Az<;>rw[h2]at h
  .intro d a
   have:=bf.1 (show u.aG.all Az=true by simpa using h2) d a
   exact(x7 (cd (b:=qi d.ex) this).1).1
  .simp at h
 .simp at h
def NK(u:eW):Bool:=bif wB u then aaV u else false
def C21(u:eW)(h:H7 u):ak 21 [sC u] [] [vB (NK u)] []:=by
 apply W21;exact⟨_,C38 u h,ae (fun a=>⟨_,C39 u (Ki a) (Sz a),ai (by rw[NK,a];rfl) rfl⟩) fun a=>ai (by rw[NK,a];rfl) rfl⟩
def C13(a:Act):ak 13 [Bc a] [] [vW (bV a).1,vB (bV a).2] []:=by
 obtain⟨k,d⟩:=a;have j:∀(n:Int)(data:Bool),fC k=(n,true)->(bif(bif(k==3)then true else(k==4))then true else(k==5))=data->Rp f13 21 (pT n data k d) 0 [vW (bV ⟨k,d⟩).1,vB (bV ⟨k,d⟩).2] []:=by
  intro n data b x;have y:bV ⟨k,d⟩=bif(bif decide (d<0)then true else decide (d>(bif data then 65535 else 0)))then(0,false)else(IntKind.wrap .u32 (n+IntKind.wrap .u32 d),true):=by
   unfold bV;rw[b,x];rfl
  have w:(bif(bif data then(bif(decide (d<0))then true else(decide (d>65535)))else false)then true else(bif(!data)then(d !=0)else false))=(bif decide (d<0)then true else decide (d>(bif data then 65535 else 0))):=by
   cases data
   .simp only[af,jM,aj]
    cases h:decide (d<0)
    .have:=bH h
     simp only[af];rw[Bool.eq_iff_iff,bne_iff_ne,decide_eq_true_iff];omega
    .have:=aN h
     simp only[aj];rw[bne_iff_ne];omega
   .simp only[aj,fh,af]
    cases(bif decide (d<0)then true else decide (d>65535))<;>rfl
  apply X7;rw[y,w];exact ae (fun h=>ai (by rw[h];rfl) rfl) fun h=>ai (by rw[h];rfl) rfl
 apply W13;refine ae (fun h=>j _ _ ?_ ?_) fun o=>ae (fun h=>j _ _ ?_ ?_) fun p=>ae (fun h=>j _ _ ?_ ?_) fun q=>ae (fun h=>j _ _ ?_ ?_) fun s=>ae (fun h=>j _ _ ?_ ?_) fun t=>ae (fun h=>j _ _ ?_ ?_) fun u=>ae (fun h=>j _ _ ?_ ?_) fun v=>ai ?_ ?_
 all_goals first
  |rfl
  |(obtain rfl:=eq_of_beq h;rfl)
  |skip
 have c:(k==1)=false:=o;have e:(k==2)=false:=p;have f:(k==3)=false:=q;have g:(k==4)=false:=s;have i:(k==5)=false:=t;have l:(k==6)=false:=u;have m:(k==7)=false:=v;have b:fC k=(0,false):=by unfold fC;rw[c,e,f,g,i,l,m];rfl
 unfold bV;rw[show fC (Act.mk k d).kind=(0,false)from b];rfl
def C42(p:dr)(h:wS p):ak 42 [Nl p] [] [vB (kq p)] []:=by
 have o:(p.bj.map gC.row).length=p.bj.length:=ao ..;have J:=h.rl;have key:∀(t:List gC)(i:Nat)(v:Bool),p.bj.drop i=t->Lp f42 0 (qe v i p.use p.act.kind p.act.data (p.bj.map gC.row)) 0 [vB (bif v then t.all ln else false)] []:=by
  intro t;induction t with
  |nil=>
   intro i v n;have:=drop_nil n;apply VP;rw[o];exact aW (by rw[cf (by omega)];rfl) (ai (by cases v<;>rfl) rfl)
  |cons r t E=>
   intro i v n;obtain⟨q,z,I⟩:=drop_cons n;have j:=h.bj r (aK q);apply VP;rw[o];refine ae (fun a=>?_) fun a=>ai ?_ rfl
   .have a:v=true:=by rw[bI (by omega)]at a;exact a
    subst a;have G:(r.cond.map Ex.row).length=r.cond.length:=ao ..;have d:∀b,ln r=b->bh .i64 ((i:Int)+1)/\Lp f42 0 (qe b ((i:Int)+1) p.use p.act.kind p.act.data (p.bj.map gC.row)) 0 [vB (bif true then(r::t).all ln else false)] []:=fun b f=>⟨aB,by
     rw[bE,f];have:=E (i+1) b z;cases b<;>exact this⟩
    refine⟨_,_,_,by omega,aY q,_,X9 r.call j.call,ae (fun c=>⟨_,C43 r.params (by have:=j.pl;omega) j.params,?_⟩) fun c=>aW rfl (d false (by rw[ln,c];rfl))⟩
    rw[G];refine ae (fun g=>?_) fun g=>d false ?_
    .obtain⟨H,x⟩:=cd (b:=r.params.all bK) g
     have x:=aN x;have y:ln r=r.cond.all wT:=by
      rw[ln,c,H,cf (by omega)];rfl
     refine ae (fun l=>d true ?_) fun l=>?_
     .have D:r.cond=[]:=gS.1 (by have:=eq_of_beq l;omega)
      rw[y,D];rfl
     .obtain⟨e,m⟩:∃e,r.cond=[e]:=List.length_eq_one_iff.1 (by have:=gr l;omega)
      have w:=j.cond e (by rw[m];simp)
      have s:(r.cond.map Ex.row)[Int.toNat 0]?=some [N e.kind,S e.op,S e.name,U e.num,L 5 (bw e.kids)]:=by rw[m,<-Ex.cD];rfl
      have u:ln r=wT e:=by rw[y,m];simp
      refine⟨_,_,_,_,_,by omega,s,_,C70 _ e (ar _) w.1,ae (fun f=>⟨_,_,_,_,_,by omega,s,_,C71 _ e (ar _) (by omega) (uS e w.1),d _ ?_⟩) fun f=>d false ?_⟩
      .rw[u,wT,f];rfl
      .rw[u,wT,f];rfl
    .rw[ln,c]
     cases hq:r.params.all bK
     .rfl
     .rw[hq]at g
      have:=bH g;rw[bI (by omega)];rfl
   .have a:v=false:=by rw[bI (by omega)]at a;exact a
    subst a;rfl
 apply W42;rw[o];refine ae (fun k=>⟨_,X9 p.use h.use,ae (fun c=>ai (by rw[kq,k,c];rfl) rfl) fun c=>ai (by rw[kq,k,c];rfl) rfl⟩) fun k=>⟨_,_,C13 p.act,?_⟩
 have:=key p.bj 0 (bV p.act).2 rfl;have e:kq p=bif(bV p.act).2 then p.bj.all ln else false:=by rw[kq,k];rfl
 rw[e];exact this
def C22(u:eW)(h:q8 u):ak 22 [sC u] [] [vB (iK u)] []:=by
 have ld:(u.aG.map dT.row).length=u.aG.length:=ao ..;have z:(u.aD.map dP.row).length=u.aD.length:=ao ..;have J:(aR u.main).length=u.main.length:=ao ..;have T:=h.dl;have X:=h.pl;have K:=h.ml;have I:∀(t:List dP)(i:Nat),u.aD.drop i=t->Lp f22 1 (LX i (u.aG.map dT.row) (u.aD.map dP.row) (aR u.main) u.bZ.kind u.bZ.data) 0 [vB (bif(bif t.all xo then decide ((u.main.length:Int)>0)else false)then(bif u.main.all bK then(bV u.bZ).2 else false)else false)] []:=by
  intro t;induction t with
  |nil=>
   intro i c;apply VJ;rw[z,J];refine aT (l:=u.aD) rfl c ⟨_,_,C13 u.bZ,ae (fun k=>?_) fun k=>ai ?_ rfl⟩
   .obtain⟨q,E⟩:=cd (b:=(bV u.bZ).2) k
    refine⟨_,C43 u.main K h.main,ai ?_ rfl⟩;rw[mi,E,q];cases u.main.all bK<;>rfl
   .rw[mi]
    cases q:(bV u.bZ).2
    .cases decide ((u.main.length:Int)>0)<;>cases u.main.all bK<;>rfl
    .rw[q]at k
     rw[show decide ((u.main.length:Int)>0)=false from k];rfl
  |cons p t s=>
   intro i c;obtain⟨g,n,D⟩:=drop_cons c;have o:=h.aD p (aK g);have Y:=o.pl;have f:(u.aD.map dP.row)[Int.toNat (i:Int)]?=some [S p.name,L 4 (p.aV.map dr.row)]:=aY g;apply VJ;rw[z];refine aO (l:=u.aD) rfl c ⟨_,_,by omega,f,_,X9 p.name o.name,ae (fun a=>ai ?_ rfl) fun a=>?_⟩
   .rw[bE,xo,show bK p.name=false by simpa using a];rfl
   .have a:bK p.name=true:=by simpa using a
    have r:(p.aV.map dr.row).length=p.aV.length:=ao ..;have inner:∀(v:List dr)(j:Nat),p.aV.drop j=v->Lp f22 2 (LY i j (u.aG.map dT.row) (u.aD.map dP.row) (aR u.main) u.bZ.kind u.bZ.data) 0 [vB (bif(bif(v.all kq&&t.all xo)then decide ((u.main.length:Int)>0)else false)then(bif u.main.all bK then(bV u.bZ).2 else false)else false)] []:=by
     intro v;induction v with
     |nil=>
      intro j m;apply VK;refine⟨_,_,by omega,f,?_⟩
      simp only[r];exact aT (l:=p.aV) rfl m ⟨aB,s (i+1) n⟩
     |cons x v M=>
      intro j m;obtain⟨y,G,Q⟩:=drop_cons m;apply VK;refine⟨_,_,by omega,f,?_⟩
      simp only[r];refine aO (l:=p.aV) rfl m ⟨_,_,by omega,f,_,_,_,_,by omega,aY y,_,C42 x (o.aV x (aK y)),ae (fun e=>ai ?_ rfl) fun e=>⟨aB,?_⟩⟩
      .rw[bE,show kq x=false by simpa using e];rfl
      .rw[bE,show kq x=true by simpa using e]
       exact M (j+1) G
    rw[bE,xo,a];exact inner p.aV 0 rfl
 have H:∀(t:List dT)(i:Nat),u.aG.drop i=t->Lp f22 0 (LW i (u.aG.map dT.row) (u.aD.map dP.row) (aR u.main) u.bZ.kind u.bZ.data) 0 [vB (bif t.all Be then(bif(bif u.aD.all xo then decide ((u.main.length:Int)>0)else false)then(bif u.main.all bK then(bV u.bZ).2 else false)else false)else false)] []:=by
  intro t;induction t with
  |nil=>
   intro i c;apply VI;rw[ld];exact aT (l:=u.aG) rfl c (I u.aD 0 rfl)
  |cons d t s=>
   intro i c;obtain⟨g,n,D⟩:=drop_cons c;have w:=h.aG d (aK g);have f:(u.aG.map dT.row)[Int.toNat (i:Int)]?=some [S d.name,N d.ex.kind,S d.ex.op,S d.ex.name,U d.ex.num,L 5 (bw d.ex.kids)]:=(aY g).trans (by rw[dT.row,Ex.cD])
   apply VI;rw[ld];refine aO (l:=u.aG) rfl c ⟨_,_,_,_,_,_,by omega,f,_,X9 d.name w.1,ae (fun a=>ai ?_ rfl) fun a=>⟨_,_,_,_,_,_,by omega,f,_,C41 _ d.ex (ar _) w.2,ae (fun e=>ai ?_ rfl) fun e=>⟨aB,?_⟩⟩⟩
   .rw[bE,Be,show bK d.name=false by simpa using a];rfl
   .rw[bE,Be,show bK d.name=true by simpa using a,show gN d.ex=false by simpa using e];rfl
   .rw[bE,Be,show bK d.name=true by simpa using a,show gN d.ex=true by simpa using e]
    exact s (i+1) n
 apply W22;exact H u.aG 0 rfl
def C15(a:By):ak 15 [vS a] [] [vW (dg a).1,vB (dg a).2] []:=by
 apply W15;exact ae (fun h=>ai (by rw[dg,h];rfl) rfl) fun b=>ae (fun h=>ai (by rw[dg,b,h];rfl) rfl) fun c=>ae (fun h=>ai (by rw[dg,b,c,h];rfl) rfl) fun h=>ai (by rw[dg,b,c,h];rfl) rfl
structure AB where
 name:By
 params:List By
 amd:Int
 x86:Int
 arm:Int
def AB.row(r:AB):List PV:=[S r.name,L 1 (aR r.params),N r.amd,N r.x86,N r.arm]
def iA:List AB:=lp.map fun r=>⟨r.name,je r.params,r.n2,r.n1,r.n0⟩
def C20:ak 20 [] [] [vL 5 (iA.map AB.row)] []:=W20 (ai rfl rfl)
def Mh(aq:By)(r:AB):Int:=bif aq==[97,97,114,99,104,54,52]then r.arm else bif aq==[105,51,56,54]then r.x86 else bif aq==[120,56,54,95,54,52]then r.amd else -1
def kX(aq:By):List AB->List Cl
 |[]=>[]
 |r::t=>bif decide (Mh aq r>=0)then⟨r.name,IntKind.wrap .u32 (Mh aq r),r.params⟩::kX aq t else kX aq t
def iM(aq:By):List Cl:=kX aq iA
def xc(aq:By):∀l,(kX aq l).length<=l.length
 |[]=>ar _
 |r::t=>by
  have:=xc aq t;unfold kX;cases decide (Mh aq r>=0)<;>simp only[aj,af,aC]<;>omega
def C7(aq:By):ak 7 [vS aq] [] [vL 3 ((iM aq).map Cl.row)] []:=by
 have g:(iA.map AB.row).length=iA.length:=ao ..;have p:iA.length=17:=by decide
 have key:∀(t:List AB)(i:Nat)(a:List Cl),iA.drop i=t->a.length<=i->Lp f7 0 (Sv aq (a.map Cl.row) (iA.map AB.row) i) 0 [.own 0 0 3 ((a++kX aq t).map Cl.row)] []:=by
  intro t;induction t with
  |nil=>intro i a c _;apply aaS;rw[g];exact aT (l:=iA) rfl c (ai (by simp[kX]) rfl)
  |cons r t f=>
   intro i a c o;obtain⟨m,e,n⟩:=drop_cons c;have b:(iA.map AB.row)[Int.toNat (i:Int)]?=some [S r.name,L 1 (aR r.params),N r.amd,N r.x86,N r.arm]:=aY m;have j:Rp f7 14 (CC aq (a.map Cl.row) (iA.map AB.row) i (Mh aq r)) 0 [.own 0 0 3 ((a++kX aq (r::t)).map Cl.row)] []:=by
    apply aaT;refine ae (fun h=>⟨_,_,_,_,_,by omega,b,_,_,_,_,_,by omega,b,by simp;omega,aB,?_⟩) fun h=>⟨aB,?_⟩
    .have:=f (i+1) (a++[⟨r.name,IntKind.wrap .u32 (Mh aq r),r.params⟩]) e (by simp;omega)
     rw[kX,h,aj];rw[bn]at this;rw[cg (l₁:=a) (l₂:=[(⟨r.name,IntKind.wrap .u32 (Mh aq r),r.params⟩:Cl)])]at this;exact this
    .rw[kX,h,af]
     exact f (i+1) a e (by omega)
   apply aaS;rw[g];refine aO (l:=iA) rfl c (ae (fun h=>⟨_,_,_,_,_,by omega,b,?_⟩) fun d=>ae (fun h=>⟨_,_,_,_,_,by omega,b,?_⟩) fun k=>ae (fun h=>⟨_,_,_,_,_,by omega,b,?_⟩) fun h=>?_)
   .rw[show Mh aq r=r.arm by rw[Mh,h];rfl]at j;exact j
   .rw[show Mh aq r=r.x86 by rw[Mh,d,h];rfl]at j;exact j
   .rw[show Mh aq r=r.amd by rw[Mh,d,k,h];rfl]at j;exact j
   .rw[show Mh aq r = -1 by rw[Mh,d,k,h];rfl]at j;exact j
 have w:ak 7 [vS aq] [] [.own 0 0 3 ((iM aq).map Cl.row)] []:=by
  apply W7;exact⟨_,C20,key iA 0 [] rfl (by simp)⟩
 exact Go.Ac.ak.soft w rfl
def Mi(aq name:By):Option Cl:=(iM aq).find? fun c=>c.name==name
def C9(aq name:By):ak 9 [vS aq,vS name] [] [Z5 ((Mi aq name).getD ⟨[],0,[]⟩),vB (Mi aq name).isSome] []:=by
 have d:((iM aq).map Cl.row).length=(iM aq).length:=ao ..;have j:(iM aq).length<=17:=dF (xc aq iA) (by decide)
 have key:∀(t:List Cl)(i:Nat),(iM aq).drop i=t->Lp f9 0 (Uy name ((iM aq).map Cl.row) i [] 0 []) 0 [Z5 ((t.find? fun c=>c.name==name).getD ⟨[],0,[]⟩),vB (t.find? fun c=>c.name==name).isSome] []:=by
  intro t;induction t with
  |nil=>intro i a;apply aaU;rw[d];exact aT (l:=iM aq) rfl a fi
  |cons c t f=>
   intro i a;obtain⟨b,e,g⟩:=drop_cons a;apply aaU;rw[d];refine aO (l:=iM aq) rfl a ⟨_,_,_,by omega,aY b,ae (fun h=>⟨_,_,_,by omega,aY b,ai (by rw[cx,show(c.name==name)=true from h];rfl) rfl⟩) fun h=>⟨aB,by rw[cx,show(c.name==name)=false from h];exact f (i+1) e⟩⟩
 apply W9;exact⟨_,C7 aq,key (iM aq) 0 rfl⟩
def ajl{y:Int}(h:0<=y)(b:y<18446744073709551616):IntKind.wrap .u8 (cF .and .u64 y 255)=IntKind.wrap .u8 y:=by
 obtain⟨Y,rfl⟩:=iq h;have a:∀n:Int,IntKind.wrap .u8 n=n%256:=fun n=>by simp[IntKind.wrap,IntKind.signed,IntKind.bits]
 have e:cF .and .u64 (Y:Int) 255=((Y%256:Nat):Int):=by
  show IntKind.wrap .u64 ((BitVec.ofInt 64 (Y:Int) &&& BitVec.ofInt 64 ((255:Nat):Int)).toNat:Int)=_
  rw[BitVec.toNat_and,xB,xB,xw,xw,mo (by omega),mo (by decide)]
  rw[show Y &&& 255=Y%2^8 from Nat.and_two_pow_sub_one_eq_mod Y 8,qd (by omega) (by omega)]
 rw[e,a,a];omega
def C37(b:List Int)(n:Int)(k:Nat)(c:0<=n/\n<18446744073709551616)(o:k<=8)(l:b.length<=2^40):ak 37 [.own 0 0 1 (gJ b),vU n,vN k] [] [.own 0 0 1 (gJ (b++ie n k 0))] []:=by
 have key:∀(m i:Nat)(a:List Int),i+m=k->a.length<=2^40+i->Lp f37 0 (L5 (gJ a) n k i) 0 [.own 0 0 1 (gJ (a++ie n m i))] []:=by
  intro m;induction m with
  |zero=>intro i a e _;apply VW;exact aW (cf (by omega)) (ai (by simp[ie]) rfl)
  |succ m j=>
   intro i a e p;have g:Int.toNat (IntKind.wrap .u64 ((8:Int)*i))=Int.toNat ((8:Int)*i):=by rw[qd (by omega) (by omega)]
   have f:0<=Int.fdiv n (2^(min (Int.toNat ((8:Int)*i)) (IntKind.bits .u64)))/\Int.fdiv n (2^(min (Int.toNat ((8:Int)*i)) (IntKind.bits .u64)))<=n:=by
    have d:(0:Int)<2^(min (Int.toNat ((8:Int)*i)) (IntKind.bits .u64)):=oa (by decide)
    rw[xM _ (iO d)];exact⟨Int.ediv_nonneg c.1 (iO d),Int.ediv_le_self _ c.1⟩
   apply VW;rw[g,ajl f.1 (by omega)]
   refine bF (bI (by omega)) ⟨aB,by rw[qd (by omega) (by omega)];omega,by simp[gJ];omega,aB,?_⟩
   have:=j (i+1) (a++[kc n i]) (by omega) (by simp;omega)
   rw[bn]at this;rw[<-va]at this;exact this
 apply W37;exact key k 0 b (by omega) (by omega)
def C19(d:Da)(h:Ck d):ak 19 [N0 d] [] [vL 1 (gJ (m1 d))] []:=by
 have w:ak 19 [N0 d] [] [.own 0 0 1 (gJ (m1 d))] []:=by
  apply W19;rw[qd h.nr.1 (by have:=h.nr.2;omega),qd h.aq.1 (by have:=h.aq.2;omega)]
  refine⟨_,C37 [] d.nr 4 ⟨h.nr.1,by have:=h.nr.2;omega⟩ (by decide) (by simp),_,C37 _ d.aq 4 ⟨h.aq.1,by have:=h.aq.2;omega⟩ (by decide) (by simp[dI]),_,C37 _ d.ip 8 h.ip (by decide) (by simp[dI]),?_⟩
  have a:∀(i:Nat)(b:List Int)(x:Int){r:List AV}{c:List Bx},i<6->b.length<=100->0<=x/\x<18446744073709551616->([vW d.nr,vW d.aq,vU d.ip,vU d.a0,vU d.a1,vU d.a2,vU d.a3,vU d.a4,vU d.a5]:List AV)[3+i*1+0]?=some (.v (U x))->Lp f19 0 (H2 (gJ (b++ie x 8 0)) ((i:Int)+1) d.nr d.aq d.ip d.a0 d.a1 d.a2 d.a3 d.a4 d.a5) 0 r c ->
    Lp f19 0 (H2 (gJ b) i d.nr d.aq d.ip d.a0 d.a1 d.a2 d.a3 d.a4 d.a5) 0 r c:=by
   intro i b x r c g j f e K;apply VV;exact bF (bI (by omega)) ⟨⟨by omega,by omega⟩,x,e,_,C37 b x 8 f (by decide) (by omega),aB,K⟩
  refine a 0 _ d.a0 (by decide) (by simp[dI]) h.a0 rfl (a 1 _ d.a1 (by decide) (by simp[dI]) h.a1 rfl (a 2 _ d.a2 (by decide) (by simp[dI]) h.a2 rfl (a 3 _ d.a3 (by decide) (by simp[dI]) h.a3 rfl (a 4 _ d.a4 (by decide) (by simp[dI]) h.a4 rfl (a 5 _ d.a5 (by decide) (by simp[dI]) h.a5 rfl ?_)))))
  apply VV;exact aW rfl fi
 exact Go.Ac.ak.soft w rfl
section
set_option maxRecDepth 10000
def Kj(n:Int):UInt8:=UInt8.ofNat (48+n.toNat)
def oS:Nat->Int->By
 |0,n=>[Kj (n%10)]
 |k+1,n=>bif decide (n>9)then oS k (n/10)++[Kj (n%10)]else[Kj (n%10)]
def oT(n:Int):By:=oS 20 n
def AD:∀k n,(oS k n).length<=k+1
 |0,n=>by simp[oS]
 |k+1,n=>by
  have:=AD k (n/10);unfold oS;cases decide (n>9)<;>simp<;>omega
def NL{d:Int}(a:0<=d)(h:d<10):List.drop (Int.toNat d) (List.take (Int.toNat (d+1)) ([48,49,50,51,52,53,54,55,56,57]:By))=[Kj d]:=by
 have:d=0\/d=1\/d=2\/d=3\/d=4\/d=5\/d=6\/d=7\/d=8\/d=9:=by omega
 rcases this with rfl|rfl|rfl|rfl|rfl|rfl|rfl|rfl|rfl|rfl<;>rfl
def aaW:∀(k:Nat)(n:Int),k<=100->0<=n->n<10^(k+1)->n<18446744073709551616->ak 72 [vU n] [] [vS (oS k n)] []
 |k,n,g,a,b,f=>by
  have d:Int.tmod n 10=n%10:=tY a;have c:Int.tdiv n 10=n/10:=xN a;apply W72;rw[d,c,qd (n:=n%10+1) (by omega) (by omega),qd (n:=n/10) (by omega) (by omega),NL (by omega) (by omega)]
  refine⟨by decide,by decide,⟨by omega,by omega,by show n%10+1<=((10:Nat):Int);omega⟩,?_⟩
  match k with
  |0=>
   have:n<10:=b;exact aW (cf (by omega)) (ai rfl rfl)
  |k+1=>
   have e:n/10<10^(k+1):=by
    rw[Int.pow_succ]at b;omega
   refine ae (fun h=>⟨by decide,_,aaW k (n/10) (by omega) (by omega) e (by omega),?_,ai (by rw[oS,h];rfl) rfl⟩) fun h=>ai (by rw[oS,h];rfl) rfl
   have:=AD k (n/10);simp;omega
def C72(n:Int)(h:0<=n/\n<18446744073709551616):ak 72 [vU n] [] [vS (oT n)] []:=aaW 20 n (by decide) h.1 (by have:(10:Int)^(20+1)=1000000000000000000000:=rfl;omega) h.2
def AE(n:Int):(oT n).length<=21:=AD 20 n
inductive G:Ex->Prop
 |num (m:Int):0<=m/\m<18446744073709551616->G (.mk 7 [] [] m [])
 |name (n:By):G (.mk 5 [] n 0 [])
 |mask (n:By) {x:Ex}:G x->G (.mk 6 [] n 0 [x])
 |bits {x y:Ex}:G x->G y->G (.mk 8 [] [] 0 [x,y])
 |or {x y:Ex}:G x->G y->G (.mk 1 [] [] 0 [x,y])
 |and {x y:Ex}:G x->G y->G (.mk 2 [] [] 0 [x,y])
 |not {x:Ex}:G x->G (.mk 3 [] [] 0 [x])
 |cmp (o:By) {x y:Ex}:G x->G y->G (.mk 4 o [] 0 [x,y])
def cH:Ex->By
 |.mk k o _ _ [x,y]=>bif k==1 then[40]++cH x++[32,124,124,32]++cH y++[41]else bif k==2 then[40]++cH x++[32,38,38,32]++cH y++[41]else
  bif k==4 then cH x++[32]++o++[32]++cH y else cH x++[32,124,32]++cH y
 |.mk k _ n _ [x]=>bif k==3 then[33]++cH x else n++[32,38,32]++cH x
 |.mk k _ n m _=>bif k==7 then oT m else n
def dz{e:Ex}(g:G e):nZ e->((cH e).length:Int)<=100*dc e:=by
 induction g with
 |num m h=>intro _;have:=AE m;show((oT m).length:Int)<=100*(cC []+1);simp only[cC];omega
 |name n=>intro h;have:n.length<=60:=h.2.1;show(n.length:Int)<=100*(cC []+1);simp only[cC];omega
 |mask n _ c=>
  intro h;have:=h.2.1;have:=c h.2.2.1;simp only[cH,dc,cC];simp;omega
 |bits _ _ a b|or _ _ a b|and _ _ a b=>
  intro h;have:=a h.2.2.1;have:=b h.2.2.2.1;simp only[cH,dc,cC];simp;omega
 |not _ c=>
  intro h;have:=c h.2.2.1;simp only[cH,dc,cC];simp;omega
 |cmp o _ _ a b=>
  intro h;have:=h.1;have:=a h.2.2.1;have:=b h.2.2.2.1;simp only[cH,dc,cC];simp;omega
def C44{e:Ex}(g:G e):nZ e->dc e<=10000->ak 44 [oE e] [] [vS (cH e)] []:=by
 induction g with
 |num m h=>
  intro _ _;apply VR;exact aW rfl (aW rfl (aW rfl (aW rfl (aW rfl (aW rfl (bF rfl ⟨_,C72 m h,ai rfl rfl⟩))))))
 |name n=>
  intro _ _;apply VR;exact aW rfl (aW rfl (aW rfl (aW rfl (aW rfl (aW rfl (aW rfl (ai rfl rfl)))))))
 |mask n g q=>
  intro h a;have v:=dz g h.2.2.1;have:=h.2.1;simp only[dc,cC]at a;have c:=q h.2.2.1 (by omega)
  apply VR;exact aW rfl (aW rfl (aW rfl (aW rfl (bF rfl ⟨by simp[Ex.name];omega,_,_,_,_,_,by omega,fF (i:=0) rfl,_,c,by simp[Ex.name];omega,ai rfl rfl⟩))))
 |@bits x y f j k l=>
  intro h a;have p:=dz f h.2.2.1;have s:=dz j h.2.2.2.1;have t:=et x;have u:=et y;simp only[dc,cC]at a;have b:=k h.2.2.1 (by omega)
  have d:=l h.2.2.2.1 (by omega)
  apply VR;exact aW rfl (aW rfl (aW rfl (aW rfl (aW rfl (bF rfl ⟨_,_,_,_,_,by omega,fF (i:=0) rfl,_,b,by simp;omega,_,_,_,_,_,by omega,fF (i:=1) rfl,_,d,by simp;omega,ai rfl rfl⟩)))))
 |@or x y f j k l=>
  intro h a;have p:=dz f h.2.2.1;have s:=dz j h.2.2.2.1;have t:=et x;have u:=et y;simp only[dc,cC]at a;have b:=k h.2.2.1 (by omega)
  have d:=l h.2.2.2.1 (by omega)
  apply VR;exact bF rfl ⟨_,_,_,_,_,by omega,fF (i:=0) rfl,_,b,by simp;omega,by simp;omega,_,_,_,_,_,by omega,fF (i:=1) rfl,_,d,by simp;omega,by simp;omega,ai rfl rfl⟩
 |@and x y f j k l=>
  intro h a;have p:=dz f h.2.2.1;have s:=dz j h.2.2.2.1;have t:=et x;have u:=et y;simp only[dc,cC]at a;have b:=k h.2.2.1 (by omega)
  have d:=l h.2.2.2.1 (by omega)
  apply VR;exact aW rfl (bF rfl ⟨_,_,_,_,_,by omega,fF (i:=0) rfl,_,b,by simp;omega,by simp;omega,_,_,_,_,_,by omega,fF (i:=1) rfl,_,d,by simp;omega,by simp;omega,ai rfl rfl⟩)
 |@not x g q=>
  intro h a;have p:=dz g h.2.2.1;simp only[dc,cC]at a;have b:=q h.2.2.1 (by omega)
  apply VR;exact aW rfl (aW rfl (bF rfl ⟨_,_,_,_,_,by omega,fF (i:=0) rfl,_,b,by simp;omega,ai rfl rfl⟩))
 |@cmp o x y f j k l=>
  intro h a;have w:=h.1;have p:=dz f h.2.2.1;have s:=dz j h.2.2.2.1;have t:=et x;have u:=et y;simp only[dc,cC]at a;have b:=k h.2.2.1 (by omega)
  have d:=l h.2.2.2.1 (by omega)
  apply VR;exact aW rfl (aW rfl (aW rfl (bF rfl ⟨_,_,_,_,_,by omega,fF (i:=0) rfl,_,b,by simp;omega,by simp[Ex.op];omega,by simp[Ex.op];omega,_,_,_,_,_,by omega,fF (i:=1) rfl,_,d,by simp[Ex.op];omega,ai rfl rfl⟩)))
def lx(b:By):List By->By
 |[]=>[]
 |x::t=>x++t.flatMap fun y=>b++y
def H9(b:By)(n:Nat):∀(l:List By),(∀s∈l,s.length<=n)->(l.flatMap fun y=>b++y).length<=l.length*(b.length+n)
 |[],_=>by simp
 |x::t,h=>by
  have:=h x aS;have c:=H9 b n t fun s a=>h s (aP _ a)
  simp only[eI,de,aC,bY,cN];omega
def mg(b:By)(n:Nat)(l:List By)(h:∀s∈l,s.length<=n):(lx b l).length<=l.length*(b.length+n):=by
 cases l with
 |nil=>simp[lx]
 |cons x t=>
  have:=h x aS;have c:=H9 b n t fun s a=>h s (aP _ a)
  simp only[lx,de,aC,bY,cN];omega
def C47(b:By)(n:Nat)(l:List By)(h:∀s∈l,s.length<=n)(f:l.length*(b.length+n)<=2^60)(q:l.length<=2^40)(p:b.length+n<=2^60):ak 47 [vL 1 (aR l),vS b] [] [vS (lx b l)] []:=by
 have c:(aR l).length=l.length:=ao ..;have key:∀(t:List By)(i:Nat)(s:By),l.drop (i+1)=t->s.length+t.length*(b.length+n)<=2^60+2^60->Lp f47 0 (HZ (aR l) b s ((i:Int)+1)) 0 [vS (s++t.flatMap fun y=>b++y)] []:=by
  intro t;induction t with
  |nil=>
   intro i s a _;have:=drop_nil a;apply L3;rw[c];exact aW (cf (by omega)) (ai (by simp) rfl)
  |cons x t k=>
   intro i s a g;obtain⟨d,e,o⟩:=drop_cons a;have j:=h x (aK d);have m:(aR l)[Int.toNat ((i:Int)+1)]?=some [S x]:=by rw[show Int.toNat ((i:Int)+1)=i+1 by omega];exact aY (i:=i+1) d
   simp only[aC,bY,cN]at g;apply L3;rw[c];refine bF (bI (by omega)) (bF (bI (by omega)) ⟨by omega,x,by omega,m,by simp;omega,aB,?_⟩)
   have:=k (i+1) (s++b++x) e (by simp;omega)
   rw[eI,show s++(b++x++t.flatMap fun y=>b++y)=s++b++x++t.flatMap fun y=>b++y by simp]
   exact this
 apply W47;cases l with
 |nil=>apply L3;exact aW rfl fi
 |cons x t=>
  have j:=h x aS;simp only[aC,bY,cN]at f;apply L3;rw[c];refine bF (bI (by simp only[aC];omega)) (aW rfl ⟨x,by omega,rfl,by simp;omega,aB,?_⟩)
  exact key t 0 x rfl (by omega)
def oU(l:List By):By:=bif(l.length:Int)==0 then[123,32,125]else[123,32]++lx [44,32] l++[32,125]
def sx(n:Nat)(l:List By)(h:∀s∈l,s.length<=n):(oU l).length<=l.length*(2+n)+4:=by
 have:=mg [44,32] n l h;unfold oU;cases(l.length:Int)==0
 .simp at this⊢; omega
 .simp
def C46(n:Nat)(l:List By)(h:∀s∈l,s.length<=n)(c:l.length<=2^20)(f:n<=2^30):ak 46 [vL 1 (aR l)] [] [vS (oU l)] []:=by
 have d:(aR l).length=l.length:=ao ..;have e:l.length*(2+n)<=2^20*(2+2^30):=hF c (by omega)
 have b:=mg [44,32] n l h;have b:(lx [44,32] l).length<=l.length*(2+n):=b;apply W46;rw[d];exact ae (fun a=>ai (by rw[oU,a];rfl) rfl) fun a=>⟨_,C47 [44,32] n l h (by show l.length*(2+n)<=_;omega) (by omega) (by simp;omega),by simp;omega,by simp;omega,ai (by rw[oU,a];rfl) rfl⟩
def eP:List By:=[[],[75,73,76,76,95,80,82,79,67,69,83,83],[75,73,76,76],[84,82,65,80],[69,82,82,78,79],[84,82,65,67,69],[76,79,71],[65,76,76,79,87]]
def m5(a:Act):By:=bif(bif decide (a.kind>=3)then decide (a.kind<=5)else false)then eP.getD a.kind.toNat []++[40]++oT a.data++[41]else eP.getD a.kind.toNat []
def Fq{a:Act}(h:(bV a).2=true):1<=a.kind/\a.kind<=7/\0<=a.data/\a.data<=65535/\((bif decide (a.kind>=3)then decide (a.kind<=5)else false)=false->a.data=0):=by
 obtain⟨k,d⟩:=a;unfold bV at h;cases hb:(bif(bif !(fC k).2 then true else decide (d<0))then true else decide (d>(bif(bif(bif(k==3)then true else(k==4))then true else(k==5))then 65535 else 0)))with
 |true=>simp only[hb]at h;simp at h
 |false=>
  have i:(fC k).2=true/\0<=d/\d<=(bif(bif(bif(k==3)then true else(k==4))then true else(k==5))then 65535 else 0):=by
   cases hp:(fC k).2<;>rw[hp]at hb
   .simp at hb
   .cases hd:decide (d<0)<;>rw[hd]at hb
    .have:=bH hd
     have:=bH hb;exact⟨rfl,by omega,by omega⟩
    .simp at hb
  obtain⟨f,j,c⟩:=i;have g:1<=k/\k<=7:=by
   unfold fC at f;cases q1:k==1<;>cases q2:k==2<;>cases q3:k==3<;>cases q4:k==4<;>cases q5:k==5<;>cases q6:k==6<;>cases q7:k==7<;>simp only[q1,q2,q3,q4,q5,q6,q7,aj,af]at f<;>simp only[beq_iff_eq,fo]at* <;> first|omega|simp at f
  refine⟨g.1,g.2,j,?_,?_⟩
  .cases e:(bif(bif(k==3)then true else(k==4))then true else(k==5))<;>rw[e]at c<;>simp only[aj,af]at c<;>show d<=65535<;>omega
  .intro e
   have:(bif(bif(k==3)then true else(k==4))then true else(k==5))=false:=by
    have l:¬(3<=k/\k<=5):=by
     rintro⟨a,b⟩;rw[show(bif decide ((Act.mk k d).kind>=3)then decide ((Act.mk k d).kind<=5)else false)=true by show(bif decide (k>=3)then decide (k<=5)else false)=true;rw[bI a,bI b];rfl]at e
     simp at e
    cases q3:k==3<;>cases q4:k==4<;>cases q5:k==5<;>simp only[beq_iff_eq,fo]at* <;> first|rfl|omega
   rw[this]at c;show d=0
   simp only[af]at c;omega
def Ia(i:Nat):(eP.getD i []).length<=12:=by
 rw[bS];match i with
 |0|1|2|3|4|5|6|7=>decide
 |n+8=>simp[eP]
def pU(a:Act):(m5 a).length<=40:=by
 have:=Ia a.kind.toNat;have:=AE a.data;unfold m5;generalize eP.getD a.kind.toNat []=z at*;cases(bif decide (a.kind>=3)then decide (a.kind<=5)else false)<;>simp<;>omega
def C48(a:Act)(h:(bV a).2=true):ak 48 [Bc a] [] [vS (m5 a)] []:=by
 obtain⟨l,m,c,i,-⟩:=Fq h;have g:(aR eP)[Int.toNat a.kind]?=some [S (eP.getD a.kind.toNat [])]:=by
  have d:a.kind.toNat<eP.length:=by show a.kind.toNat<8;omega
  rw[aR,bp,bk d,bS,bk d];rfl
 have k:=Ia a.kind.toNat;have j:=AE a.data;apply W48;have e:(bif decide (a.kind>=3)then decide (a.kind<=5)else false)=true->m5 a=eP.getD a.kind.toNat []++[40]++oT a.data++[41]:=fun b=>by rw[m5,b];rfl
 have f:(bif decide (a.kind>=3)then decide (a.kind<=5)else false)=false->m5 a=eP.getD a.kind.toNat []:=fun b=>by rw[m5,b];rfl
 generalize eP.getD a.kind.toNat []=z at*;refine⟨_,by omega,g,ae (fun b=>?_) fun b=>ai (by rw[f b]) rfl⟩
 rw[qd c (by omega)]
 exact⟨by simp;omega,_,C72 a.data ⟨c,by omega⟩,by simp;omega,by simp;omega,ai (by rw[e b]) rfl⟩
structure PrR (r:gC):Prop where
 call:r.call.length<=60
 pl:r.params.length<=10
 params:∀s∈r.params,s.length<=60
 cond:∀e∈r.cond,G e/\nZ e/\dc e<=300
def m6(r:gC):By:=bif decide ((r.params.length:Int)>0)then r.call++[40]++lx [44,32] r.params++[41]else r.call
def ik(r:gC):By:=match r.cond with
 |[]=>m6 r
 |e::_=>m6 r++[32,123,32]++cH e++[32,125]
def CH{r:gC}(h:PrR r):(m6 r).length<=1000:=by
 have c:=h.call;have b:=h.pl;have a:=mg [44,32] 60 r.params h.params;have d:r.params.length*(2+60)<=10*62:=hF b (ar _);have a:(lx [44,32] r.params).length<=r.params.length*(2+60):=a;unfold m6;cases decide ((r.params.length:Int)>0)<;>simp<;>omega
def tI{r:gC}(h:PrR r):(ik r).length<=32000:=by
 have c:=CH h;unfold ik;split
 .omega
 .rename_i e t a
  obtain⟨g,b,d⟩:=h.cond e (by rw[a];simp)
  have:=dz g b;simp;omega
structure PrP (p:dr):Prop where
 use:p.use.length<=60
 rl:p.bj.length<=12
 bj:∀r∈p.bj,PrR r
 act:p.use=[]->(bV p.act).2=true
def fR(p:dr):By:=bif !(p.use==[])then[85,83,69,32]++p.use else m5 p.act++[32]++oU (p.bj.map ik)
def rH{p:dr}(h:PrP p):(fR p).length<=400000:=by
 have e:=h.use;have a:=h.rl;have f:=pU p.act;have b:=sx 32000 (p.bj.map ik) fun s d=>by
  obtain⟨r,c,rfl⟩:=bg.1 d;exact tI (h.bj r c)
 rw[ao]at b;have g:p.bj.length*(2+32000)<=12*32002:=hF a (ar _);unfold fR;cases !(p.use==[])<;>simp<;>omega
def C45(p:dr)(h:PrP p):ak 45 [Nl p] [] [vS (fR p)] []:=by
 have v:(p.bj.map gC.row).length=p.bj.length:=ao ..;have A:=h.use;have a1:=h.rl;have n:∀(a:List By)(s:By),aR a++([[S s]]:Rw)=aR (a++[s]):=fun a s=>by simp[aR,Gq]
 have w:∀a:List By,(aR a).length=a.length:=fun a=>ao ..
 have key:∀(t:List gC)(i:Nat)(a:List By),p.use=[]->p.bj.drop i=t->a=(p.bj.take i).map ik->Lp f45 0 (HY (aR a) i p.use p.act.kind p.act.data (p.bj.map gC.row)) 0 [vS (fR p)] []:=by
  intro t;induction t with
  |nil=>
   intro i a m k c;have D:=drop_nil k;have c:a=p.bj.map ik:=by rw[c,eU D]
   have X:=pU p.act;have Y:=sx 32000 a fun s d=>by
    rw[c]at d;obtain⟨r,b,rfl⟩:=bg.1 d;exact tI (h.bj r b)
   have G:a.length=p.bj.length:=by rw[c,ao]
   have T:a.length*(2+32000)<=12*32002:=hF (by omega) (ar _)
   apply VS;rw[v];refine aT (l:=p.bj) rfl k ⟨_,C48 p.act (h.act m),by simp;omega,_,C46 32000 a (fun s d=>?_) (by omega) (by decide),by simp;omega,ai ?_ rfl⟩
   .rw[c]at d
    obtain⟨r,b,rfl⟩:=bg.1 d;exact tI (h.bj r b)
   .rw[fR,m,<-c];rfl
  |cons r t E=>
   intro i a m k c;obtain⟨o,y,M⟩:=drop_cons k;have b:=h.bj r (aK o);have Z:=CH b;have H:=b.pl;have G:a.length<=12:=by rw[c,ao,oe];omega
   have J:(aR r.params).length=r.params.length:=ao ..;have I:(r.cond.map Ex.row).length=r.cond.length:=ao ..;have K:=E (i+1) (a++[ik r]) m y (by rw[c,hL,o];simp)
   have j:Rp f45 11 (Fm (aR a) i (m6 r) p.use p.act.kind p.act.data (p.bj.map gC.row) r.call (aR r.params) (r.cond.map Ex.row)) 0 [vS (fR p)] []:=by
    apply X8;rw[I];cases f:r.cond with
    |nil=>
     have e:ik r=m6 r:=by rw[ik,f]
     rw[e]at K;refine aW rfl ⟨?_,aB,?_⟩
     .rw[n,w];simp;omega
     .rw[n];exact K
    |cons e z=>
     obtain⟨g,d,F⟩:=b.cond e (by rw[f];simp)
     have a0:=dz g d;have x:ik r=m6 r++[32,123,32]++cH e++[32,125]:=by rw[ik,f]
     rw[x]at K;refine bF (bI (by simp)) ⟨by simp;omega,_,_,_,_,_,by omega,by rw[bB,Ex.cD];rfl,_,C44 g d (by omega),by simp;omega,by simp;omega,?_,aB,?_⟩
     .rw[n,w];simp;omega
     .rw[n];exact K
   have u:=mg [44,32] 60 r.params b.params;have u:(lx [44,32] r.params).length<=r.params.length*(2+60):=u;have Q:r.params.length*(2+60)<=10*62:=hF H (ar _);have R:=b.call;apply VS;rw[v];refine aO (l:=p.bj) rfl k ⟨_,_,_,by omega,aY o,?_⟩
   simp only[J];refine ae (fun q=>⟨by simp;omega,_,C47 [44,32] 60 r.params b.params (by show r.params.length*(2+60)<=_;omega) (by omega) (by decide),by simp;omega,by simp;omega,?_⟩) fun q=>?_
   .rw[show m6 r=r.call++[40]++lx [44,32] r.params++[41] by rw[m6,q];rfl]at j
    exact j
   .rw[show m6 r=r.call by rw[m6,q];rfl]at j
    exact j
 apply W45;refine ae (fun f=>⟨by simp;omega,ai (by rw[fR,f];rfl) rfl⟩) fun f=>?_
 exact key p.bj 0 [] (by simpa using f) rfl rfl
structure YB (u:eW):Prop where
 dl:u.aG.length<=12
 aG:∀d∈u.aG,d.name.length<=60/\G d.ex/\nZ d.ex/\dc d.ex<=300
 pl:u.aD.length<=8
 aD:∀p∈u.aD,p.name.length<=60/\p.aV.length<=12/\∀x∈p.aV,PrP x
 ml:u.main.length<=8
 main:∀s∈u.main,s.length<=60
 act:(bV u.bZ).2=true
def lL(d:dT):By:=[35,100,101,102,105,110,101,32]++d.name++[32]++cH d.ex++[10]
def kf(p:dP):By:=[80,79,76,73,67,89,32]++p.name++[32]++oU (p.aV.map fR)++[10]
def kP(u:eW):By:=[85,83,69,32]++lx [44,32] u.main++[32,68,69,70,65,85,76,84,32]++m5 u.bZ++[10]
def eQ(u:eW):By:=u.aG.flatMap lL++u.aD.flatMap kf++kP u
def C23(u:eW)(h:YB u)(q:q8 u)(X:iK u=true):ak 23 [sC u] [] [vS (eQ u)] []:=by
 have ld:(u.aG.map dT.row).length=u.aG.length:=ao ..;have I:(u.aD.map dP.row).length=u.aD.length:=ao ..;have a4:=h.dl;have a7:=h.pl;have A:=h.ml;have a8:∀d∈u.aG,(lL d).length<=40000:=fun d z=>by
  obtain⟨m,g,n,w⟩:=h.aG d z;have:=dz g n;simp[lL];omega
 have a3:∀p∈u.aD,(oU (p.aV.map fR)).length<=5000000:=fun p T=>by
  obtain⟨m,n,w⟩:=h.aD p T;have H:=sx 400000 (p.aV.map fR) fun s q=>by
   obtain⟨x,r,rfl⟩:=bg.1 q;exact rH (w x r)
  rw[ao]at H;have h5:p.aV.length*(2+400000)<=12*400002:=hF n (ar _);omega
 have a2:∀a:List By,(aR a).length=a.length:=fun a=>ao ..
 have Q:∀(a:List By)(s:By),aR a++([[S s]]:Rw)=aR (a++[s]):=fun a s=>by simp[aR,Gq]
 have F:∀(t:List dP)(i:Nat)(s:By),u.aD.drop i=t->s.length+10000000*t.length<=2^41->Lp f23 1 (L0 s i (u.aG.map dT.row) (u.aD.map dP.row) (aR u.main) u.bZ.kind u.bZ.data) 0 [vS (s++(t.flatMap kf++kP u))] []:=by
  intro t;induction t with
  |nil=>
   intro i s b k;have:=drop_nil b;have a6:s.length<=2^41:=k;have f:=mg [44,32] 60 u.main h.main;have f:(lx [44,32] u.main).length<=u.main.length*(2+60):=f;have H:u.main.length*(2+60)<=8*62:=hF A (ar _);have ha:=pU u.bZ;apply VM;rw[I];exact aT (l:=u.aD) rfl b ⟨by simp;omega,_,C47 [44,32] 60 u.main h.main (by show u.main.length*(2+60)<=_;omega) (by omega) (by decide),by simp;omega,by simp;omega,_,C48 u.bZ h.act,by simp;omega,by simp;omega,ai (by simp[kP]) rfl⟩
  |cons p t D=>
   intro i s b k;obtain⟨m,n,w⟩:=drop_cons b;have y:=aK m;obtain⟨p1,p2,J⟩:=h.aD p y;simp only[aC]at k;have a1:=a3 p y;have o:(u.aD.map dP.row)[Int.toNat (i:Int)]?=some [S p.name,L 4 (p.aV.map dr.row)]:=aY m;have M:(p.aV.map dr.row).length=p.aV.length:=ao ..;have inner:∀(v:List dr)(j:Nat)(a:List By),p.aV.drop j=v->a=(p.aV.take j).map fR->Lp f23 2 (L1 s i (aR a) j (u.aG.map dT.row) (u.aD.map dP.row) (aR u.main) u.bZ.kind u.bZ.data) 0 [vS (s++((p::t).flatMap kf++kP u))] []:=by
    intro v;induction v with
    |nil=>
     intro j a f c;have z:=drop_nil f;have c:a=p.aV.map fR:=by rw[c,eU z]
     have R:a.length=p.aV.length:=by rw[c,ao]
     apply VN;refine⟨_,_,by omega,o,?_⟩
     simp only[M];rw[<-c]at a1;refine aT (l:=p.aV) rfl f ⟨by simp;omega,_,_,by omega,o,by simp;omega,by simp;omega,_,C46 400000 a (fun s q=>?_) (by omega) (by decide),by simp;omega,by simp;omega,aB,?_⟩
     .rw[c]at q
      obtain⟨x,r,rfl⟩:=bg.1 q;exact rH (J x r)
     .have K:=D (i+1) (s++[80,79,76,73,67,89,32]++p.name++[32]++oU a++[10]) n (by simp;omega)
      have e:s++[80,79,76,73,67,89,32]++p.name++[32]++oU a++[10]++(t.flatMap kf++kP u)=s++((p::t).flatMap kf++kP u):=by simp[kf,c]
      rw[e]at K;exact K
    |cons x v a0=>
     intro j a f c;obtain⟨E,Y,j3⟩:=drop_cons f;have R:a.length<=12:=by rw[c,ao,oe];omega
     apply VN;refine⟨_,_,by omega,o,?_⟩
     simp only[M];refine aO (l:=p.aV) rfl f ⟨_,_,by omega,o,_,_,_,_,by omega,aY E,_,C45 x (J x (aK E)),?_,aB,?_⟩
     .rw[Q,a2];simp;omega
     .rw[Q]
      exact a0 (j+1) _ Y (by rw[c,hL,E];simp)
   apply VM;rw[I];exact aO (l:=u.aD) rfl b (inner p.aV 0 [] rfl rfl)
 have Z:∀(t:List dT)(i:Nat)(s:By),u.aG.drop i=t->s.length+40000*t.length<=2^40->Lp f23 0 (LZ s i (u.aG.map dT.row) (u.aD.map dP.row) (aR u.main) u.bZ.kind u.bZ.data) 0 [vS (s++(t.flatMap lL++(u.aD.flatMap kf++kP u)))] []:=by
  intro t;induction t with
  |nil=>
   intro i s b k;have k:s.length<=2^40:=k;apply VL;rw[ld];exact aT (l:=u.aG) rfl b (F u.aD 0 s rfl (by omega))
  |cons d t D=>
   intro i s b k;obtain⟨m,n,w⟩:=drop_cons b;have y:=aK m;obtain⟨d1,g,G,d3⟩:=h.aG d y;simp only[aC]at k;have a5:=dz g G;have o:(u.aG.map dT.row)[Int.toNat (i:Int)]?=some [S d.name,N d.ex.kind,S d.ex.op,S d.ex.name,U d.ex.num,L 5 (bw d.ex.kids)]:=(aY m).trans (by rw[dT.row,Ex.cD])
   have K:=D (i+1) (s++[35,100,101,102,105,110,101,32]++d.name++[32]++cH d.ex++[10]) n (by simp;omega)
   have e:s++[35,100,101,102,105,110,101,32]++d.name++[32]++cH d.ex++[10]++(t.flatMap lL++(u.aD.flatMap kf++kP u))=s++((d::t).flatMap lL++(u.aD.flatMap kf++kP u)):=by simp[lL]
   rw[e]at K;apply VL;rw[ld];exact aO (l:=u.aG) rfl b ⟨by simp;omega,_,_,_,_,_,_,by omega,o,by simp;omega,by simp;omega,_,_,_,_,_,_,by omega,o,_,C44 g G (by omega),by simp;omega,by simp;omega,aB,K⟩
 apply W23;refine⟨_,C22 u q,aW (by rw[X];rfl) ?_⟩
 have:=Z u.aG 0 [] rfl (by simp;omega)
 rw[show eQ u=[]++(u.aG.flatMap lL++(u.aD.flatMap kf++kP u)) by simp[eQ]]
 exact this
end
section
set_option maxRecDepth 10000
inductive Prim:Ex->Prop
 |num (m:Int):0<=m/\m<18446744073709551616->Prim (.mk 7 [] [] m [])
 |name (n:By):bK n=true->Prim (.mk 5 [] n 0 [])
inductive Ib:Ex->Prop
 |Uz {e:Ex}:Prim e->Ib e
 |bits {x y:Ex}:Ib x->Prim y->Ib (.mk 8 [] [] 0 [x,y])
inductive Fu:Ex->Prop
 |name (n:By):bK n=true->Fu (.mk 5 [] n 0 [])
 |mask (n:By) {x:Ex}:bK n=true->Prim x->Fu (.mk 6 [] n 0 [x])
inductive Bj:Ex->Prop
 |or {x y:Ex}:Bj x->Bj y->Bj (.mk 1 [] [] 0 [x,y])
 |and {x y:Ex}:Bj x->Bj y->Bj (.mk 2 [] [] 0 [x,y])
 |not {x:Ex}:Bj x->Bj (.mk 3 [] [] 0 [x])
 |cmp (o:By) {x y:Ex}:o∈ops->Fu x->Ib y->Bj (.mk 4 o [] 0 [x,y])
def Prim.g{e:Ex}(h:Prim e):G e:=by cases h with|num m h=>exact .num m h|name n h=>exact .name n
def Ib.g{e:Ex}(h:Ib e):G e:=by induction h with|Uz h=>exact h.g|bits _ h2 ih=>exact .bits ih h2.g
def Fu.g{e:Ex}(h:Fu e):G e:=by cases h with|name n h=>exact .name n|mask n _ h=>exact .mask n h.g
def Bj.g{e:Ex}(h:Bj e):G e:=by
 induction h with
 |or _ _ a b=>exact .or a b
 |and _ _ a b=>exact .and a b
 |not _ h=>exact .not h
 |cmp o _ a b=>exact .cmp o a.g b.g
abbrev KT:=Int×By
abbrev sg(x:By):KT:=(3,x)
abbrev wd(x:By):KT:=(1,x)
abbrev nu(m:Int):KT:=(2,oT m)
def m7:Cx->List KT->List Tok
 |_,[]=>[]
 |c,(k,x)::t=>⟨k,x,0,c⟩::m7 none t
def kg:∀(c:Cx)(T:List KT),(m7 c T).length=T.length
 |_,[]=>rfl
 |c,(k,x)::t=>by rw[m7,aC,kg none t,aC]
def cw:Ex->List KT
 |.mk k o _ _ [x,y]=>bif k==1 then sg [40]::(cw x++sg [124,124]::(cw y++[sg [41]]))else bif k==2 then sg [40]::(cw x++sg [38,38]::(cw y++[sg [41]]))else
  bif k==4 then cw x++sg o::cw y else cw x++sg [124]::cw y
 |.mk k _ n _ [x]=>bif k==3 then sg [33]::cw x else wd n::sg [38]::cw x
 |.mk k _ n m _=>bif k==7 then[nu m]else[wd n]
section
variable {A:Pa} {f:Int} {c:Cx}
def Q(f:Int)(c:Cx)(sp:Cx)(T:List KT):Ps:=⟨m7 sp T,0,f,c⟩
def iX(T:List KT)(k:Int)(t:By):Bool:=match T with|[]=>false|(k',x)::_=>bif k'==k then x==t else false
def dC(sp:Cx)(T:List KT)(k:Int)(t:By):iD (Q f c sp T) k t=iX T k t:=by
 cases T with
 |nil=>rfl
 |cons x T=>rfl
def eh{sp:Cx}{T:List KT}{k:Int}{t:By}(h:iX T k t=false):aH (Q f c sp T) k t=Q f c sp T:=by
 unfold aH;rw[dC,h];rfl
def ed{sp:Cx}{T:List KT}{k:Int}{t:By}:aH (Q f c sp ((k,t)::T)) k t=Q f c none T:=by
 unfold aH;rw[dC,show iX ((k,t)::T) k t=true by simp[iX]];rfl
def iY{sp:Cx}{T:List KT}{k:Int}{t:By}:ef A (Q f c sp ((k,t)::T)) k t=Q f c none T:=by
 unfold ef;rw[dC,show iX ((k,t)::T) k t=true by simp[iX],ed];rfl
def CI{sp:Cx}{T:List KT}{n:By}(h:bK n=true):fA (Q f c sp (wd n::T))=true:=h
def kh{sp:Cx}{T:List KT}{n:By}(h:bK n=true):bt A (Q f c sp (wd n::T))=(n,Q f c none T):=by
 unfold bt;rw[CI h];rfl
def CJ{sp:Cx}{T:List KT}{m a:Int}(b:oB (oT m)=(m,true))(h:m<=a):fB A (Q f c sp (nu m::T)) a=(m,Q f c none T):=by
 show(bif(2:Int)==2 then(bif(bif(oB (oT m)).2 then decide ((oB (oT m)).1<=a)else false)then((oB (oT m)).1,{Q f c sp (nu m::T)with l:=(Q f c sp (nu m::T)).l.tail})else(0,fV A (Q f c sp (nu m::T)) 3))else(0,fV A (Q f c sp (nu m::T)) 3))=_
 rw[b];simp only[bI h];rfl
def UA{d:Int}(a:0<=d)(h:d<10):eo (Kj d).toNat=d:=by
 have:d=0\/d=1\/d=2\/d=3\/d=4\/d=5\/d=6\/d=7\/d=8\/d=9:=by omega
 rcases this with rfl|rfl|rfl|rfl|rfl|rfl|rfl|rfl|rfl|rfl<;>rfl
def Mj{d:Int}(a:0<=d)(h:d<10):gj (Kj d).toNat=true:=by
 have:d=0\/d=1\/d=2\/d=3\/d=4\/d=5\/d=6\/d=7\/d=8\/d=9:=by omega
 rcases this with rfl|rfl|rfl|rfl|rfl|rfl|rfl|rfl|rfl|rfl<;>rfl
def CK(b:Int):∀(s t:By)(n m:Int),oA b s n=some m->oA b (s++t) n=oA b t m
 |[],t,n,m,h=>by simp[oA]at h;subst h;rfl
 |x::s,t,n,m,h=>by
  unfold oA at h;rw[di,oA];cases hb:(bif decide (eo x.toNat>=b)then true else decide (n*b+eo x.toNat>=18446744073709551616))<;>rw[hb]at h
  .exact CK b s t _ m h
  .simp at h
def wD{d n:Int}(a:0<=d)(h:d<10)(b:0<=n)(e:n*10+d<18446744073709551616):oA 10 [Kj d] n=some (n*10+d):=by
 unfold oA;rw[UA a h,cf (by omega),af,cf (by omega)]
 rfl
def CM:∀(k:Nat)(n:Int),0<=n->n<10^(k+1)->n<18446744073709551616->oA 10 (oS k n) 0=some n
 |0,n,b,a,e=>by
  have a:n<10:=a;have:=wD (d:=n%10) (n:=0) (by omega) (by omega) (by omega) (by omega)
  rw[oS,this];congr 1;omega
 |k+1,n,b,a,e=>by
  have g:n/10<10^(k+1):=by
   rw[Int.pow_succ]at a;omega
  unfold oS;cases hd:decide (n>9)
  .have:=bH hd
   have:=wD (d:=n%10) (n:=0) (by omega) (by omega) (by omega) (by omega)
   rw[af,this];congr 1;omega
  .rw[aj,CK 10 _ _ 0 (n/10) (CM k (n/10) (by omega) g (by omega)),wD (by omega) (by omega) (by omega) (by omega)]
   congr 1;omega
def wE:∀(k:Nat)(n:Int),(oS k n).all fun x=>gj x.toNat
 |0,n=>by
  have:=Mj (d:=n%10) (by omega) (by omega)
  simp[oS,this]
 |k+1,n=>by
  have a:=Mj (d:=n%10) (by omega) (by omega)
  have b:=wE k (n/10);unfold oS;cases decide (n>9)
  .simp[a]
  .simp only[aj,List.all_append,b,bE,mi,a];rfl
def Ml(k:Nat)(n:Int):oS k n≠[]:=by
 cases k with
 |zero=>simp[oS]
 |succ k=>unfold oS;cases decide (n>9)<;>simp
def Fv{m:Int}(h:0<=m/\m<18446744073709551616):oB (oT m)=(m,true):=by
 have g:=CM 20 m h.1 (by have:(10:Int)^(20+1)=1000000000000000000000:=rfl;omega) h.2
 have i:List.isPrefixOf [48,120] (oT m)=false:=by
  have d:=wE 20 m;unfold oT;match hq:oS 20 m with
  |[]=>rfl
  |[a]=>simp[List.isPrefixOf]
  |a::b::t=>
   rw[hq]at d;simp only[bE,bU]at d;have e:=d.2.1;cases hab:List.isPrefixOf [48,120] (a::b::t)with
   |false=>rfl
   |true=>
    simp[List.isPrefixOf]at hab;rw[<-hab.2]at e;exact absurd e (by decide)
 have j:(oT m==[])=false:=by
  have:=Ml 20 m;unfold oT;cases hq:oS 20 m with
  |nil=>exact(this hq).elim
  |cons=>rfl
 unfold oB;simp only[i,af];unfold oT at*;rw[g];simp only[j];rfl
def Kk{e:Ex}(h:Prim e){sp:Cx}(R:List KT):gE A (Q f c sp (cw e++R))=(e,Q f c none R):=by
 cases h with
 |name n a=>
  show gE A (Q f c sp (wd n::R))=_
  unfold gE;rw[CI a,kh a];rfl
 |num m b=>
  show gE A (Q f c sp (nu m::R))=_
  unfold gE;rw[show fA (Q f c sp (nu m::R))=false from rfl,CJ (Fv b) (by omega)];rfl
def NM{e:Ex}(h:Ib e):∃(p:Ex)(ps:List Ex),Prim p/\(∀x∈ps,Prim x)/\e=ps.foldl (fun a b=>.mk 8 [] [] 0 [a,b]) p/\cw e=cw p++ps.flatMap fun x=>sg [124]::cw x:=by
 induction h with
 |Uz h=>exact⟨_,[],h,by simp,rfl,by simp⟩
 |@bits x y _ l m=>
  obtain⟨p,ps,g,i,j,k⟩:=m;refine⟨p,ps++[y],g,fun z d=>?_,by rw[List.foldl_append,<-j];rfl,?_⟩
  .rcases bC.1 d with d|d
   .exact i z d
   .simp at d;subst d;exact l
  .show cw x++sg [124]::cw y=_
   rw[k];simp
def CN{R:List KT}(d:iX R 3 [124]=false):∀(ps:List Ex)(n:Nat)(e:Ex),(∀x∈ps,Prim x)->ps.length<n ->
  ey [124] 8 (gE A) n e (Q f c none ((ps.flatMap fun x=>sg [124]::cw x)++R))=(ps.foldl (fun a b=>.mk 8 [] [] 0 [a,b]) e,Q f c none R)
 |[],n+1,e,_,_=>by
  show ey [124] 8 (gE A) (n+1) e (Q f c none R)=_
  rw[ey,dC,d,eh d];rfl
 |x::ps,n+1,e,g,i=>by
  have k:=g x aS;rw[eI];simp only[di,bn];rw[ey,dC,show iX (sg [124]::(cw x++((ps.flatMap fun x=>sg [124]::cw x)++R))) 3 [124]=true from rfl,ed,Kk k,aj]
  exact CN d ps n _ (fun y j=>g y (aP _ j)) (by simpa using i)
 |[],0,_,_,h=>absurd h (iR _)
 |_::_,0,_,_,h=>absurd h (iR _)
def UB(ps:List Ex):ps.length<=(ps.flatMap fun x=>sg [124]::cw x).length:=by
 induction ps with
 |nil=>simp
 |cons x ps a=>simp only[eI,de,aC];omega
def CO{e:Ex}(h:Ib e){sp:Cx}{R:List KT}(g:iX R 3 [124]=false):jg A (Q f c sp (cw e++R))=(e,Q f c none R):=by
 obtain⟨p,ps,a,b,rfl,d⟩:=NM h;rw[d,bn];unfold jg;rw[Kk a];refine CN g ps _ p b ?_;show ps.length<(m7 sp _).length+1
 rw[kg];have:=UB ps;simp only[de];omega
def aaZ{o:By}(h:o∈ops){sp:Cx}(R:List KT):TR A (Q f c sp (sg o::R))=(o,Q f c none R):=by
 have a:∀(l:List By),o∈l->zk A l (Q f c sp (sg o::R))=(o,Q f c none R):=by
  intro l;induction l with
  |nil=>intro h;simp at h
  |cons x l b=>
   intro h;rw[zk,dC];cases hx:iX (sg o::R) 3 x
   .rw[af,eh hx]
    rcases aU.1 h with rfl|h
    .simp[iX]at hx
    .exact b h
   .have:o=x:=by simpa[iX]using hx
    subst this;rw[aj,ed]
 exact a ops h
def SA{o:By}(h:o∈ops){x y:Ex}(b:Ib y){sp:Cx}{R:List KT}(a:iX R 3 [124]=false):zl A x (Q f c sp (sg o::(cw y++R)))=(.mk 4 o [] 0 [x,y],Q f c none R):=by
 unfold zl;rw[aaZ h];simp only[CO b a]
def UC{o:By}(b:o∈ops){x y:Ex}(k:Fu x)(g:Ib y){sp:Cx}{R:List KT}(d:iX R 3 [124]=false):nC A (Q f c sp (cw x++sg o::(cw y++R)))=(.mk 4 o [] 0 [x,y],Q f c none R):=by
 have i:iX (sg o::(cw y++R)) 3 [38]=false:=by
  have:o≠[38]:=by
   intro e;subst e;exact absurd b (by decide)
  show(bif(3:Int)==3 then o==[38]else false)=false
  simpa using this
 cases k with
 |name n a=>
  show nC A (Q f c sp (wd n::sg o::(cw y++R)))=_
  unfold nC;rw[kh a];simp only[dC,i,af,eh i];exact SA b g d
 |@mask n p a j=>
  show nC A (Q f c sp (wd n::sg [38]::(cw p++sg o::(cw y++R))))=_
  unfold nC;rw[kh a];simp only[dC,show iX (sg [38]::(cw p++sg o::(cw y++R))) 3 [38]=true from rfl,aj,ed,Kk j]
  exact SA b g d
def AF{pl:Ps->Ex×Ps}{s:Ps}{e:Ex}{R:List KT}(h:pl s=(e,Q f c none R))(a:iX R 3 [38,38]=false):nD pl s=(e,Q f c none R):=by
 unfold nD;rw[h,ey,dC,a,eh a];rfl
def Ic{pl:Ps->Ex×Ps}{s:Ps}{e:Ex}{R:List KT}(h:nD pl s=(e,Q f c none R))(a:iX R 3 [124,124]=false):qW pl s=(e,Q f c none R):=by
 unfold qW;rw[h,ey,dC,a,eh a];rfl
def SB{pl:Ps->Ex×Ps}{s:Ps}{x y:Ex}{T R:List KT}(h:pl s=(x,Q f c none (sg [38,38]::T)))(b:pl (Q f c none T)=(y,Q f c none R))(a:iX R 3 [38,38]=false)(e:1<=s.l.length):nD pl s=(.mk 2 [] [] 0 [x,y],Q f c none R):=by
 unfold nD;obtain⟨k,d⟩:∃k,s.l.length+1=k+1+1:=⟨s.l.length-1,by omega⟩
 rw[h,d,ey,dC,show iX (sg [38,38]::T) 3 [38,38]=true from rfl,ed,b,aj,ey,dC,a,eh a];rfl
def SC{pl:Ps->Ex×Ps}{s:Ps}{x y:Ex}{T R:List KT}(h:nD pl s=(x,Q f c none (sg [124,124]::T)))(b:nD pl (Q f c none T)=(y,Q f c none R))(a:iX R 3 [124,124]=false)(e:1<=s.l.length):qW pl s=(.mk 1 [] [] 0 [x,y],Q f c none R):=by
 unfold qW;obtain⟨k,d⟩:∃k,s.l.length+1=k+1+1:=⟨s.l.length-1,by omega⟩
 rw[h,d,ey,dC,show iX (sg [124,124]::T) 3 [124,124]=true from rfl,ed,b,aj,ey,dC,a,eh a];rfl
def SD{e:Ex}(h:Bj e):∀(n:Nat)(sp:Cx)(R:List KT),(cw e).length<n->iX R 3 [124]=false->eC A n (Q f c sp (cw e++R))=(e,Q f c none R):=by
 induction h with
 |@or x y g j q s=>
  intro n sp R a d;have b:cw (.mk 1 [] [] 0 [x,y])=sg [40]::(cw x++sg [124,124]::(cw y++[sg [41]])):=rfl;rw[b]at a⊢;simp only[aC,de]at a;obtain⟨k,rfl⟩:∃k,n=k+1:=⟨n-1,by omega⟩
  simp only[di,bn,ea];rw[eC,iJ,dC];rw[show iX (sg [40]::(cw x++sg [124,124]::(cw y++sg [41]::R))) 3 [33]=false from rfl,af,eh (show iX (sg [40]::(cw x++sg [124,124]::(cw y++sg [41]::R))) 3 [33]=false from rfl),dC]
  rw[show iX (sg [40]::(cw x++sg [124,124]::(cw y++sg [41]::R))) 3 [40]=true from rfl,aj,ed]
  have l:=AF (q k none (sg [124,124]::(cw y++sg [41]::R)) (by omega) rfl) rfl
  have p:=AF (s k none (sg [41]::R) (by omega) rfl) rfl
  rw[SC l p rfl (by show 1<=(m7 none _).length;rw[kg];simp;omega),iY]
 |@and x y g j q s=>
  intro n sp R a d;have b:cw (.mk 2 [] [] 0 [x,y])=sg [40]::(cw x++sg [38,38]::(cw y++[sg [41]])):=rfl;rw[b]at a⊢;simp only[aC,de]at a;obtain⟨k,rfl⟩:∃k,n=k+1:=⟨n-1,by omega⟩
  simp only[di,bn,ea];rw[eC,iJ,dC];rw[show iX (sg [40]::(cw x++sg [38,38]::(cw y++sg [41]::R))) 3 [33]=false from rfl,af,eh (show iX (sg [40]::(cw x++sg [38,38]::(cw y++sg [41]::R))) 3 [33]=false from rfl),dC]
  rw[show iX (sg [40]::(cw x++sg [38,38]::(cw y++sg [41]::R))) 3 [40]=true from rfl,aj,ed]
  have l:=q k none (sg [38,38]::(cw y++sg [41]::R)) (by omega) rfl
  have p:=s k none (sg [41]::R) (by omega) rfl
  rw[Ic (SB l p rfl (by show 1<=(m7 none _).length;rw[kg];simp;omega)) rfl,iY]
 |@not x g v=>
  intro n sp R a d;have b:cw (.mk 3 [] [] 0 [x])=sg [33]::cw x:=rfl;rw[b]at a⊢;simp only[aC]at a;obtain⟨k,rfl⟩:∃k,n=k+1:=⟨n-1,by omega⟩
  rw[di,eC,iJ,dC,show iX (sg [33]::(cw x++R)) 3 [33]=true from rfl,aj,ed,v k none R (by omega) d]
 |@cmp o x y u g j=>
  intro n sp R a d;have b:cw (.mk 4 o [] 0 [x,y])=cw x++sg o::cw y:=rfl;rw[b]at a⊢;obtain⟨k,rfl⟩:∃k,n=k+1:=⟨n-1,by omega⟩
  rw[bn,di];have i:∃m T,cw x++sg o::(cw y++R)=wd m::T:=by cases g<;>exact⟨_,_,rfl⟩
  have t:=UC (A:=A) (f:=f) (c:=c) u g j (sp:=sp) d;obtain⟨m,T,i⟩:=i;rw[i]at t⊢;rw[eC,iJ,dC,show iX (wd m::T) 3 [33]=false from rfl,af,eh (show iX (wd m::T) 3 [33]=false from rfl),dC,show iX (wd m::T) 3 [40]=false from rfl,af,eh (show iX (wd m::T) 3 [40]=false from rfl)]
  exact t
def NN{e:Ex}(h:Bj e){sp:Cx}{R:List KT}:dW A (Q f c sp (cw e++sg [125]::R))=(e,Q f c none (sg [125]::R)):=by
 unfold dW;refine Ic (AF (SD h _ sp _ ?_ rfl) rfl) rfl;show _<(m7 sp _).length+1
 rw[kg,de];omega
def m8:List By->List KT
 |[]=>[]
 |x::t=>wd x::t.flatMap fun y=>[sg [44],wd y]
def AG{R:List KT}(b:iX R 3 [44]=false):∀(l:List By)(n:Nat)(a:List By),(∀x∈l,bK x=true)->l.length<n->gU A n a (Q f c none ((l.flatMap fun y=>[sg [44],wd y])++R))=(a++l,Q f c none R)
 |[],n+1,a,_,_=>by
  show gU A (n+1) a (Q f c none R)=_
  rw[gU,dC,b,eh b,eG];rfl
 |x::l,n+1,a,d,e=>by
  show gU A (n+1) a (Q f c none (sg [44]::wd x::((l.flatMap fun y=>[sg [44],wd y])++R)))=_
  rw[gU,dC,show iX (sg [44]::wd x::((l.flatMap fun y=>[sg [44],wd y])++R)) 3 [44]=true from rfl,aj,ed,kh (d x aS)]
  have:=AG b l n (a++[x]) (fun y g=>d y (aP _ g)) (by simpa using e)
  rw[bn]at this;exact this
 |[],0,_,_,h=>absurd h (iR _)
 |_::_,0,_,_,h=>absurd h (iR _)
def Ie{l:List By}(b:l≠[])(h:∀x∈l,bK x=true){sp:Cx}{R:List KT}(d:iX R 3 [44]=false):eB A (Q f c sp (m8 l++R))=(l,Q f c none R):=by
 cases l with
 |nil=>exact(b rfl).elim
 |cons x t=>
  show eB A (Q f c sp (wd x::((t.flatMap fun y=>[sg [44],wd y])++R)))=_
  unfold eB;rw[kh (h x aS)];refine AG d t _ [x] (fun y e=>h y (aP _ e)) ?_
  show t.length<(m7 sp _).length+1
  rw[kg];have:t.length<=(t.flatMap fun y=>[sg [44],wd y]).length:=by
   clear b h;induction t with
   |nil=>simp
   |cons a t g=>simp only[eI,de,aC,cO];omega
  simp only[aC,de];omega
def tJ(a:Act):List KT:=wd (eP.getD a.kind.toNat [])::(bif(bif decide (a.kind>=3)then decide (a.kind<=5)else false)then[sg [40],nu a.data,sg [41]]else[])
def CP{a:Act}(h:(bV a).2=true){sp:Cx}{R:List KT}:cV A (Q f c sp (tJ a++R))=(a,Q f c none R):=by
 obtain⟨m,o,g,i,e⟩:=Fq h;obtain⟨k,d⟩:=a;have m:1<=k:=m;have o:k<=7:=o;have g:0<=d:=g;have i:d<=65535:=i;have data:∀R,uO A (Q f c none (sg [40]::nu d::sg [41]::R))=(d,Q f c none R):=by
  intro R;unfold uO;rw[iY,CJ (Fv ⟨g,by omega⟩) i,iY,show IntKind.wrap .i64 d=d from qu aB]
 have p:∀(n:By)(T:List KT)(j:Int),nB n=(j,true)->jD (Q f c sp (wd n::T))=(j,true):=fun n T j b=>b
 have plain:∀(n:By)(j:Int),nB n=(j,true)->[3,4,5].any (j == ·)=false->cV A (Q f c sp (wd n::R))=(⟨j,0⟩,Q f c none R):=by
  intro n j b l;unfold cV;rw[p n R j b];simp only[l];rfl
 have more:∀(n:By)(j:Int),nB n=(j,true)->[3,4,5].any (j == ·)=true->cV A (Q f c sp (wd n::sg [40]::nu d::sg [41]::R))=(⟨j,d⟩,Q f c none R):=by
  intro n j b l;unfold cV;rw[p n _ j b];simp only[l,show S3 (Q f c sp (wd n::sg [40]::nu d::sg [41]::R))=Q f c none (sg [40]::nu d::sg [41]::R)from rfl,data R]
  rfl
 have q:k=1\/k=2\/k=3\/k=4\/k=5\/k=6\/k=7:=by omega
 rcases q with rfl|rfl|rfl|rfl|rfl|rfl|rfl
 .have:d=0:=e rfl
  subst this;exact plain _ 1 rfl rfl
 .have:d=0:=e rfl
  subst this;exact plain _ 2 rfl rfl
 .exact more _ 3 rfl rfl
 .exact more _ 4 rfl rfl
 .exact more _ 5 rfl rfl
 .have:d=0:=e rfl
  subst this;exact plain _ 6 rfl rfl
 .have:d=0:=e rfl
  subst this;exact plain _ 7 rfl rfl
end
end
section
set_option maxRecDepth 10000
section
variable {A:Pa} {f:Int} {c:Cx}
def Ig:List Ex->List KT
 |[]=>[]
 |e::_=>sg [123]::(cw e++[sg [125]])
def CQ:List By->List KT
 |[]=>[]
 |x::t=>sg [40]::(m8 (x::t)++[sg [41]])
def xu(r:gC):List KT:=wd r.call::(CQ r.params++Ig r.cond)
structure Ya (r:gC):Prop where
 call:bK r.call=true
 params:∀x∈r.params,bK x=true
 cond:r.cond=[]\/∃e,r.cond=[e]/\Bj e/\bJ e<=30
def UD(R:List KT):Prop:=∃T,R=sg [44]::T\/R=sg [125]::T
def UE{name:By}{params:List By}{l:List Ex}(h:l=[]\/∃e,l=[e]/\Bj e/\bJ e<=30){R:List KT}(b:iX R 3 [123]=false):
  ec A name params (Q f c none (Ig l++R))=(⟨name,params,l⟩,Q f c none R):=by
 rcases h with rfl|⟨e,rfl,d,i⟩
 .show ec A name params (Q f c none R)=_
  unfold ec;rw[dC,b,eh b];rfl
 .show ec A name params (Q f c none (sg [123]::((cw e++[sg [125]])++R)))=_
  rw[bn];unfold ec;rw[dC,show iX (sg [123]::(cw e++([sg [125]]++R))) 3 [123]=true from rfl,ed]
  have a:=NN (A:=A) (f:=f) (c:=c) d (sp:=none) (R:=R);have a:dW A (Q f c none (cw e++([sg [125]]++R)))=(e,Q f c none (sg [125]::R)):=a;rw[a];have g:nE A (Q f c none (sg [123]::(cw e++([sg [125]]++R)))) (e,Q f c none (sg [125]::R))=Q f c none (sg [125]::R):=by
   unfold nE;rw[show kV (e,Q f c none (sg [125]::R)).2=true from rfl,cf (by show¬((bJ e:Int)>30);omega)];rfl
  rw[g];simp only[fh,af,iY]
def UF{r:gC}(h:Ya r){sp:Cx}{R:List KT}(g:UD R):iV A (Q f c sp (xu r++R))=(r,Q f c none R):=by
 have d:=h.call;have b:=h.params;have a:=h.cond;obtain⟨call,params,l⟩:=r;clear h;have a:l=[]\/∃e,l=[e]/\Bj e/\bJ e<=30:=a;have b:∀x∈params,bK x=true:=b;have d:bK call=true:=d;have p:iX R 3 [123]=false:=by obtain⟨T,rfl|rfl⟩:=g<;>rfl
 have i:iX (Ig l++R) 3 [40]=false:=by
  rcases a with rfl|⟨e,rfl,_⟩
  .obtain⟨T,rfl|rfl⟩:=g<;>rfl
  .rfl
 have j:=UE (A:=A) (f:=f) (c:=c) (name:=call) (params:=params) a p;have m:xu ⟨call,params,l⟩++R=wd call::(CQ params++(Ig l++R)):=by
  show wd call::((CQ params++Ig l)++R)=_
  rw[bn]
 rw[m];generalize Ig l++R=K at*;unfold iV;rw[kh d];cases params with
 |nil=>
  show(bif iD (Q f c none K) 3 [40]then _ else ec A call [] (aH (Q f c none K) 3 [40]))=_
  rw[dC,i,af,eh i];exact j
 |cons x t=>
  have n:CQ (x::t)++K=sg [40]::(m8 (x::t)++(sg [41]::K)):=by
   show sg [40]::((m8 (x::t)++[sg [41]])++K)=_
   rw[bn];rfl
  rw[n];have k:iX (m8 (x::t)++sg [41]::K) 3 [41]=false:=rfl;have o:=Ie (A:=A) (f:=f) (c:=c) (l:=x::t) (by simp) b (sp:=none) (R:=sg [41]::K) rfl
  simp only[dC,show iX (sg [40]::(m8 (x::t)++sg [41]::K)) 3 [40]=true from rfl,aj,ed,k,eh k,jM,o,iY]
  exact j
def vi:List (List KT)->List KT
 |[]=>[]
 |x::t=>x++t.flatMap fun y=>sg [44]::y
def m9(l:List (List KT)):List KT:=sg [123]::(vi l++[sg [125]])
def Ih{α:Type}{g:Ps->α×Ps}{tk:α->List KT}{R:List KT}:∀(l:List α)(x:α)(n:Nat)(more:Bool)(a:List α)(sp:Cx),(∀y∈x::l,∀(sp:Cx)(R:List KT),UD R->g (Q f c sp (tk y++R))=(y,Q f c none R))->(∀y∈x::l,∀T,iX (tk y++T) 3 [125]=false)->l.length+1<n ->
  js A g n more a (Q f c sp (tk x++((l.flatMap fun y=>sg [44]::tk y)++sg [125]::R)))=(a++x::l,Q f c none R)
 |l,x,0,_,_,_,_,_,h=>absurd h (iR _)
 |[],x,n+1,more,a,sp,d,b,e=>by
  have i:=d x aS sp (sg [125]::R) ⟨R,.inr rfl⟩;obtain⟨m,rfl⟩:∃m,n=m+1:=⟨n-1,by simp at e;omega⟩
  show js A g (m+1+1) more a (Q f c sp (tk x++sg [125]::R))=_
  rw[js,dC,b x aS];rw[show kV (Q f c sp (tk x++sg [125]::R))=true from rfl]
  rw[show(bif true then(bif more then true else !false)else false)=true by cases more<;>rfl,aj,i]
  simp only[dC,show iX (sg [125]::R) 3 [44]=false from rfl,eh (show iX (sg [125]::R) 3 [44]=false from rfl)]
  rw[js,dC,show iX (sg [125]::R) 3 [125]=true from rfl,iY]
  rfl
 |z::l,x,n+1,more,a,sp,d,b,e=>by
  have k:((z::l).flatMap fun y=>sg [44]::tk y)++sg [125]::R=sg [44]::(tk z++((l.flatMap fun y=>sg [44]::tk y)++sg [125]::R)):=by simp
  rw[k];have i:=d x aS sp (sg [44]::(tk z++((l.flatMap fun y=>sg [44]::tk y)++sg [125]::R))) ⟨_,.inl rfl⟩
  rw[js,dC,b x aS];rw[show∀T,kV (Q f c sp T)=true from fun _=>rfl]
  rw[show(bif true then(bif more then true else !false)else false)=true by cases more<;>rfl,aj,i]
  simp only[dC,show∀T,iX (sg [44]::T) 3 [44]=true from fun _=>rfl,ed]
  have:=Ih (R:=R) l z n true (a++[x]) none (fun y j=>d y (aP _ j)) (fun y j=>b y (aP _ j)) (by simpa using e)
  rw[bn]at this;exact this
def Mm{α:Type}{g:Ps->α×Ps}{tk:α->List KT}{R:List KT}{l:List α}{sp:Cx}(e:∀y∈l,∀(sp:Cx)(R:List KT),UD R->g (Q f c sp (tk y++R))=(y,Q f c none R))(d:∀y∈l,∀T,iX (tk y++T) 3 [125]=false):
  qY A g (Q f c sp (m9 (l.map tk)++R))=(l,Q f c none R):=by
 unfold qY m9;rw[di,bn,iY];cases l with
 |nil=>
  show js A g ((m7 none (sg [125]::R)).length+2) false [] (Q f c none (sg [125]::R))=_
  rw[kg,js,dC,show iX (sg [125]::R) 3 [125]=true from rfl,iY];rfl
 |cons x t=>
  have b:vi ((x::t).map tk)++([sg [125]]++R)=tk x++((t.flatMap fun y=>sg [44]::tk y)++sg [125]::R):=by
   simp[vi,List.flatMap_map]
  rw[b];refine Ih t x _ false [] none e d ?_;show _<(m7 none _).length+2
  rw[kg];have:t.length<=(t.flatMap fun y=>sg [44]::tk y).length:=by
   clear e d b;induction t with
   |nil=>simp
   |cons a t i=>simp only[eI,de,aC];omega
  simp only[de,aC];omega
def sE(p:dr):List KT:=bif !(p.use==[])then[wd fL,wd p.use]else tJ p.act++m9 (p.bj.map xu)
structure S7 (p:dr):Prop where
 use:p.use≠[]->bK p.use=true/\p.act=⟨0,0⟩/\p.bj=[]
 act:p.use=[]->(bV p.act).2=true
 bj:∀r∈p.bj,Ya r
def UG{a:Act}(h:(bV a).2=true):(eP.getD a.kind.toNat []==fL)=false/\∀T,iX (tJ a++T) 3 [125]=false:=by
 obtain⟨b,e,-⟩:=Fq h;obtain⟨k,d⟩:=a;have b:1<=k:=b;have e:k<=7:=e;refine⟨?_,fun T=>rfl⟩
 have g:k=1\/k=2\/k=3\/k=4\/k=5\/k=6\/k=7:=by omega
 rcases g with rfl|rfl|rfl|rfl|rfl|rfl|rfl<;>rfl
def UH{p:dr}(h:S7 p){sp:Cx}{R:List KT}(g:UD R):gV A (Q f c sp (sE p++R))=(p,Q f c none R):=by
 obtain⟨use,a,bj⟩:=p;cases hu:use==[]with
 |true=>
  have o:use=[]:=by simpa using hu
  subst o;have i:=h.act rfl;have m:=(UG i).1;have b:sE ⟨[],a,bj⟩++R=tJ a++(m9 (bj.map xu)++R):=by
   show tJ a++m9 (bj.map xu)++R=_
   rw[bn]
  have k:iX (tJ a++(m9 (bj.map xu)++R)) 1 fL=false:=by
   show(bif(1:Int)==1 then eP.getD a.kind.toNat []==fL else false)=false
   rw[m];rfl
  rw[b];unfold gV;rw[dC,k,eh k,CP i];simp only[af];rw[Mm (fun y j sp R g=>UF (h.bj y j) g) (fun y j T=>rfl)]
 |false=>
  have n:use≠[]:=by simpa using hu
  obtain⟨l,d,e⟩:=h.use n;have d:a=⟨0,0⟩:=d;have e:bj=[]:=e;subst d e;have b:sE ⟨use,⟨0,0⟩,[]⟩++R=wd fL::wd use::R:=by
   unfold sE;simp only[hu];rfl
  rw[b];unfold gV;rw[dC,show iX (wd fL::wd use::R) 1 fL=true by simp[iX],aj,ed,kh l]
def Bk(p:dP):List KT:=wd cX::wd p.name::m9 (p.aV.map sE)
def Fw(d:dT):List KT:=(5,bP)::wd d.name::cw d.ex
def Bl(u:eW):List KT:=wd fL::(m8 u.main++wd fr::tJ u.bZ)
def nm(u:eW):List KT:=u.aG.flatMap Fw++(u.aD.flatMap Bk++Bl u)
structure N1 (u:eW):Prop where
 aG:∀d∈u.aG,bK d.name=true/\Ib d.ex
 aD:∀p∈u.aD,bK p.name=true/\∀x∈p.aV,S7 x
 mne:u.main≠[]
 main:∀s∈u.main,bK s=true
 act:(bV u.bZ).2=true
def Kl{p:dr}(h:S7 p):∀T,iX (sE p++T) 3 [125]=false:=by
 intro T;obtain⟨use,a,bj⟩:=p;unfold sE;cases hu : !(use==[])
 .rfl
 .rfl
def SE{d:dT}(h:bK d.name=true/\Ib d.ex){sp:Cx}{R:List KT}(a:iX R 3 [124]=false):cR A (Q f c sp (Fw d++R))=({A with ds:=A.ds++[d]},Q f c none R):=by
 show cR A (Q f c sp ((5,bP)::wd d.name::(cw d.ex++R)))=_
 unfold cR;rw[dC,show iX ((5,bP)::wd d.name::(cw d.ex++R)) 5 bP=true from rfl,aj,ed,kh h.1]
 simp only[CO h.2 a]
def SF{p:dP}(h:bK p.name=true/\∀x∈p.aV,S7 x){sp:Cx}{R:List KT}:cR A (Q f c sp (Bk p++R))=({A with ps:=A.ps++[p]},Q f c none R):=by
 show cR A (Q f c sp (wd cX::wd p.name::(m9 (p.aV.map sE)++R)))=_
 unfold cR;have b:iX (wd cX::wd p.name::(m9 (p.aV.map sE)++R)) 5 bP=false:=rfl;rw[dC,b,af,eh b,dC,show iX (wd cX::wd p.name::(m9 (p.aV.map sE)++R)) 1 cX=true from rfl,aj,ed,kh h.1]
 simp only[Mm (A:=A) (f:=f) (c:=c) (g:=gV A) (tk:=sE) (R:=R) (l:=p.aV) (sp:=none) (fun y a sp R d=>UH (h.2 y a) d) (fun y a=>Kl (h.2 y a))]
def NO{u:eW}(h:N1 u)(e:A.mn=[]){sp:Cx}:cR A (Q f c sp (Bl u))=({A with mn:=u.main,dk:=u.bZ.kind,dd:=u.bZ.data},Q f c none []):=by
 show cR A (Q f c sp (wd fL::(m8 u.main++wd fr::tJ u.bZ)))=_
 unfold cR;have d:iX (wd fL::(m8 u.main++wd fr::tJ u.bZ)) 5 bP=false:=rfl;have b:iX (wd fL::(m8 u.main++wd fr::tJ u.bZ)) 1 cX=false:=rfl;rw[dC,d,af,eh d,dC,b,af,eh b,dC,show iX (wd fL::(m8 u.main++wd fr::tJ u.bZ)) 1 fL=true from rfl,aj,ed]
 unfold wR;have a:=CP (A:=A) (f:=f) (c:=c) h.act (sp:=none) (R:=[]);rw[eG]at a;rw[Ie h.mne h.main rfl,e];simp only[iY,a];rfl
def Mn{u:eW}:∀(l:List dT)(n:Nat)(A:Pa)(sp:Cx)(R:List KT),(∀d∈l,bK d.name=true/\Ib d.ex)->iX R 3 [124]=false->l.length<=n->∃a,dX n A (Q f c sp (l.flatMap Fw++R))=dX (n-l.length) {A with ds:=A.ds++l} (Q f c a R)
 |[],n,A,sp,R,_,_,_=>⟨sp,by simp⟩
 |d::l,0,A,sp,R,_,_,h=>by simp at h
 |d::l,n+1,A,sp,R,e,b,g=>by
  obtain⟨a,h⟩:=Mn (u:=u) l n {A with ds:=A.ds++[d]} none R (fun x i=>e x (aP _ i)) b (by simpa using g)
  refine⟨a,?_⟩;have j:iX (l.flatMap Fw++R) 3 [124]=false:=by cases l with|nil=>exact b|cons=>rfl
  rw[eI,bn,dX,SE (e d aS) j];show dX n {A with ds:=A.ds++[d]} (Q f c none (l.flatMap Fw++R))=_
  rw[h,bn,aC,Nat.add_sub_add_right];rfl
def Mo{u:eW}:∀(l:List dP)(n:Nat)(A:Pa)(sp:Cx)(R:List KT),(∀p∈l,bK p.name=true/\∀x∈p.aV,S7 x)->l.length<=n->∃a,dX n A (Q f c sp (l.flatMap Bk++R))=dX (n-l.length) {A with ps:=A.ps++l} (Q f c a R)
 |[],n,A,sp,R,_,_=>⟨sp,by simp⟩
 |d::l,0,A,sp,R,_,h=>by simp at h
 |d::l,n+1,A,sp,R,b,e=>by
  obtain⟨a,h⟩:=Mo (u:=u) l n {A with ps:=A.ps++[d]} none R (fun x g=>b x (aP _ g)) (by simpa using e)
  refine⟨a,?_⟩;rw[eI,bn,dX,SF (b d aS)];show dX n {A with ps:=A.ps++[d]} (Q f c none (l.flatMap Bk++R))=_
  rw[h,bn,aC,Nat.add_sub_add_right];rfl
end
def SG{u:eW}(h:N1 u)(sp:Cx)(b fi:Int)(d:Cx):zq (m7 sp (nm u)) b fi d=(u,0,0,some (0,0)):=by
 have z:u.aG.length+u.aD.length+1<=(nm u).length:=by
  have o:∀l:List dT,l.length<=(l.flatMap Fw).length:=fun l=>by
   induction l with
   |nil=>simp
   |cons a l s=>simp only[eI,de,aC,Fw];omega
  have p:∀l:List dP,l.length<=(l.flatMap Bk).length:=fun l=>by
   induction l with
   |nil=>simp
   |cons a l s=>simp only[eI,de,aC,Bk];omega
  have:=o u.aG;have:=p u.aD;simp only[nm,Bl,de,aC];omega
 have e:∃n,dX ((m7 sp (nm u)).length+2) ⟨b,fi,d,[],[],[],0,0⟩ (Q 0 (some (0,0)) sp (nm u))=(⟨b,fi,d,u.aG,u.aD,u.main,u.bZ.kind,u.bZ.data⟩,Q 0 (some (0,0)) n []):=by
  rw[kg];unfold nm;have w:iX (u.aD.flatMap Bk++Bl u) 3 [124]=false:=by cases u.aD with|nil=>rfl|cons=>rfl
  obtain⟨v,g⟩:=Mn (f:=0) (c:=some (0,0)) (u:=u) u.aG ((nm u).length+2) ⟨b,fi,d,[],[],[],0,0⟩ sp (u.aD.flatMap Bk++Bl u) h.aG w (by omega)
  unfold nm at g;rw[g];obtain⟨m,i⟩:=Mo (f:=0) (c:=some (0,0)) (u:=u) u.aD ((nm u).length+2-u.aG.length) ⟨b,fi,d,[]++u.aG,[],[],0,0⟩ v (Bl u) h.aD (by omega)
  unfold nm at i;rw[i];obtain⟨k,j⟩:∃k,(nm u).length+2-u.aG.length-u.aD.length=k+1+1:=⟨(nm u).length-u.aG.length-u.aD.length,by omega⟩
  unfold nm at j;rw[j];refine⟨none,?_⟩;rw[dX];show dX (k+1) (cR _ (Q 0 (some (0,0)) m (Bl u))).1 (cR _ (Q 0 (some (0,0)) m (Bl u))).2=_
  rw[NO h rfl];rfl
 obtain⟨n,e⟩:=e;have y:dX ((m7 sp (nm u)).length+2) ⟨b,fi,d,[],[],[],0,0⟩ ⟨m7 sp (nm u),0,0,some (0,0)⟩=_:=e;unfold zq;rw[y];have q:((u.main.length:Int)==0)=false:=by
  have:=h.mne;cases hq:u.main with
  |nil=>exact(this hq).elim
  |cons x t=>simp only[aC];rw[fo];omega
 unfold qZ;simp only[q,af];rfl
end
end Go.Ac.S4
end
