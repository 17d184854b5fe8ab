/-
The law TopArches holds (topArches_holds, of the card's type): a call that two architectures have is judged alike on both. Conditions: none beyond those that the given statement states itself.
-/
import Derived.Test.YtifcddmbgnmnjaaGreatDoorPkE
import Derived.Test.YtifcddmbgnmnjaaGreatDoorTie
import Derived.Test.YtifcddmbgnmnjaaGreatDoorCards
import Derived.HandedShaped
import Derived.Shelf.Vars
import Derived.LaidMore
import Derived.Lay
import Derived.WalkKit
import Derived.ProofKit
import Derived.OpenShut
import Derived.ShutString
import Derived.ChangeOld
import Derived.Stop.Joined
import Derived.SevenTiedAt
set_option linter.all false
set_option autoImplicit true
section
namespace Go.Ac.S4
open Go Go.Proofs Go.Proofs.Tryz Go.Ac
set_option maxRecDepth 100000
section
set_option maxRecDepth 10000
inductive Lx:By->List KT->Prop
 |nil:Lx [] []
 |blank (c:UInt8) {t:By} {T:List KT}:fU c.toNat=true->Lx t T->Lx (c::t) T
 |tok (c:UInt8) {t x:By} {n:Nat} {k:Int} {T:List KT}:c≠47->fU c.toNat=false->jq (c::t)=some (k,n,x)->Lx ((c::t).drop n) T->Lx (c::t) ((k,x)::T)
def SH{c:UInt8}(h:fU c.toNat=true):c≠47:=by rintro rfl;simp[fU]at h
def CR{c:UInt8}(h:c≠47)(t:By):dK (c::t)=((runN fU (c::t):Int),true):=by
 have a:(47==c)=false:=by simpa using fun e=>h e.symm
 unfold dK;simp only[List.isPrefixOf,a,Bool.false_and,af]
def UI{s:By}{T:List KT}(h:Lx s T):Lx (s.drop (runN fU s)) T:=by
 induction h with
 |nil=>exact .nil
 |blank c f _ g=>rw[runN,f,aj,rK];exact g
 |tok c b a d e _=>rw[runN,a,af,gq];exact .tok c b a d e
def AH:∀(f:Nat)(s:By)(T:List KT)(a:Cx)(b:List Tok),Lx s T->s.length<f->∃sp,cU 0 f s a b = .ok (b++m7 sp T)/\(a=none->sp=none)
 |0,_,_,_,_,_,h=>absurd h (iR _)
 |f+1,s,T,a,b,h,y=>by
  cases h with
  |nil=>exact⟨none,by simp[cU,m7],fun _=>rfl⟩
  |@blank c t T j v=>
   have g:=CR (SH j) t;have m:runN fU (c::t)=runN fU t+1:=by rw[runN,j];rfl
   have w:=UI (Lx.blank c j v);have hlen:=hK (i:=runN fU (c::t)) (l:=c::t);obtain⟨sp,d,e⟩:=AH f ((c::t).drop (runN fU (c::t))) T none b w (by simp only[aC]at*; omega)
   refine⟨sp,?_,fun _=>e rfl⟩
   rw[cU,show(c::t==[])=false from rfl,af,g]
   simp only[aj];rw[bI (by rw[m];omega),aj,toNat_cast]
   exact d
  |@tok c t x n k T d e o u=>
   have g:=CR d t;have m:runN fU (c::t)=0:=by rw[runN,e];rfl
   have z:=Ej (by simp) o
   have hlen:=hK (i:=n) (l:=c::t);obtain⟨sp,p,q⟩:=AH f ((c::t).drop n) T none (b++[⟨k,x,0,a⟩]) u (by omega)
   refine⟨a,?_,id⟩;rw[cU,show(c::t==[])=false from rfl,af,g,m]
   simp only[aj];rw[cf (by decide),af]
   simp only[fh,af,o];rw[p,q rfl,bn];rfl
def Yb:By->Prop
 |[]=>True
 |c::_=>bL c.toNat=false
def wF(s:By)(T:List KT):Prop:=∀r R,Lx r R->Lx (s++r) (T++R)
def Pc(s:By)(T:List KT):Prop:=∀r R,Yb r->Lx r R->Lx (s++r) (T++R)
def Sp1(s:By):Prop:=∀r,Yb (s++r)
def wF.pc{s:By}{T:List KT}(h:wF s T):Pc s T:=fun r R _ a=>h r R a
def wF.app{s b:By}{T a:List KT}(h:wF s T)(c:wF b a):wF (s++b) (T++a):=fun r R d=>by
 rw[bn,bn];exact h _ _ (c r R d)
def wF.pV{s b:By}{T a:List KT}(h:wF s T)(c:Pc b a):Pc (s++b) (T++a):=fun r R e d=>by
 rw[bn,bn];exact h _ _ (c r R e d)
def Pc.app{s a:By}{T b:List KT}(h:Pc s T)(c:wF a b)(e:Sp1 a):wF (s++a) (T++b):=fun r R d=>by
 rw[bn,bn];exact h _ _ (e r) (c r R d)
def Pc.nil:Pc [] []:=fun _ _ _ h=>h
def wF.nil:wF [] []:=fun _ _ h=>h
def Mp{c:UInt8}(h:fU c.toNat=true):wF [c] []:=fun r R a=>.blank c h a
def vj:∀{w r:By},w.all (fun c=>bL c.toNat)=true->Yb r->runN bL (w++r)=w.length
 |[],[],_,_=>rfl
 |[],c::r,_,a=>by
  have a:bL c.toNat=false:=a;rw[ea,runN,a];rfl
 |c::w,r,h,a=>by
  rw[bE,bU]at h;rw[di,runN,h.1,aj,vj h.2 a,aC]
def xd{c:UInt8}(h:bL c.toNat=true):fU c.toNat=false/\c≠47:=by
 refine⟨?_,by rintro rfl;simp[bL,cT,gj]at h⟩
 cases hb:fU c.toNat with
 |false=>rfl
 |true=>
  have a:(c.toNat:Int)=32\/(c.toNat:Int)=9\/(c.toNat:Int)=10\/(c.toNat:Int)=13:=by
   simp only[fU,cond_eq_ite]at hb;simp at hb;omega
  rcases a with e|e|e|e<;>rw[e]at h<;>simp[bL,cT,gj]at h
def kQ{w:By}(h:lM w=true):Pc w [wd w]:=by
 intro r R j i;cases w with
 |nil=>simp[lM]at h
 |cons c t=>
  have a:cT c.toNat=true/\(c::t).all (fun c=>bL c.toNat)=true:=by
   unfold lM at h;rw[show(c::t==[])=false from rfl,af]at h
   obtain⟨e,d⟩:=cd (b:=cT (UInt8.toNat ((c::t).getD 0 0):Int)) h;rw[Fo]at d;exact⟨e,d⟩
  have g:bL c.toNat=true:=by rw[bL,a.1];rfl
  obtain⟨f,k⟩:=xd g;have l:=vj a.2 j;refine .tok c (t:=t++r) (n:=(c::t).length) k f ?_ ?_
  .unfold jq
   rw[show cT (UInt8.toNat ((c::(t++r)).getD 0 0):Int)=true from a.1,aj,show runN bL (c::(t++r))=(c::t).length from l]
   rw[show List.take (c::t).length (c::(t++r))=c::t by rw[<-di];simp]
  .rw[<-di,List.drop_left];exact i
def Mq{c:UInt8}(h:gj c.toNat=true):cT c.toNat=false/\bL c.toNat=true:=by
 have b:48<=(c.toNat:Int)/\(c.toNat:Int)<=57:=by simp[gj,cond_eq_ite]at h;omega
 have a:cT c.toNat=false:=by
  unfold cT;simp[cond_eq_ite];omega
 exact⟨a,by rw[bL,a,h];rfl⟩
def Wc{m:Int}(g:0<=m/\m<18446744073709551616):Pc (oT m) [nu m]:=by
 intro r R k j;have a:=wE 20 m;have i:=Fv g;have q:nu m=(2,oT m):=rfl;rw[q];have p:=Ml 20 m;unfold oT at*;generalize v:oS 20 m=w at*;cases w with
 |nil=>exact(p rfl).elim
 |cons c t=>
  have b:gj c.toNat=true:=by rw[bE,bU]at a;exact a.1
  have s:(c::t).all (fun c=>bL c.toNat)=true:=bf.2 fun x l=>(Mq (bf.1 a x l)).2
  obtain⟨f,e⟩:=Mq b;obtain⟨d,o⟩:=xd e;have u:=vj s k;refine .tok c (t:=t++r) (n:=(c::t).length) o d ?_ ?_
  .unfold jq
   rw[show cT (UInt8.toNat ((c::(t++r)).getD 0 0):Int)=false from f,af,show gj (UInt8.toNat ((c::(t++r)).getD 0 0):Int)=true from b,aj,show runN bL (c::(t++r))=(c::t).length from u]
   rw[show List.take (c::t).length (c::(t++r))=c::t by rw[<-di];simp,i]
   rfl
  .rw[<-di,List.drop_left];exact j
def SI:Pc bP [(5,bP)]:=by
 intro r R b a;have c:runN bL ([100,101,102,105,110,101]++r)=6:=vj (w:=[100,101,102,105,110,101]) rfl b;refine .tok 35 (t:=[100,101,102,105,110,101]++r) (n:=7) (T:=R) (by decide) rfl ?_ (by rw[show List.drop 7 (35::([100,101,102,105,110,101]++r))=r by simp];exact a)
 have e:jq (35::([100,101,102,105,110,101]++r))=(p9 (35::([100,101,102,105,110,101]++r))).map fun n=>(5,n,(35::([100,101,102,105,110,101]++r)).take n):=rfl
 rw[e];unfold p9;rw[show(35::([100,101,102,105,110,101]++r):By).drop 1=[100,101,102,105,110,101]++r from rfl,c]
 rfl
def Fx{c:UInt8}{r:By}{R:List KT}(a:c∈([123,125,40,41,44,33,38,124,60,62]:By))(f:ki ((c::r).take 2) kD=false)(g:Lx r R):Lx (c::r) (sg [c]::R):=by
 have d:jC (c::r)=1:=by
  unfold jC;rw[f];have:decide (indexB (UInt8.toNat ((c::r).getD 0 0):Int) qU>=0)=true:=by
   simp only[aU,jN,or_false]at a;rcases a with rfl|rfl|rfl|rfl|rfl|rfl|rfl|rfl|rfl|rfl<;>rfl
  rw[this];cases decide (((c::r).length:Int)>1)<;>rfl
 have b:jq (c::r)=some (3,jC (c::r),(c::r).take (jC (c::r))):=by
  have:decide ((jC (c::r):Int)>0)=true:=by rw[d];rfl
  unfold jq;rw[this];simp only[aU,jN,or_false]at a;rcases a with rfl|rfl|rfl|rfl|rfl|rfl|rfl|rfl|rfl|rfl<;>rfl
 have e:c≠47/\fU c.toNat=false:=by
  simp only[aU,jN,or_false]at a;rcases a with rfl|rfl|rfl|rfl|rfl|rfl|rfl|rfl|rfl|rfl<;>exact⟨by decide,rfl⟩
 rw[d]at b;exact .tok c e.1 e.2 b g
def UJ{a b:UInt8}{r:By}{R:List KT}(h:[a,b]∈kD)(e:Lx r R):Lx (a::b::r) (sg [a,b]::R):=by
 simp only[kD,aU,jN,or_false,tN,and_true]at h;rcases h with⟨rfl,rfl⟩|⟨rfl,rfl⟩|⟨rfl,rfl⟩|⟨rfl,rfl⟩|⟨rfl,rfl⟩|⟨rfl,rfl⟩
 all_goals
  refine .tok _ (t:=_::r) (n:=2) (by decide) rfl ?_ (show Lx r R from e)
  have c:decide (((2+r.length:Nat):Int)>1)=true:=bI (by omega)
  have f:∀x y:UInt8,ki [x,y] kD=true->jC (x::y::r)=2:=fun x y d=>by
   unfold jC;rw[show(x::y::r).length=2+r.length by simp only[aC];omega,c,show List.take 2 (x::y::r)=[x,y]from rfl,d]
   rfl
  unfold jq;rw[f _ _ rfl];rfl
def nM{c:UInt8}(a:c∈([123,125,40,41,44]:By)):wF [c] [sg [c]]:=fun r R b=>by
 refine Fx (dL [33,38,124,60,62] a) ?_ b;simp only[aU,jN,or_false]at a;cases r with
 |nil=>rcases a with rfl|rfl|rfl|rfl|rfl<;>rfl
 |cons d t=>rcases a with rfl|rfl|rfl|rfl|rfl<;>(simp[ki,kD])
def tK:wF [32] []:=Mp rfl
def Yc:wF [10] []:=Mp rfl
def rI(t:By):Sp1 (32::t):=fun _=>rfl
def SJ{o:By}(h:o∈ops\/o=[38]\/o=[124]\/o=[38,38]\/o=[124,124]):wF ([32]++o++[32]) [sg o]:=by
 intro r R i;have e:Lx (32::r) R:=.blank 32 rfl i;have one:∀c:UInt8,c∈([123,125,40,41,44,33,38,124,60,62]:By)->ki [c,32] kD=false->Lx (32::c::32::r) (sg [c]::R):=fun c f g=>.blank 32 rfl (Fx f g e)
 have d:∀a b:UInt8,[a,b]∈kD->Lx (32::a::b::32::r) (sg [a,b]::R):=fun a b h=>.blank 32 rfl (UJ h e)
 rcases h with h|rfl|rfl|rfl|rfl
 .simp only[ops,aU,jN,or_false]at h
  rcases h with rfl|rfl|rfl|rfl|rfl|rfl
  .exact d 61 61 (by decide)
  .exact d 33 61 (by decide)
  .exact one 60 (by decide) rfl
  .exact d 60 61 (by decide)
  .exact one 62 (by decide) rfl
  .exact d 62 61 (by decide)
 .exact one 38 (by decide) rfl
 .exact one 124 (by decide) rfl
 .exact d 38 38 (by decide)
 .exact d 124 124 (by decide)
def iB{n:By}(h:bK n=true):lM n=true:=(cd (b:=lM n) h).1
def Prim.pc{e:Ex}(h:Prim e):Pc (cH e) (cw e):=by
 cases h with
 |num m a=>exact Wc a
 |name n b=>exact kQ (iB b)
def Ib.pc{e:Ex}(h:Ib e):Pc (cH e) (cw e):=by
 induction h with
 |Uz h=>exact h.pc
 |@bits x y _ a b=>
  have:=(b.app (SJ (o:=[124]) (by simp)) (rI _)).pV a.pc
  simpa[cH,cw]using this
def Fu.pc{e:Ex}(h:Fu e):Pc (cH e) (cw e):=by
 cases h with
 |name n a=>exact kQ (iB a)
 |@mask n x a b=>
  have:=((kQ (iB a)).app (SJ (o:=[38]) (by simp)) (rI _)).pV b.pc
  simpa[cH,cw]using this
def Bj.start{e:Ex}(h:Bj e):∃c t,cH e=c::t/\c≠61:=by
 cases h with
 |or _ _=>exact⟨40,_,rfl,by decide⟩
 |and _ _=>exact⟨40,_,rfl,by decide⟩
 |not _=>exact⟨33,_,rfl,by decide⟩
 |@cmp o x y _ g _=>
  have f:∃n t,bK n=true/\cH x=n++t:=by
   cases g with
   |name n a=>exact⟨n,[],a,by simp[cH]⟩
   |mask n a _=>exact⟨n,_,a,by simp only[cH];rw[bn];rfl⟩
  obtain⟨n,t,a,d⟩:=f;have b:=iB a;cases n with
  |nil=>simp[lM]at b
  |cons c n=>
   refine⟨c,n++(t++([32]++o++[32]++cH y)),by simp[cH,d],?_⟩
   rintro rfl;unfold lM at b;simp[cT]at b
def Bj.pc{e:Ex}(h:Bj e):Pc (cH e) (cw e):=by
 induction h with
 |@or x y _ _ b d=>
  have:=(((nM (c:=40) (by decide)).pV b).app (SJ (o:=[124,124]) (by simp)) (rI _)).pV d
  have:=(this.app (nM (c:=41) (by decide)) (fun _=>rfl)).pc
  simpa[cH,cw]using this
 |@and x y _ _ b d=>
  have:=(((nM (c:=40) (by decide)).pV b).app (SJ (o:=[38,38]) (by simp)) (rI _)).pV d
  have:=(this.app (nM (c:=41) (by decide)) (fun _=>rfl)).pc
  simpa[cH,cw]using this
 |@not x a n=>
  intro r R l k;have f:=n r R l k;obtain⟨c,t,i,g⟩:=a.start;show Lx (33::(cH x++r)) (sg [33]::(cw x++R))
  refine Fx (by decide) ?_ f
  rw[i];have:c≠61:=g;simp[ki,kD,this]
 |@cmp o x y j a m=>
  have:=(a.pc.app (SJ (o:=o) (.inl j)) (rI _)).pV m.pc;simpa[cH,cw]using this
def SK:∀(l:List (By×List KT)),(∀p∈l,Pc p.1 p.2)->Pc (lx [44,32] (l.map (·.1))) (vi (l.map (·.2)))
 |[],_=>Pc.nil
 |p::l,h=>by
  have g:=h p aS;have key:∀(l:List (By×List KT)),(∀p∈l,Pc p.1 p.2)->Pc ((l.map (·.1)).flatMap fun y=>[44,32]++y) ((l.map (·.2)).flatMap fun y=>sg [44]::y):=by
   intro l;induction l with
   |nil=>intro _;exact Pc.nil
   |cons q l i=>
    intro h;have e:=(((nM (c:=44) (by decide)).app tK).pV (h q aS))
    have f:=i fun z d=>h z (aP _ d)
    have:Pc (([44]++[32]++q.1)++((l.map (·.1)).flatMap fun y=>[44,32]++y)) (([sg [44]]++[]++q.2)++((l.map (·.2)).flatMap fun y=>sg [44]::y)):=by
     intro r R a b;rw[bn ([44]++[32]++q.1),bn ([sg [44]]++[]++q.2)];refine e _ _ ?_ (f r R a b);cases l with
     |nil=>exact a
     |cons z l=>rfl
    simpa using this
  intro r R a b;have k:=key l fun z d=>h z (aP _ d)
  have:=g _ _ (by
   cases l with
   |nil=>exact a
   |cons z l=>rfl) (k r R a b)
  simpa[lx,vi]using this
def SL(l:List (By×List KT))(h:∀p∈l,Pc p.1 p.2):wF (oU (l.map (·.1))) (m9 (l.map (·.2))):=by
 have a:wF ([32]++[125]) ([]++[sg [125]]):=tK.app (nM (by decide))
 cases l with
 |nil=>exact(nM (c:=123) (by decide)).app a
 |cons p l=>
  have d:=(((nM (c:=123) (by decide)).app tK).pV (SK (p::l) h)).app a (rI _)
  have e:oU ((p::l).map (·.1))=[123]++[32]++lx [44,32] ((p::l).map (·.1))++([32]++[125]):=by
   unfold oU;rw[show((((p::l).map (·.1)).length:Int)==0)=false by rw[fo];simp only[bB,aC];omega]
   rfl
  rw[e];have b:m9 ((p::l).map (·.2))=[sg [123]]++[]++vi ((p::l).map (·.2))++([]++[sg [125]]):=by simp[m9]
  rw[b];exact d
def Mr{l:List By}(h:∀x∈l,bK x=true):Pc (lx [44,32] l) (m8 l):=by
 have:=SK (l.map fun x=>(x,[wd x])) fun p c=>by
  obtain⟨x,d,rfl⟩:=bg.1 c;exact kQ (iB (h x d))
 rw[dE,dE]at this;have a:l.map ((fun p:By×List KT=>p.1)∘fun x=>(x,[wd x]))=l:=(rL fun x _=>rfl).trans (List.map_id l)
 have b:vi (l.map ((fun p:By×List KT=>p.2)∘fun x=>(x,[wd x])))=m8 l:=by
  cases l with
  |nil=>rfl
  |cons x t=>simp[vi,m8,List.flatMap_map]
 rw[a,b]at this;exact this
def NP{k:Int}(b:1<=k)(c:k<=7):lM (eP.getD k.toNat [])=true:=by
 have a:k=1\/k=2\/k=3\/k=4\/k=5\/k=6\/k=7:=by omega
 rcases a with rfl|rfl|rfl|rfl|rfl|rfl|rfl<;>rfl
def Ii{a:Act}(h:(bV a).2=true):Pc (m5 a) (tJ a):=by
 obtain⟨f,g,d,i,-⟩:=Fq h;have b:=kQ (NP f g);unfold m5 tJ;cases hb:(bif decide (a.kind>=3)then decide (a.kind<=5)else false)
 .exact b
 .have e:=((b.app (nM (c:=40) (by decide)) (fun _=>rfl)).pV (Wc ⟨d,by omega⟩)).app (nM (c:=41) (by decide)) (fun _=>rfl)
  have:=e.pc;simpa using this
def Yd{r:gC}(h:Ya r):Pc (ik r) (xu r):=by
 have b:=kQ (iB h.call);have f:Pc (m6 r) (wd r.call::CQ r.params):=by
  unfold m6;have g:=h.params;cases hq:r.params with
  |nil=>exact b
  |cons x t=>
   rw[hq]at g;have j:=((b.app (nM (c:=40) (by decide)) (fun _=>rfl)).pV (Mr g)).app (nM (c:=41) (by decide)) (fun _=>rfl)
   rw[bI (by simp only[aC];omega),aj]
   have:=j.pc;simpa[CQ]using this
 rcases h.cond with i|⟨e,d,k,_⟩
 .have a:ik r=m6 r:=by rw[ik,i]
  rw[a,xu,i];simpa[Ig]using f
 .have a:ik r=m6 r++[32,123,32]++cH e++[32,125]:=by rw[ik,d]
  have l:wF [32,123,32] [sg [123]]:=(tK.app (nM (c:=123) (by decide))).app tK
  have m:wF [32,125] [sg [125]]:=tK.app (nM (c:=125) (by decide))
  have:=(((f.app l (rI _)).pV k.pc).app m (rI _)).pc;rw[a,xu,d];simpa[Ig]using this
def Ye{p:dr}(h:S7 p):Pc (fR p) (sE p):=by
 unfold fR sE;cases hu : !(p.use==[])
 .have a:p.use=[]:=by simpa using hu
  have b:=(Ii (h.act a)).app tK (rI _);have c:=SL (p.bj.map fun r=>(ik r,xu r)) fun q d=>by
   obtain⟨r,e,rfl⟩:=bg.1 d;exact Yd (h.bj r e)
  rw[dE,dE]at c;have:=(b.app c).pc;simpa[Function.comp_def]using this
 .have a:p.use≠[]:=by simpa using hu
  have b:=(kQ (w:=fL) rfl).app tK (rI _);have:=b.pV (kQ (iB (h.use a).1));simpa[fL]using this
def aa0{d:dT}(h:bK d.name=true/\Ib d.ex):wF (lL d) (Fw d):=by
 have a:=(SI.app tK (rI _)).pV (kQ (iB h.1));have b:=((a.app tK (rI _)).pV h.2.pc).app Yc (fun _=>rfl)
 simpa[lL,Fw,bP]using b
def aa1{p:dP}(h:bK p.name=true/\∀x∈p.aV,S7 x):wF (kf p) (Bk p):=by
 have b:=((kQ (w:=cX) rfl).app tK (rI _)).pV (kQ (iB h.1));have a:=SL (p.aV.map fun x=>(fR x,sE x)) fun q d=>by
  obtain⟨x,e,rfl⟩:=bg.1 d;exact Ye (h.2 x e)
 rw[dE,dE]at a;have c:=((b.app tK (rI _)).app a).app Yc;simpa[kf,Bk,cX,Function.comp_def]using c
def Yf{u:eW}(h:N1 u):wF (kP u) (Bl u):=by
 have a:=((kQ (w:=fL) rfl).app tK (rI _)).pV (Mr h.main);have b:=((a.app tK (rI _)).pV (kQ (w:=fr) rfl)).app tK (rI _);have c:=(b.pV (Ii h.act)).app Yc (fun _=>rfl)
 simpa[kP,Bl,fL,fr]using c
def Km{α:Type}{p:α->By}{t:α->List KT}:∀(l:List α),(∀x∈l,wF (p x) (t x))->wF (l.flatMap p) (l.flatMap t)
 |[],_=>wF.nil
 |x::l,h=>by
  rw[eI,eI];exact(h x aS).app (Km l fun y a=>h y (aP _ a))
def Yg{u:eW}(h:N1 u):Lx (eQ u) (nm u):=by
 have:=((Km u.aG fun d a=>aa0 (h.aG d a)).app (Km u.aD fun p b=>aa1 (h.aD p b))).app (Yf h)
 have:=this [] [] .nil;simpa[eQ,nm]using this
def iZ(T:List KT):Prop:=∀p∈T,p.1=5->p.2=bP
def iZ.app{S T:List KT}(h:iZ S)(b:iZ T):iZ (S++T):=fun p a=>by
 rcases bC.1 a with a|a
 .exact h p a
 .exact b p a
def iZ.cons{x:KT}{T:List KT}(h:x.1=5->x.2=bP)(b:iZ T):iZ (x::T):=fun p a=>by
 rcases aU.1 a with rfl|a
 .exact h
 .exact b p a
def iZ.nil:iZ []:=fun _ h=>by simp at h
def noE:∀e:Ex,iZ (cw e)
 |.mk k o n m []=>by unfold cw;cases k==7<;>exact .cons (by intro h;simp at h) .nil
 |.mk k o n m [x]=>by
  have:=noE x;unfold cw;cases k==3
  .exact .cons (by intro h;simp at h) (.cons (by intro h;simp at h) this)
  .exact .cons (by intro h;simp at h) this
 |.mk k o n m [x,y]=>by
  have a:=noE x;have b:=noE y;unfold cw;cases k==1
  .cases k==2
   .cases k==4<;>exact a.app (.cons (by intro h;simp at h) b)
   .exact .cons (by intro h;simp at h) (a.app (.cons (by intro h;simp at h) (b.app (.cons (by intro h;simp at h) .nil))))
  .exact .cons (by intro h;simp at h) (a.app (.cons (by intro h;simp at h) (b.app (.cons (by intro h;simp at h) .nil))))
 |.mk k o n m (_::_::_::_)=>by unfold cw;cases k==7<;>exact .cons (by intro h;simp at h) .nil
def AI{α:Type}{t:α->List KT}:∀(l:List α),(∀x∈l,iZ (t x))->iZ (l.flatMap t)
 |[],_=>.nil
 |x::l,h=>by rw[eI];exact(h x aS).app (AI l fun y a=>h y (aP _ a))
def aa3:∀l:List By,iZ (m8 l)
 |[]=>.nil
 |x::t=>.cons (by intro h;simp at h) (AI t fun y _=>.cons (by intro h;simp at h) (.cons (by intro h;simp at h) .nil))
def noA(a:Act):iZ (tJ a):=by
 unfold tJ;refine .cons (by intro h;simp at h) ?_
 cases(bif decide (a.kind>=3)then decide (a.kind<=5)else false)
 .exact .nil
 .exact .cons (by intro h;simp at h) (.cons (by intro h;simp at h) (.cons (by intro h;simp at h) .nil))
def aa4:∀l:List (List KT),(∀T∈l,iZ T)->iZ (m9 l)
 |[],_=>.cons (by intro h;simp at h) (.cons (by intro h;simp at h) .nil)
 |x::l,h=>by
  unfold m9 vi;exact .cons (by intro h;simp at h) (((h x aS).app (AI l fun y a=>.cons (by intro h;simp at h) (h y (aP _ a)))).app (.cons (by intro h;simp at h) .nil))
def noR(r:gC):iZ (xu r):=by
 unfold xu;refine .cons (by intro h;simp at h) (iZ.app ?_ ?_)
 .cases r.params with
  |nil=>exact .nil
  |cons x t=>exact .cons (by intro h;simp at h) ((aa3 _).app (.cons (by intro h;simp at h) .nil))
 .cases r.cond with
  |nil=>exact .nil
  |cons e t=>exact .cons (by intro h;simp at h) ((noE e).app (.cons (by intro h;simp at h) .nil))
def noP(p:dr):iZ (sE p):=by
 unfold sE;cases !(p.use==[])
 .exact(noA _).app (aa4 _ fun T a=>by obtain⟨r,_,rfl⟩:=bg.1 a;exact noR r)
 .exact .cons (by intro h;simp at h) (.cons (by intro h;simp at h) .nil)
def noU(u:eW):iZ (nm u):=by
 unfold nm;refine(AI _ fun d _=>?_).app ((AI _ fun p _=>?_).app ?_)
 .exact .cons (fun _=>rfl) (.cons (by intro h;simp at h) (noE _))
 .exact .cons (by intro h;simp at h) (.cons (by intro h;simp at h) (aa4 _ fun T a=>by obtain⟨x,_,rfl⟩:=bg.1 a;exact noP x))
 .exact .cons (by intro h;simp at h) ((aa3 _).app (.cons (by intro h;simp at h) (noA _)))
def xe{rec:Int->Wv->Option (Except xa Wv)}{l:List Fl}:∀(T:List KT)(sp:Cx)(x:Wv),iZ T->gQ rec l (m7 sp T) false x=some (.ok {x with eX:=x.eX++m7 sp T,stack:=x.stack.dropLast})
 |[],sp,x,_=>by simp[m7,gQ]
 |(k,t)::T,sp,x,h=>by
  simp only[m7];unfold gQ;have a:(bif(k !=5)then true else !(t==iU))=true:=by
   cases hk:k !=5
   .have:k=5:=by simpa using hk
    have:=h (k,t) aS this;have:t=bP:=this;rw[this];rfl
   .rfl
  rw[show(Tok.mk k t 0 sp).kind=k from rfl,show(Tok.mk k t 0 sp).text=t from rfl,a,aj,xe T none _ fun p b=>h p (aP _ b)]
  simp
def UK{u:eW}(h:N1 u)(e:(eQ u).length<=20000):vf [⟨[117],eQ u⟩] [117]=some (u,0,0,some (0,0)):=by
 have b:eY [⟨[117],eQ u⟩] [117]=(0,true):=rfl;obtain⟨sp,a,_⟩:=AH ((eQ u).length+1) (eQ u) (nm u) wP [] (Yg h) (by omega)
 rw[ea]at a;have d:jr (eQ u) 0 = .ok (m7 sp (nm u)):=by
  unfold jr;rw[cf (by omega),af,a]
 have c:m3 [⟨[117],eQ u⟩] [117]=some (.ok (m7 sp (nm u))):=by
  unfold m3;rw[b];simp only[fh,af];rw[ig];simp only[show([⟨[117],eQ u⟩]:List Fl)[Int.toNat 0]?=some ⟨[117],eQ u⟩from rfl,d]
  rw[xe _ _ _ (noU u)];simp
 unfold vf;rw[c];simp only;rw[SG h]
def NQ{t:By}(d:20000<t.length):∃e,vf [⟨[117],t⟩] [117]=some (⟨[],[],[],⟨0,0⟩⟩,e)/\e.1=9:=by
 have a:eY [⟨[117],t⟩] [117]=(0,true):=rfl;have c:jr t 0 = .error (9,wP):=by
  unfold jr;rw[bI (by omega),aj]
 have b:m3 [⟨[117],t⟩] [117]=some (.error (9,0,wP)):=by
  unfold m3;rw[a];simp only[fh,af];rw[ig];simp only[show([⟨[117],t⟩]:List Fl)[Int.toNat 0]?=some ⟨[117],t⟩from rfl,c]
 unfold vf;rw[b];exact⟨_,rfl,rfl⟩
end
mutual
def sF:Ex->Prop|.mk _ _ _ n l=>(0<=n/\n<18446744073709551616)/\NR l
def NR:List Ex->Prop|[]=>True|x::t=>sF x/\NR t
end
structure Rng (u:eW):Prop where
 aG:∀d∈u.aG,sF d.ex
 aD:∀p∈u.aD,∀x∈p.aV,∀r∈x.bj,∀e∈r.cond,sF e
def Fy{e:Ex}(h:eZ e=true)(a:sF e):Prim e:=by
 unfold eZ at h;cases h1:eK e<;>rw[h1]at h
 .cases h2:dQ e<;>rw[h2]at h
  .simp at h
  .obtain⟨n,rfl⟩:=oG h2
   exact .name n h
 .obtain⟨m,rfl⟩:=BW h1
  exact .num m a.1
def Ko:∀(d:Nat)(e:Ex),bJ e<=d->gN e=true->sF e->Ib e
 |0,e,h,_,_=>by rw[cW]at h;omega
 |d+1,e,h,a,c=>by
  obtain⟨k,o,n,m,l⟩:=e;cases hk:k==8
  .rw[xX hk]at a
   exact .Uz (Fy a c)
  .obtain rfl:k=8:=eq_of_beq hk
   cases h2:dH (.mk 8 o n m l)
   .rw[JV h2]at a;simp at a
   .obtain⟨k,x,y,f,-⟩:=mc h2
    simp only[Ex.mk.injEq]at f;obtain⟨rfl,rfl,rfl,rfl,rfl⟩:=f;have g:(bif eZ y then gN x else false)=true:=by
     have:gN (.mk 8 [] [] 0 [x,y])=(bif eZ y then gN x else false):=by simp only[gN,h2];rfl
     rw[<-this];exact a
    obtain⟨i,j⟩:=cd (b:=eZ y) g;exact .bits (Ko d x (by simp only[bJ,cp]at h;omega) j c.2.1) (Fy i c.2.2.1)
def UL{e:Ex}(h:jF e=true)(d:sF e):Fu e:=by
 unfold jF at h;cases h1:dQ e<;>rw[h1]at h
 .cases h2:ia e<;>rw[h2]at h
  .simp at h
  .obtain⟨n,x,rfl⟩:=v7 h2
   obtain⟨a,c⟩:=cd (b:=bK (Ex.mk 6 [] n 0 [x]).name) h;exact .mask n a (Fy c d.2.1)
 .obtain⟨n,rfl⟩:=oG h1
  exact .name n h
def Fz:∀(d:Nat)(e:Ex),bJ e<=d->cz e=true->sF e->Bj e
 |0,e,h,_,_=>by rw[cW]at h;omega
 |d+1,e,h,a,f=>by
  obtain⟨k,o,n,m,l⟩:=e;match l,a,f,h with
  |[],a,_,_=>simp[cz]at a
  |[x],a,f,h=>
   unfold cz at a;obtain⟨j,p⟩:=cd (b:=k==3) a;obtain⟨g,i⟩:=cd (b:=fD (.mk k o n m [x])) p;obtain⟨z,c⟩:=v8 g;simp only[Ex.mk.injEq,tN,and_true]at c;obtain⟨rfl,rfl,rfl,rfl,rfl⟩:=c;exact .not (Fz d x (by simp only[bJ,cp]at h;omega) i f.2.1)
  |[x,y],a,f,h=>
   have w:bJ x<=d:=by simp only[bJ,cp]at h;omega
   have r:bJ y<=d:=by simp only[bJ,cp]at h;omega
   unfold cz at a;cases hk:(bif k==1 then true else k==2)<;>rw[hk]at a
   .simp only[af]at a
    obtain⟨j,p⟩:=cd (b:=k==4) a;obtain⟨g,i⟩:=cd (b:=ib (.mk k o n m [x,y])) p;obtain⟨q,s⟩:=cd (b:=ki o ops) i;obtain⟨u,v⟩:=cd (b:=jF x) s;obtain⟨o',D,E,c⟩:=sb g;simp only[Ex.mk.injEq,tN,and_true]at c;obtain⟨rfl,rfl,rfl,rfl,rfl,rfl⟩:=c;exact .cmp o (by simpa[ki]using q) (UL u f.2.1) (Ko _ y (ar _) v f.2.2.1)
   .simp only[aj]at a
    obtain⟨g,i⟩:=cd (b:=dH (.mk k o n m [x,y])) a;obtain⟨q,s⟩:=cd (b:=cz x) i;obtain⟨G,D,E,c,-⟩:=mc g;simp only[Ex.mk.injEq,tN,and_true]at c;obtain⟨rfl,rfl,rfl,rfl,rfl,rfl⟩:=c;have bx:=Fz d x w q f.2.1;have t:=Fz d y r s f.2.2.1;cases j:k==1<;>rw[j]at hk
    .obtain rfl:k=2:=eq_of_beq hk
     exact .and bx t
    .obtain rfl:k=1:=eq_of_beq j
     exact .or bx t
  |_::_::_::_,a,_,_=>simp[cz]at a
def UM{r:gC}(h:ln r=true)(k:∀e∈r.cond,sF e):Ya r:=by
 unfold ln at h;obtain⟨f,a⟩:=cd (b:=bK r.call) h;cases h3 : !(r.params.all bK)<;>rw[h3]at a
 .simp only[af]at a
  cases c:decide ((r.cond.length:Int)>1)<;>rw[c]at a
  .refine⟨f,fun x l=>bf.1 (show r.params.all bK=true by simpa using h3) x l,?_⟩
   have c:=bH c;have g:=bf.1 a;match hc:r.cond with
   |[]=>exact .inl rfl
   |[e]=>
    have i:=g e (by rw[hc];simp)
    obtain⟨j,d⟩:=cd (b:=cz e) i;have d:=aN d;exact .inr ⟨e,rfl,Fz _ e (ar _) j (k e (by rw[hc];simp)),by omega⟩
   |_::_::_=>rw[hc]at c;simp only[aC]at c;omega
  .simp at a
 .simp at a
def UN{p:dr}(h:kq p=true)(n:∀r∈p.bj,∀e∈r.cond,sF e):S7 p:=by
 unfold kq at h;cases a : !(p.use==[])<;>rw[a]at h
 .have a:p.use=[]:=by simpa using a
  obtain⟨f,g⟩:=cd (b:=(bV p.act).2) h;exact⟨fun i=>(i a).elim,fun _=>f,fun r c=>UM (bf.1 g r c) (n r c)⟩
 .have a:p.use≠[]:=by simpa using a
  obtain⟨f,g⟩:=cd (b:=bK p.use) h;obtain⟨j,m⟩:=cd (b:=((true&&(p.act.kind==0))&&(p.act.data==0))) g;have l:p.bj=[]:=gS.1 (by have:=eq_of_beq m;omega)
  refine⟨fun _=>⟨f,?_,l⟩,fun i=>(a i).elim,fun r c=>by rw[l]at c;simp at c⟩
  simp only[Bool.true_and,bU,beq_iff_eq]at j;obtain⟨use,⟨k,d⟩,bj⟩:=p;obtain⟨rfl,rfl⟩:=j;rfl
def Ms{u:eW}(h:iK u=true)(j:Rng u):N1 u:=by
 unfold iK at h;obtain⟨l,m⟩:=cd (b:=u.aG.all Be) h;obtain⟨n,o⟩:=cd (b:=bif u.aD.all xo then decide ((u.main.length:Int)>0)else false) m;obtain⟨q,f⟩:=cd (b:=u.aD.all xo) n;obtain⟨t,v⟩:=cd (b:=u.main.all bK) o;refine⟨fun d g=>?_,fun p i=>?_,fun e=>by rw[e]at f;simp at f,fun s w=>bf.1 t s w,v⟩
 .obtain⟨a,c⟩:=cd (b:=bK d.name) (bf.1 l d g)
  exact⟨a,Ko _ _ (ar _) c (j.aG d g)⟩
 .obtain⟨a,c⟩:=cd (b:=bK p.name) (bf.1 q p i)
  exact⟨a,fun x k=>UN (bf.1 c x k) (j.aD p i x k)⟩
def Ij:∀(l:List gC)(n m:Int),(∀r∈l,Ya r)->nK l n=some m->∀r∈l,PrR r
 |[],_,_,_,_=>by simp
 |r::t,n,m,g,h=>by
  unfold nK at h;obtain⟨i,h⟩:=vh h;obtain⟨j,h⟩:=vh h;obtain⟨k,h⟩:=vh h;obtain⟨o,-⟩:=vg i;obtain⟨p,-⟩:=vg o;obtain⟨c,d⟩:=vg p;have c:=oR c;have d:=oR d;have v:=Ij t _ m (fun r w=>g r (aP _ w)) h
  intro x b;rcases aU.1 b with rfl|b
  .refine⟨by omega,by omega,sw (by simpa using j),fun e a=>?_⟩
   obtain⟨q,s⟩:=x7 (bf.1 (show x.cond.all qi=true by simpa using k) e a)
   refine⟨?_,s,q⟩;rcases(g x b).cond with f|⟨z,f,u,-⟩<;>rw[f]at a
   .simp at a
   .simp at a;subst a;exact u.g
  .exact v x b
def Ik:∀(l:List dr)(n m:Int),(∀x∈l,S7 x)->nL l n=some m->∀x∈l,PrP x
 |[],_,_,_,_=>by simp
 |p::t,n,m,d,h=>by
  unfold nL at h;obtain⟨b,h⟩:=vh h;obtain⟨c,h⟩:=vh h;have b:=oR b;have c:=oR c;obtain⟨k,f,g⟩:=cI.1 h;have i:=Ik t _ m (fun r j=>d r (aP _ j)) g
  intro x a;rcases aU.1 a with rfl|a
  .have e:=d x aS
   exact⟨by omega,by omega,Ij _ _ _ e.bj f,e.act⟩
  .exact i x a
def Il:∀(l:List dP)(n m:Int),(∀p∈l,∀x∈p.aV,S7 x)->lQ l n=some m->∀p∈l,p.name.length<=60/\p.aV.length<=12/\∀x∈p.aV,PrP x
 |[],_,_,_,_=>by simp
 |p::t,n,m,d,h=>by
  unfold lQ at h;obtain⟨b,h⟩:=vh h;obtain⟨c,h⟩:=vh h;have b:=oR b;have c:=oR c;obtain⟨k,e,f⟩:=cI.1 h;have g:=Il t _ m (fun r i=>d r (aP _ i)) f
  intro x a;rcases aU.1 a with rfl|a
  .exact⟨by omega,by omega,Ik _ _ _ (d x aS) e⟩
  .exact g x a
def Mt{u:eW}(h:wB u=true)(a:N1 u):YB u:=by
 unfold wB at h;cases h1:(bif(bif decide ((u.aG.length:Int)>12)then true else decide ((u.aD.length:Int)>8))then true else decide ((u.main.length:Int)>8))<;>rw[h1]at h
 .obtain⟨i,c⟩:=vg h1
  obtain⟨e,f⟩:=vg i;have c:=oR c;have e:=oR e;have f:=oR f;cases h6 : !u.aG.all Az<;>rw[h6]at h
  .cases h7 : !u.main.all ij<;>rw[h7]at h
   .simp only[af]at h
    obtain⟨m,j⟩:=lT.1 h;refine⟨by omega,fun d g=>?_,by omega,Il _ _ _ (fun p n=>(a.aD p n).2) j,by omega,sw (by simpa using h7),a.act⟩
    obtain⟨k,o⟩:=cd (b:=qi d.ex) (bf.1 (show u.aG.all Az=true by simpa using h6) d g)
    obtain⟨q,s⟩:=x7 k;have t:=sw (l:=[d.name]) (by simp[o]) d.name (by simp)
    exact⟨t,(a.aG d g).2.g,s,q⟩
   .simp at h
  .simp at h
 .simp at h
def Kp(a:List dT)(ps:List By)(e:Ex):dU (sN a ps e).1=1:=by
 have f:∀i o m y,dU (xp a i o m y).1=1:=fun i o m y=>by
  unfold xp;cases(fO a y).2 !=0<;>rfl
 obtain⟨k,o,n,m,l⟩:=e;match l with
 |[]=>rfl
 |[_]=>rfl
 |x::y::t=>
  have e:sN a ps (.mk k o n m (x::y::t))=bif decide (idx (x.name == ·) ps<0)then(zz,7)else
   bif x.kind==6 then(bif(fO a (lZ x 0)).2 !=0 then(zz,(fO a (lZ x 0)).2)else xp a (idx (x.name == ·) ps) (opN o) (fO a (lZ x 0)).1 y)else xp a (idx (x.name == ·) ps) (opN o) 18446744073709551615 y:=rfl
  rw[e];cases decide (idx (x.name == ·) ps<0)
  .cases x.kind==6
   .exact f ..
   .cases(fO a (lZ x 0)).2 !=0
    .exact f ..
    .rfl
  .rfl
def AJ:∀(a b:List Cn),dS (a++b)=dS a+dS b
 |[],b=>by simp[dS]
 |x::a,b=>by simp[dS,AJ a b];omega
mutual
theorem AK(a:List dT)(ps:List By):∀e:Ex,(dU (gF a ps e).1:Int)<=dc e
 |.mk k o n v l=>by
  unfold gF;cases k==4
  .have:=AL a ps l [] (bif k==1 then 4 else bif k==2 then 3 else 2)
   simp only[af,dc];simp[dS]at this;omega
  .have:=Kp a ps (.mk k o n v l)
   have:=kO l;simp only[aj,dc];omega
theorem AL(a:List dT)(ps:List By):∀(l:List Ex)(b:List Cn)(k:Int),(dU (oI a ps l b k).1:Int)<=dS b+cC l+1
 |[],b,k=>by simp[oI,dU,cC]
 |x::t,b,k=>by
  have d:=AK a ps x;have c:=AL a ps t (b++[(gF a ps x).1]) k;have f:=kO t;have g:=et x;unfold oI;rw[AJ]at c;simp only[dS]at c;simp only[cC];cases(gF a ps x).2 !=0
  .simp only[af];omega
  .have:dU zz=1:=rfl
   simp only[aj,this];omega
end
def AM{aq name:By}{c:Cl}(h:fa aq name=some c):0<=c.nr/\c.nr<4294967296:=by
 have b:=kS h;have e:∀j l,∀c∈jZ j l,0<=c.nr/\c.nr<4294967296:=by
  intro j l;induction l with
  |nil=>intro c a;simp[jZ]at a
  |cons r l d=>
   intro c a;unfold jZ at a;cases hz:r.nr j != -1<;>rw[hz]at a
   .exact d c a
   .rcases aU.1 a with rfl|a
    .exact⟨mm _ (by decide),oV _ (by decide)⟩
    .exact d c a
 unfold ra at b;cases hz:decide (idx (aq == ·) mP<0)<;>rw[hz]at b
 .exact e _ lp c b
 .simp at b
def CS{u:eW}{aq:By}{P:Bd->Prop}(a:Act):∀(t:List gC)(d o:List Bd),(∀r∈t,(fH u aq r a).2=0->P (fH u aq r a).1)->(∀b∈d,P b)->j8 u aq a t d = .ok o->∀b∈o,P b
 |[],d,o,_,e,h=>by simp[j8]at h;subst h;exact e
 |r::t,d,o,f,e,h=>by
  unfold j8 at h;cases hz:(fH u aq r a).2 !=0<;>rw[hz]at h
  .refine CS a t _ o (fun r g=>f r (aP _ g)) (fun b c=>?_) h
   rcases bC.1 c with c|c
   .exact e b c
   .simp at c
    subst c;exact f r aS (by simpa using hz)
  .simp at h
def AN{u:eW}{aq:By}{P:Bd->Prop}{n:Nat}:∀(t:List dr)(a o:List Bd),(∀p∈t,p.bj.length<=n/\∀r∈p.bj,(fH u aq r p.act).2=0->P (fH u aq r p.act).1)->(∀b∈a,P b)->kL u aq t a = .ok o->(∀b∈o,P b)/\o.length<=a.length+t.length*n
 |[],a,o,_,c,h=>by simp[kL]at h;subst h;exact⟨c,by simp⟩
 |p::t,a,o,e,c,h=>by
  unfold kL at h;obtain⟨j,f⟩:=e p aS;cases hz:j8 u aq p.act p.bj a<;>rw[hz]at h
  .simp at h
  .rename_i g
   have k:=Hb _ _ _ _ _ _ hz;have d:=AN t g o (fun r i=>e r (aP _ i)) (CS _ _ _ _ f c hz) h
   refine⟨d.1,?_⟩;have:=d.2;simp only[aC,bY,cN];omega
def Im{ps:List dP}{names:List By}{l:List dr}{Q:dr->Prop}(b:∀x,Q x->Q (nV x))(a:∀p∈ps,∀x∈p.aV,x.use=[]->Q x)(h:nG ps names = .ok l):(∀x∈l,Q x)/\l.length<=500:=by
 unfold nG at h;cases hd:J0 ps []<;>rw[hd]at h
 .simp only[af]at h
  cases hz:(gO ps names ⟨[],[],[]⟩).1 !=0<;>rw[hz]at h
  .simp at h
   subst h;have:=rb (Q:=Q) ps a names ⟨[],[],[]⟩ ⟨by simp,by simp,by simp⟩ (by simpa using hz)
   refine⟨fun x c=>?_,by simpa using this.len⟩
   obtain⟨y,d,rfl⟩:=bg.1 c;exact b y (this.eX y d)
  .simp at h
 .simp at h
def Kq{u:eW}{aq:By}{a:List Bd}{Q:dr->Prop}{P:Bd->Prop}{n:Nat}(j:∀x,Q x->Q (nV x))(i:∀p∈u.aD,∀x∈p.aV,x.use=[]->Q x)
  (g:∀p,Q p->p.bj.length<=n/\∀r∈p.bj,(fH u aq r p.act).2=0->P (fH u aq r p.act).1)(h:er u aq = .ok a):(∀b∈a,P b)/\a.length<=500*n:=by
 unfold er at h;cases h1 : !(dg aq).2<;>rw[h1]at h
 .cases h2 : !iK u<;>rw[h2]at h
  .simp only[af]at h
   cases h3:tg u.aG<;>rw[h3]at h
   .simp at h
   .simp only at h
    cases h4:nG u.aD u.main<;>rw[h4]at h
    .simp at h
    .rename_i l
     obtain⟨c,d⟩:=Im j i h4;obtain⟨e,f⟩:=AN (n:=n) (P:=P) l [] a (fun p k=>g p (c p k)) (by simp) h
     have:=dt n d;exact⟨e,by simp at f;omega⟩
  .simp at h
 .simp at h
def CU{u:eW}{aq:By}{r:gC}{a:Act}(d:r.cond.length<=1)(h:(fH u aq r a).2=0):∃c,fa aq r.call=some c/\(dv r c).2=0/\(fH u aq r a).1=⟨c.nr,a,match r.cond with|[]=>.mk 1 0 0 0 0 []|e::_=>(gF u.aG (dv r c).1 e).1⟩/\∀e∈r.cond,(gF u.aG (dv r c).1 e).2=0:=by
 cases h1:fa aq r.call with
 |none=>unfold fH at h;rw[h1]at h;simp at h
 |some c=>
  have g:fH u aq r a=bif(dv r c).2 !=0 then(TX,(dv r c).2)else rh u.aG (dv r c).1 c.nr a r.cond (.mk 1 0 0 0 0 []):=by unfold fH;rw[h1]
  rw[g]at h⊢;cases b:(dv r c).2 !=0<;>rw[b]at h
  .have b:(dv r c).2=0:=by simpa using b
   refine⟨c,rfl,b,?_⟩;rw[af]at h⊢;match hq:r.cond with
   |[]=>exact⟨rfl,by simp⟩
   |[e]=>
    rw[hq]at h;unfold rh at h⊢;cases h3:(gF u.aG (dv r c).1 e).2 !=0<;>rw[h3]at h
    .exact⟨rfl,fun x f=>by simp at f;subst f;simpa using h3⟩
    .rw[aj]at h;rw[h]at h3;simp at h3
   |_::_::_=>rw[hq]at d;simp at d
  .rw[aj]at h;rw[h]at b;simp at b
def Io{u:eW}{aq:By}{i:List Bd}(v:YB u)(w:N1 u)(h:er u aq = .ok i):Uu i:=by
 let Q:dr->Prop:=fun x=>x.bj.length<=12/\∀r∈x.bj,PrR r/\r.cond.length<=1
 let P:Bd->Prop:=fun b=>dU b.cond<=2^10/\0<=b.nr/\b.nr<4294967296
 have t:∀r,Ya r->r.cond.length<=1:=fun r h=>by
  rcases h.cond with e|⟨z,e,-⟩<;>rw[e]<;>simp
 obtain⟨j,y⟩:=Kq (Q:=Q) (P:=P) (n:=12) (fun x h=>h) (fun p l x g _=>by
  obtain⟨-,-,a⟩:=v.aD p l;exact⟨(a x g).rl,fun r d=>⟨(a x g).bj r d,t r (((w.aD p l).2 x g).bj r d)⟩⟩) (fun p k=>⟨k.1,fun r d m=>by
   obtain⟨a,o⟩:=k.2 r d;obtain⟨c,q,-,s,-⟩:=CU o m;rw[s];refine⟨?_,AM q⟩;match hc:r.cond with
   |[]=>exact(by decide:dU (.mk 1 0 0 0 0 [])<=2^10)
   |e::_=>
    have:=AK u.aG (dv r c).1 e;have:=(a.cond e (by rw[hc];simp)).2.2
    simp only;omega⟩) h
 exact⟨by omega,fun b f=>(j b f).1,fun b f=>(j b f).2⟩
def UO(a:Int)(b c d e:Rw)(f g i j k l m n o p q:Int):St:=⟨aM 140 [(1,vN a),(3,.aA 0 0),(5,.aA 1 0),(8,vL 3 b)],[],[.cells [vL 6 c,vL 2 d,vL 1 e,vN f,vN g],K1 i j k l m n o p q]⟩
def A3:bq:={an:=[(1,0,ah),(2,0,ah),(3,4,ah),(3,8,aa),(3,9,aa),(3,12,aa),(3,13,aa),(3,14,aa),(3,15,aa),(5,4,ah),(5,5,ah),(6,4,ah),(6,5,ah),(7,1,ah),(8,1,ah),(9,1,ah),(10,3,aa),(10,4,aa),(10,7,aa),(10,8,aa),(12,5,ah),(12,7,ah),(13,4,ah),(14,3,aa),(14,4,aa),(14,7,aa),(14,8,aa),(14,9,aa),(16,4,ah),(17,3,aa),(17,4,aa),(17,7,aa),(17,8,aa),(17,9,aa),(17,10,aa),(17,11,aa),(17,12,aa)],join:=[(5,{bl:=[1,3,5,8]})]}
def W3(c d e:Rw)(f g a j k l m n o p q s:Int){r h}(H:∃i,ak 6 [] [] [vB i] []/\∃b,ak 7 [vS [120,56,54,95,54,52]] [] [vL 3 b] []/\ay (!i) (ay (bif(bif true then true else(decide (a<0)))then true else(decide (a>=(b.length:Int)))) (Fi r h [vB i] [])
 (Rp f3 5 (UO a b c d e f g j k l m n o p q s) 0 r h)) (∃t,ak 8 [.agg [L 6 c,L 2 d,L 1 e,N f,N g]] [] [vB t] []/\ay (bif(bif(!t)then true else(decide (a<0)))then true else(decide (a>=(b.length:Int)))) (Fi r h [vB i] [])
 (Rp f3 5 (UO a b c d e f g j k l m n o p q s) 0 r h))):
  ak 3 [.agg [L 6 c,L 2 d,L 1 e,N f,N g],vN a,.agg [W j,W k,U l,U m,U n,U o,U p,U q,U s]] [] r h:=.of func3 A3 H
def ajo(a:Int)(b c d e:Rw)(f g i j k l m n o p q:Int){r h}(H:s7 b a fun F a3 a4=>∃T t X u,ak 9 [vS [105,51,56,54],vS F] [] [.agg [S T,W t,L 1 X],vB u] []/\s7 b a fun A a5 a6=>∃Y v Z w,ak 9 [vS [97,97,114,99,104,54,52],vS A] [] [.agg [S Y,W v,L 1 Z],vB w] []/\∃x y,ak 10 [.agg [L 6 c,L 2 d,L 1 e,N f,N g],vS [120,56,54,95,54,52]] [] [vL 1 x,vB y] []/\∃z D,ak 10 [.agg [L 6 c,L 2 d,L 1 e,N f,N g],vS [105,51,56,54]] [] [vL 1 z,vB D] []/\∃E G,ak 10 [.agg [L 6 c,L 2 d,L 1 e,N f,N g],vS [97,97,114,99,104,54,52]] [] [vL 1 E,vB G] []/\ay (bif(bif(!y)then true else(!D))then true else(!u)) (Fi r h [vB true] [])
 (s7 b a fun a7 R a8=>∃s I,ak 11 [vL 1 x,vS [120,56,54,95,54,52],vW R,.agg [W i,W j,U k,U l,U m,U n,U o,U p,U q]] [] [vW s,vB I] []/\∃J K,ak 11 [vL 1 z,vS [105,51,56,54],vW t,.agg [W i,W j,U k,U l,U m,U n,U o,U p,U q]] [] [vW J,vB K] []/\ay (bif(bif(!I)then true else(!K))then true else(s !=J)) (Fi r h [vB false] [])
 (∃M Q,ak 11 [vL 1 E,vS [97,97,114,99,104,54,52],vW v,.agg [W i,W j,U k,U l,U m,U n,U o,U p,U q]] [] [vW M,vB Q] []/\Fi r h [vB (bif(bif(!G)then true else(!w))then true else(bif Q then(M==s)else false))] []))):
  Rp f3 5 (UO a b c d e f g i j k l m n o p q) 0 r h:=xm.of A3 H
def A6:bq:={an:=[(2,1,ah),(3,3,ah),(3,4,ah),(4,3,ah),(4,4,ah),(5,4,aa),(5,5,aa),(5,8,aa),(5,9,aa),(5,12,aa),(5,13,aa),(5,16,aa),(5,17,aa)]}
def W6{r h}(H:∃a b c d,ak 17 [vL 2 [[S [100,47,97],S [35,105,110,99,108,117,100,101,32,34,46,46,47,98,34,10,80,79,76,73,67,89,32,112,32,123,32,85,83,69,32,113,44,32,75,73,76,76,32,123,32,98,114,107,32,125,32,125,32,85,83,69,32,112,32,68,69,70,65,85,76,84,32,69,82,82,78,79,40,49,41]],[S [98],S [35,100,101,102,105,110,101,32,76,79,87,32,49,10,80,79,76,73,67,89,32,113,32,123,32,65,76,76,79,87,32,123,32,119,114,105,116,101,40,102,41,32,123,32,102,32,38,32,51,32,61,61,32,76,79,87,32,124,32,50,32,125,32,125,32,125]]],vS [100,47,97],vS [120,56,54,95,54,52]] [] [vL 1 a,.agg [N b,N c,C d]] []/\∃e,ak 19 [.agg [W 1,W 3221225534,U 0,U 7,U 0,U 0,U 0,U 0,U 0]] [] [vL 1 e] []/\∃f g,ak 18 [vL 1 a,vL 1 e] [] [vW f,vN g] []/\∃i,ak 19 [.agg [W 1,W 3221225534,U 0,U 4,U 0,U 0,U 0,U 0,U 0]] [] [vL 1 i] []/\∃j k,ak 18 [vL 1 a,vL 1 i] [] [vW j,vN k] []/\(((true&&(b==0))&&(c==0))=true->Option.isSome d=true/\Option.isSome (some (0,0))=true)/\Fi r h [vB (bif(bif(bif(bif(((true&&(b==0))&&(c==0))&&YD .f64 d (some (0,0)))then(g==0)else false)then(k==0)else false)then(f==2147418112)else false)then(j==327681)else false)] []):
  ak 6 [] [] r h:=.of func6 A6 H
def A8:bq:={an:=[(1,1,ah),(1,4,ah)]}
def W8(a b c:Rw)(d e:Int){r h}(H:∃f,ak 21 [.agg [L 6 a,L 2 b,L 1 c,N d,N e]] [] [vB f] []/\ay f (∃g,ak 22 [.agg [L 6 a,L 2 b,L 1 c,N d,N e]] [] [vB g] []/\Fi r h [vB g] []) (Fi r h [vB false] [])):
  ak 8 [.agg [L 6 a,L 2 b,L 1 c,N d,N e]] [] r h:=.of func8 A8 H
def A10:bq:={an:=[(1,1,ah),(1,5,ah),(2,5,aa),(2,6,aa),(2,7,aa)]}
def W10(e f g:Rw)(i j:Int)(k:By){r h}(H:∃l,ak 23 [.agg [L 6 e,L 2 f,L 1 g,N i,N j]] [] [vS l] []/\∃a b c d,ak 17 [vL 2 [[S [117],S l]],vS [117],vS k] [] [vL 1 a,.agg [N b,N c,C d]] []/\(((true&&(b==0))&&(c==0))=true->Option.isSome d=true/\Option.isSome (some (0,0))=true)/\Fi r h [vL 1 a,vB (bif(((true&&(b==0))&&(c==0))&&YD .f64 d (some (0,0)))then(decide ((a.length:Int)>0))else false)] []):
  ak 10 [.agg [L 6 e,L 2 f,L 1 g,N i,N j],vS k] [] r h:=.of func10 A10 H
def A11:bq:={an:=[(1,1,ah),(3,2,ah),(3,3,ah)]}
def W11(a:Rw)(b:By)(c p q d e f g i j k:Int){r h}(H:∃l s,ak 15 [vS b] [] [vW l,vB s] []/\∃m,ak 19 [.agg [W c,W l,U d,U e,U f,U g,U i,U j,U k]] [] [vL 1 m] []/\∃n o,ak 18 [vL 1 a,vL 1 m] [] [vW n,vN o] []/\Fi r h [vW n,vB (o==0)] []):
  ak 11 [vL 1 a,vS b,vW c,.agg [W p,W q,U d,U e,U f,U g,U i,U j,U k]] [] r h:=.of func11 A11 H
def SM(u:eW):Bool:=bif NK u then iK u else false
def Wd{u:eW}(h:NK u=true):wB u=true:=(cd (b:=wB u) h).1
def C8(u:eW)(h:H7 u):ak 8 [sC u] [] [vB (SM u)] []:=by
 apply W8;exact⟨_,C21 u h,ae (fun a=>⟨_,C22 u (Ki (Wd a)),ai (by rw[SM,a];rfl) rfl⟩) fun a=>ai (by rw[SM,a];rfl) rfl⟩
structure Kr (u:eW):Prop where
 sm:q8 u
 pr:YB u
 rd:N1 u
 right:iK u=true
def SN{u:eW}(g:Rng u)(f:SM u=true):Kr u:=by
 obtain⟨a,c⟩:=cd (b:=NK u) f;have h:=Ki (Wd a);obtain⟨e,-⟩:=cd (b:=wB u) a;have d:=Ms c g;exact⟨h,Mt e d,d,c⟩
def na(u:eW)(aq:By):Bool:=bif decide (((eQ u).length:Int)>20000)then false else(cQ u aq).2==0
def xv(u:eW)(aq:By):List Int:=bif na u aq then(fw (cQ u aq).1 []).getD []else[]
def Kr.bj{u:eW}(h:Kr u)(aq:By):∀a,er u aq = .ok a->Uu a:=fun _ b=>Io h.pr h.rd b
def NS{u:eW}(h:YB u):(eQ u).length<=2^28:=by
 have v:=h.dl;have w:=h.pl;have g:∀{α:Type}(f:α->By)(n:Nat)(l:List α),(∀x∈l,(f x).length<=n)->(l.flatMap f).length<=l.length*n:=by
  intro α f n l;induction l with
  |nil=>intro _;simp
  |cons x l t=>
   intro c;have:=c x aS;have:=t fun y q=>c y (aP _ q)
   simp only[eI,de,aC,bY,cN];omega
 have i:=g lL 40000 u.aG fun d k=>by
  obtain⟨i,b,a,e⟩:=h.aG d k;have:=dz b a;unfold lL;simp;omega
 have b:=g kf 5000000 u.aD fun p m=>by
  obtain⟨i,b,a⟩:=h.aD p m;have e:=sx 400000 (p.aV.map fR) fun s o=>by
   obtain⟨x,c,rfl⟩:=bg.1 o;exact rH (a x c)
  rw[ao]at e;have j:p.aV.length*(2+400000)<=12*400002:=hF b (ar _);unfold kf;simp;omega
 have a:=mg [44,32] 60 u.main h.main;have e:u.main.length*(2+60)<=8*62:=hF h.ml (ar _);have a:(lx [44,32] u.main).length<=u.main.length*(2+60):=a;have j:=pU u.bZ;have z:u.aG.length*40000<=12*40000:=dt _ v;have r:u.aD.length*5000000<=8*5000000:=dt _ w;unfold eQ kP;simp only[de,aC,cO];omega
def C10(u:eW)(aq:By)(h:Kr u):ak 10 [sC u,vS aq] [] [vL 1 (gJ (xv u aq)),vB (na u aq)] []:=by
 have y:=NS h.pr;have o:YA [⟨[117],eQ u⟩] [117]:=⟨by simp,fun f n=>by simp at n;subst n;exact⟨by simp,y⟩,by simp⟩
 apply W10;refine⟨_,C23 u h.pr h.sm h.right,?_⟩;cases hb:decide (((eQ u).length:Int)>20000)
 .have r:=bH hb
  have k:=UK h.rd (by omega)
  have c:=C17 [⟨[117],eQ u⟩] [117] aq o k fun _=>⟨h.sm,h.bj aq⟩
  have g:na u aq=((cQ u aq).2==0):=by rw[na,hb];rfl
  have a:ji (u,0,0,some (0,0)) aq=bif(cQ u aq).2 !=0 then([],((cQ u aq).2,-1,some (0,0)))else((cQ u aq).1,(0,0,some (0,0))):=rfl;cases hz:(cQ u aq).2 !=0
  .have l:(cQ u aq).2=0:=by simpa using hz
   rw[hz]at a;obtain⟨E,m,-,D⟩:=As (h.bj aq) l;obtain⟨b,p,G⟩:=rF D.chk;have d:pS (u,0,0,some (0,0)) aq=b:=by rw[pS,a];simp only[af];rw[p];rfl
   rw[d,a]at c;have z:xv u aq=b:=by rw[xv,g,l];simp only[beq_self_eq_true,aj];rw[p];rfl
   refine⟨_,_,_,_,c,fun _=>⟨rfl,rfl⟩,ai ?_ rfl⟩
   rw[z,g,l];have:decide (((gJ b).length:Int)>0)=true:=by rw[Ff];exact bI (by omega)
   rw[this];rfl
  .rw[hz]at a
   have d:pS (u,0,0,some (0,0)) aq=[]:=by rw[pS,a];rfl
   rw[d,a]at c;have q:((cQ u aq).2==0)=false:=by simpa using hz
   refine⟨_,_,_,_,c,fun _=>⟨rfl,rfl⟩,ai ?_ rfl⟩
   rw[xv,g,q];show[vL 1 (gJ []),vB (bif(((true&&((cQ u aq).2==0))&&((-1:Int)==0))&&YD .f64 (some (0,0)) (some (0,0)))then decide (((gJ []).length:Int)>0)else false)]=_
   rw[q];rfl
 .have r:=aN hb
  obtain⟨e,k,x⟩:=NQ (t:=eQ u) (by omega)
  obtain⟨s,i,j⟩:=e;obtain rfl:s=9:=x;have c:=C17 [⟨[117],eQ u⟩] [117] aq o k fun v=>by simp at v
  have a:ji ((⟨[],[],[],⟨0,0⟩⟩:eW),(9,i,j)) aq=([],(9,i,j)):=rfl;have d:pS ((⟨[],[],[],⟨0,0⟩⟩:eW),(9,i,j)) aq=[]:=by rw[pS,a];rfl
  rw[d,a]at c;have g:na u aq=false:=by rw[na,hb];rfl
  refine⟨_,_,_,_,c,fun w=>?_,ai ?_ rfl⟩
  .simp at w
  .rw[xv,g];rfl
def UP(d:Da)(aq:By)(nr:Int):Da:={d with nr:=nr,aq:=(dg aq).1}
def Ks{d:Da}(h:Ck d)(aq:By){nr:Int}(a:x5 nr):Ck (UP d aq nr):=⟨a,HV aq,h.ip,h.a0,h.a1,h.a2,h.a3,h.a4,h.a5⟩
def Yh(u:eW)(aq:By)(d:Da)(a:Ck d){nr:Int}(b:x5 nr)(h:na u aq=false):ak 11 [vL 1 (gJ (xv u aq)),vS aq,vW nr,N0 d] [] [vW 0,vB false] []:=by
 have e:xv u aq=[]:=by rw[xv,h];rfl
 rw[e];apply W11;exact⟨_,_,C15 aq,_,C19 (UP d aq nr) (Ks a aq b),_,_,Ux _ (Ks a aq b),fi⟩
def C11(u:eW)(aq:By)(o:Kr u)(h:na u aq=true):∃a m,er u aq = .ok a/\aaQ u aq a m/\∀d nr,Ck d->x5 nr ->
  ak 11 [vL 1 (gJ (xv u aq)),vS aq,vW nr,N0 d] [] [vW (pQ (dV (gd (UP d aq nr)) u.bZ (m2 nr a))),vB true] []:=by
 have q:(cQ u aq).2=0:=by
  unfold na at h;cases hb:decide (((eQ u).length:Int)>20000)<;>rw[hb]at h
  .exact eq_of_beq h
  .simp at h
 obtain⟨a,m,p,c⟩:=As (o.bj aq) q;obtain⟨b,j,s⟩:=rF c.chk;have e:xv u aq=b:=by rw[xv,h,j];rfl
 refine⟨a,m,p,c,fun d nr l i=>?_⟩
 have f:=Ks l aq i;have g:gd (UP d aq nr) 0=nr:=LU f;obtain⟨x,-,-,-,n,k,-⟩:=c.run (gd (UP d aq nr)) (Cu f) (by rw[g];exact i)
 rw[g]at k;rw[e];apply W11;exact⟨_,_,C15 aq,_,C19 (UP d aq nr) f,_,_,C18 j c.chk c.iok _ f k,fi⟩
def G.small{e:Ex}(h:G e):nZ e->tf e:=by
 induction h with
 |num m _=>intro _;exact⟨by simp,by simp,by simp,trivial⟩
 |name n=>intro a;exact⟨by simp,by have:=a.2.1;omega,by simp,trivial⟩
 |mask n _ d=>intro a;exact⟨by simp,by have:=a.2.1;omega,by simp,d a.2.2.1,trivial⟩
 |bits _ _ b c=>intro a;exact⟨by simp,by simp,by simp,b a.2.2.1,c a.2.2.2.1,trivial⟩
 |or _ _ b c=>intro a;exact⟨by simp,by simp,by simp,b a.2.2.1,c a.2.2.2.1,trivial⟩
 |and _ _ b c=>intro a;exact⟨by simp,by simp,by simp,b a.2.2.1,c a.2.2.2.1,trivial⟩
 |not _ d=>intro a;exact⟨by simp,by simp,by simp,d a.2.2.1,trivial⟩
 |cmp o _ _ b c=>intro a;exact⟨by have:=a.1;omega,by simp,by simp,b a.2.2.1,c a.2.2.2.1,trivial⟩
def AO:List Fl:=[⟨[100,47,97],[35,105,110,99,108,117,100,101,32,34,46,46,47,98,34,10,80,79,76,73,67,89,32,112,32,123,32,85,83,69,32,113,44,32,75,73,76,76,32,123,32,98,114,107,32,125,32,125,32,85,83,69,32,112,32,68,69,70,65,85,76,84,32,69,82,82,78,79,40,49,41]⟩,⟨[98],[35,100,101,102,105,110,101,32,76,79,87,32,49,10,80,79,76,73,67,89,32,113,32,123,32,65,76,76,79,87,32,123,32,119,114,105,116,101,40,102,41,32,123,32,102,32,38,32,51,32,61,61,32,76,79,87,32,124,32,50,32,125,32,125,32,125]⟩]
def SO:Ex:=.mk 4 [61,61] [] 0 [.mk 6 [] [102] 0 [.mk 7 [] [] 3 []],.mk 8 [] [] 0 [.mk 5 [] [76,79,87] 0 [],.mk 7 [] [] 2 []]]
def fG:eW:=⟨[⟨[76,79,87],.mk 7 [] [] 1 []⟩],[⟨[113],[⟨[],⟨7,0⟩,[⟨[119,114,105,116,101],[[102]],[SO]⟩]⟩]⟩,⟨[112],[⟨[113],⟨0,0⟩,[]⟩,⟨[],⟨2,0⟩,[⟨[98,114,107],[],[]⟩]⟩]⟩],[[112]],⟨4,1⟩⟩
abbrev n5:By:=[120,56,54,95,54,52]
def Kt:vf AO [100,47,97]=some (fG,0,0,some (0,0)):=by kernel_rfl
def NT:Rng fG:=⟨fun d f=>by simp[fG]at f;subst f;simp[sF,NR],fun p g x b r a e c=>by
 simp[fG]at g;rcases g with rfl|rfl
 .simp at b;subst b;simp at a;subst a;simp at c;subst c;simp[SO,sF,NR]
 .simp at b;rcases b with rfl|rfl
  .simp at a
  .simp at a;subst a;simp at c⟩
def AP:N1 fG:=Ms (by kernel_rfl) NT
def vk:YB fG:=Mt (by kernel_rfl) AP
def SP:q8 fG:=⟨by simp[fG],fun d k=>by
  obtain⟨u,i,c,-⟩:=vk.aG d k;exact⟨by omega,i.small c⟩,by simp[fG],fun p l=>by
  obtain⟨u,i,c⟩:=vk.aD p l;refine⟨by omega,by omega,fun x n=>?_⟩
  have g:=c x n;have v:=g.use;have w:=g.rl;refine⟨by omega,by omega,fun r m=>?_⟩
  have b:=g.bj r m;have y:=b.call;have h:=b.pl;have o:=((AP.aD p l).2 x n).bj r m;refine⟨by omega,by omega,fun s f=>by have:=b.params s f;omega,?_,fun e a=>?_⟩
  .rcases o.cond with e|⟨z,e,-⟩<;>rw[e]<;>simp
  .obtain⟨q,t,-⟩:=b.cond e a
   refine⟨q.small t,?_⟩;rcases o.cond with j|⟨z,j,-,k⟩<;>rw[j]at a
   .simp at a
   .simp at a;subst a;omega,by simp[fG],fun s f=>by have:=vk.main s f;omega⟩
def AQ(nr ac a:Int):Int:=match er fG n5 with
 |.ok b=>pQ (dV (gd ⟨nr,ac,0,a,0,0,0,0,0⟩) fG.bZ (m2 nr b))
 |.error _=>0
def C6:ak 6 [] [] [vB true] []:=by
 have h:YA AO [100,47,97]:=⟨by simp[AO],fun f q=>by simp[AO]at q;rcases q with rfl|rfl<;>simp,by simp⟩
 have w:∀g,er fG n5 = .ok g->Uu g:=fun _ l=>Io vk AP l
 have c:=C17 AO [100,47,97] n5 h Kt fun _=>⟨SP,w⟩
 have s:(cQ fG n5).2=0:=by kernel_rfl
 obtain⟨g,m,l,k⟩:=As w s;obtain⟨b,v,E⟩:=rF k.chk;have o:ji (fG,0,0,some (0,0)) n5=((cQ fG n5).1,(0,0,some (0,0))):=by
  show(bif(cQ fG n5).2 !=0 then([],((cQ fG n5).2,-1,some (0,0)))else((cQ fG n5).1,(0,0,some (0,0))))=_
  rw[s];rfl
 have z:pS (fG,0,0,some (0,0)) n5=b:=by rw[pS,o];simp only;rw[v];rfl
 rw[z,o]at c;have u:∀a:Int,0<=a->a<100->Ck ⟨1,3221225534,0,a,0,0,0,0,0⟩:=fun a i j=>by constructor<;>simp<;>omega
 have t:∀a:Int,0<=a->a<100->ak 18 [vL 1 (gJ b),vL 1 (gJ (m1 ⟨1,3221225534,0,a,0,0,0,0,0⟩))] [] [vW (AQ 1 3221225534 a),vN 0] []:=fun a i j=>by
  have d:=u a i j;have p:gd ⟨1,3221225534,0,a,0,0,0,0,0⟩ 0=1:=LU d;obtain⟨x,-,-,-,n,y,-⟩:=k.run (gd ⟨1,3221225534,0,a,0,0,0,0,0⟩) (Cu d) (by rw[p];exact⟨by decide,by decide⟩)
  rw[p]at y;have e:AQ 1 3221225534 a=pQ (dV (gd ⟨1,3221225534,0,a,0,0,0,0,0⟩) fG.bZ (m2 1 g)):=by unfold AQ;rw[l]
  rw[e];exact C18 v k.chk k.iok _ d y
 have d:∀a:Int,0<=a->a<100->ak 19 [N0 ⟨1,3221225534,0,a,0,0,0,0,0⟩] [] [vL 1 (gJ (m1 ⟨1,3221225534,0,a,0,0,0,0,0⟩))] []:=fun a i j=>
  C19 _ (u a i j)
 have D:AQ 1 3221225534 7=2147418112:=by kernel_rfl
 have r:AQ 1 3221225534 4=327681:=by kernel_rfl
 apply W6;refine⟨_,_,_,_,c,_,d 7 (by decide) (by decide),_,_,t 7 (by decide) (by decide),_,d 4 (by decide) (by decide),_,_,t 4 (by decide) (by decide),fun _=>⟨rfl,rfl⟩,ai ?_ rfl⟩
 rw[D,r];rfl
def vl(h:Hf):Prop:=0<=h.arg/\h.arg<6
def NU(a:At):∀c∈dM a,∀h∈c,vl h:=by
 have j:∀b o,(mR a b o).arg=a.arg:=fun b o=>by unfold mR;cases b<;>rfl
 cases hm:sD a.arg a.op
 .unfold dM;rw[hm];simp
 .have i:0<=a.arg/\a.arg<6:=by
   simp[sD,cond_eq_ite]at hm;omega
  have f:∀b o,vl (mR a b o):=fun b o=>by unfold vl;rw[j];exact i
  have g:∀s,∀c∈l4 a s,∀h∈c,vl h:=by
   intro s c e h d;simp only[l4,aU,jN,or_false]at e;rcases e with rfl|rfl<;>simp at d
   .subst d;exact f _ _
   .rcases d with rfl|rfl<;>exact f _ _
  unfold dM;rw[hm];simp only[fh,af];cases a.op==1
  .cases a.op==2
   .cases a.op==6
    .cases a.op==4
     .exact g _
     .exact g _
    .exact g _
   .intro c e h d
    simp at e;rcases e with rfl|rfl<;>simp at d<;>subst d<;>exact f _ _
  .intro c e h d
   simp at e;subst e;simp at d;rcases d with rfl|rfl<;>exact f _ _
def Ku(c:Cn):∀d∈(cj c).1,∀h∈d,vl h:=w9 c fun _ _ a _=>NU a
def NV{d a:Da}{h:Hf}(f:vl h)(c:d.arg h.arg.toNat=a.arg h.arg.toNat):gd d (z1 h)=gd a (z1 h):=by
 obtain⟨b,i⟩:=f;have g:z1 h=bif h.high then 16+8*(h.arg.toNat:Int)+4 else 16+8*(h.arg.toNat:Int):=by
  have e:(h.arg.toNat:Int)=h.arg:=Int.toNat_of_nonneg b;rw[e];unfold z1 xq;cases h.high<;>simp[IntKind.wrap,IntKind.signed,IntKind.bits]<;>omega
 rw[g,HS d _ (by omega) h.high,HS a _ (by omega) h.high,c]
def UQ{d a:Da}{h:Hf}(c:vl h)(b:d.arg h.arg.toNat=a.arg h.arg.toNat):Iv (gd d) h=Iv (gd a) h:=by
 have e:=NV c b;unfold Iv u6;rw[e]
def SQ{α:Type}{p q:α->Bool}:∀{l:List α},(∀x∈l,p x=q x)->l.all p=l.all q
 |[],_=>rfl
 |x::l,h=>by rw[bE,bE,h x aS,SQ fun y a=>h y (aP _ a)]
def SR{α:Type}{p q:α->Bool}:∀{l:List α},(∀x∈l,p x=q x)->l.any p=l.any q
 |[],_=>rfl
 |x::l,h=>by rw[iP,iP,h x aS,SR fun y a=>h y (aP _ a)]
def CV{d b:Da}{a:Act}:∀{l:List Sp},(∀s∈l,∀c∈s.cl,∀h∈c,vl h/\d.arg h.arg.toNat=b.arg h.arg.toNat)->dV (gd d) a l=dV (gd b) a l
 |[],_=>rfl
 |s::l,h=>by
  have e:z7 (gd d) s.cl=z7 (gd b) s.cl:=SR fun c i=>SQ fun x k=>by
   obtain⟨f,g⟩:=h s aS c i x k;exact UQ f g
  unfold dV;rw[e,CV fun s j=>h s (aP _ j)]
structure Ab where
 name:By
 act:Act
 cond:Cn
def Kv(name:By):List By:=match lp.find? fun r=>r.name==name with
 |none=>[]
 |some r=>je r.params
def numOf(aq name:By):Int:=((fa aq name).map (·.nr)).getD 0
def abR(u:eW)(r:gC)(a:Act):Ab:=⟨r.call,a,match r.cond with|[]=>.mk 1 0 0 0 0 []|e::_=>(gF u.aG (r.params++(Kv r.call).drop r.params.length) e).1⟩
def YC(u:eW)(p:dr):List Ab:=p.bj.map fun r=>abR u r p.act
def abL(u:eW):List Ab:=match nG u.aD u.main with
 |.error _=>[]
 |.ok l=>l.flatMap (YC u)
def Kw(aq:By)(x:Ab):Bd:=⟨numOf aq x.name,x.act,x.cond⟩
def SS:∀r∈lp,Kv r.name=je r.params:=by decide
def CW{aq name:By}{c:Cl}(h:fa aq name=some c):c.name=name/\c.params=Kv name:=by
 have b:=kS h;have d:=ql h;have d:c.name=name:=by simpa using d
 refine⟨d,?_⟩;have f:∀j l,∀c∈jZ j l,∃r∈l,c.name=r.name/\c.params=je r.params:=by
  intro j l;induction l with
  |nil=>intro c a;simp[jZ]at a
  |cons r l g=>
   intro c a;have k:(∃r∈l,c.name=r.name/\c.params=je r.params)->∃e∈r::l,c.name=e.name/\c.params=je e.params:=fun⟨e,b,f⟩=>⟨e,aP _ b,f⟩
   unfold jZ at a;cases hz:r.nr j != -1<;>rw[hz]at a
   .exact k (g c a)
   .rcases aU.1 a with rfl|a
    .exact⟨r,aS,rfl,rfl⟩
    .exact k (g c a)
 unfold ra at b;cases hz:decide (idx (aq == ·) mP<0)<;>rw[hz]at b
 .obtain⟨r,n,i,m⟩:=f _ lp c b
  rw[m,<-SS r n,<-i,d]
 .simp at b
def SU{u:eW}{aq:By}{r:gC}{a:Act}(g:r.cond.length<=1)(h:(fH u aq r a).2=0):(fH u aq r a).1=Kw aq (abR u r a)/\(fa aq r.call).isSome=true:=by
 obtain⟨c,d,b,e,-⟩:=CU g h;obtain⟨-,f⟩:=CW d;refine⟨?_,by rw[d];rfl⟩
 have i:(dv r c).1=r.params++c.params.drop r.params.length:=by
  unfold dv at b⊢;cases hz:decide ((r.params.length:Int)>(c.params.length:Int))<;>rw[hz]at b
  .cases hy:Bg r.params []<;>rw[hy]at b
   .rfl
   .simp at b
  .simp at b
 rw[e,i,f];unfold Kw abR numOf;simp only[d];rfl
def Ip{u:eW}{aq:By}{a:Act}:∀(t:List gC)(b o:List Bd),(∀r∈t,r.cond.length<=1)->j8 u aq a t b = .ok o->o=b++(t.map fun r=>abR u r a).map (Kw aq)/\∀r∈t,(fa aq r.call).isSome=true
 |[],b,o,_,h=>by simp[j8]at h;simp[h]
 |r::t,b,o,d,h=>by
  unfold j8 at h;cases hz:(fH u aq r a).2 !=0<;>rw[hz]at h
  .obtain⟨e,f⟩:=SU (d r aS) (by simpa using hz)
   obtain⟨g,i⟩:=Ip t _ o (fun r j=>d r (aP _ j)) h
   refine⟨by rw[g,e];simp,fun x c=>?_⟩
   rcases aU.1 c with rfl|c
   .exact f
   .exact i x c
  .simp at h
def CX{u:eW}{aq:By}:∀(t:List dr)(b o:List Bd),(∀p∈t,∀r∈p.bj,r.cond.length<=1)->kL u aq t b = .ok o->o=b++(t.flatMap (YC u)).map (Kw aq)/\∀x∈t.flatMap (YC u),(fa aq x.name).isSome=true
 |[],b,o,_,h=>by simp[kL]at h;simp[h]
 |p::t,b,o,c,h=>by
  unfold kL at h;cases hz:j8 u aq p.act p.bj b<;>rw[hz]at h
  .simp at h
  .rename_i i
   obtain⟨d,e⟩:=Ip _ _ _ (c p aS) hz;obtain⟨f,g⟩:=CX t i o (fun r j=>c r (aP _ j)) h
   refine⟨by rw[f,d];simp[YC],fun x a=>?_⟩
   rcases bC.1 (show x∈YC u p++t.flatMap (YC u)from a)with a|a
   .obtain⟨r,k,rfl⟩:=bg.1 a
    exact e r k
   .exact g x a
def SV{u:eW}{aq:By}{a:List Bd}(j:N1 u)(h:er u aq = .ok a):a=(abL u).map (Kw aq)/\∀x∈abL u,(fa aq x.name).isSome=true:=by
 have g:∀r,Ya r->r.cond.length<=1:=fun r h=>by
  rcases h.cond with e|⟨z,e,-⟩<;>rw[e]<;>simp
 unfold er at h;cases h1 : !(dg aq).2<;>rw[h1]at h
 .cases h2 : !iK u<;>rw[h2]at h
  .simp only[af]at h
   cases h3:tg u.aG<;>rw[h3]at h
   .simp at h
   .simp only at h
    unfold abL;cases h4:nG u.aD u.main<;>rw[h4]at h
    .simp at h
    .rename_i l
     simp only at h⊢;obtain⟨c,-⟩:=Im (Q:=fun x=>∀r∈x.bj,r.cond.length<=1) (fun x b=>b) (fun p i x b _ r k=>g r (((j.aD p i).2 x b).bj r k)) h4
     obtain⟨d,f⟩:=CX l [] a c h;exact⟨by rw[d];rfl,f⟩
  .simp at h
 .simp at h
abbrev n9:List By:=[[120,56,54,95,54,52],[105,51,56,54],[97,97,114,99,104,54,52]]
def UR:∀aq∈n9,∀c∈ra aq,∀a∈ra aq,c.nr=a.nr->c.name=a.name:=by decide
def Mu{aq name:By}(h:(fa aq name).isSome=true):∃c∈ra aq,c.name=name/\numOf aq name=c.nr:=by
 obtain⟨c,a⟩:=lT.1 h;refine⟨c,kS a,(CW a).1,?_⟩;unfold numOf;rw[a];rfl
def vm(u:eW)(name:By):List Sp:=((abL u).filter fun x=>name==x.name).map fun x=>⟨(cj x.cond).1,x.act⟩
def NW{u:eW}{aq:By}{g:List Bd}(s:aq∈n9)(v:N1 u)(h:er u aq = .ok g){name:By}(t:(fa aq name).isSome=true):m2 (numOf aq name) g=vm u name:=by
 obtain⟨f,q⟩:=SV v h;have e:∀x∈abL u,(numOf aq name==numOf aq x.name)=(name==x.name):=fun x w=>by
  obtain⟨c,i,j,m⟩:=Mu t;obtain⟨d,n,o,p⟩:=Mu (q x w);cases hb:name==x.name
  .rw[fo]at hb⊢
   intro b;exact hb (by rw[<-j,<-o];exact UR aq s c i d n (by rw[<-m,<-p];exact b))
  .have:=eq_of_beq hb
   rw[this];simp
 have k:∀l:List Ab,(∀x∈l,(numOf aq name==numOf aq x.name)=(name==x.name))->m2 (numOf aq name) (l.map (Kw aq))=(l.filter fun x=>name==x.name).map fun x=>⟨(cj x.cond).1,x.act⟩:=by
  intro l;induction l with
  |nil=>intro _;rfl
  |cons x l a=>
   intro b;have f:=b x aS;have a:=a fun y z=>b y (aP _ z)
   unfold m2 at a⊢;rw[bB,tO,tO];have:(numOf aq name==(Kw aq x).nr)=(name==x.name):=f;rw[this];cases name==x.name
   .exact a
   .simp only[if_true,bB,a];rfl
 rw[f,k _ e];rfl
def SW(u:eW)(name:By):∀s∈vm u name,∀c∈s.cl,∀h∈c,vl h:=fun s d c a h b=>by
 obtain⟨x,_,rfl⟩:=bg.1 d;exact Ku x.cond c a h b
def AR:∀aq∈n9,iM aq=ra aq:=fun aq a=>by
 simp only[n9,aU,jN,or_false]at a;rcases a with rfl|rfl|rfl<;>kernel_rfl
def CY{aq:By}(a:aq∈n9)(name:By):Mi aq name=fa aq name:=by
 unfold Mi fa;rw[AR aq a]
def Kx:∀aq∈n9,∀c∈ra aq,numOf aq c.name=c.nr/\(fa aq c.name).isSome=true:=by decide
def aa7{aq name:By}(h:(fa aq name).isSome=true):x5 (numOf aq name):=by
 obtain⟨c,a⟩:=lT.1 h;unfold numOf;rw[a];exact AM a
def ajq(u:eW)(d:Da)(name:By):Int:=pQ (dV (gd (UP d [] 0)) u.bZ (vm u name))
def AS(u:eW){aq:By}(f:aq∈n9)(a:Kr u)(h:na u aq=true){name:By}(b:(fa aq name).isSome=true)(d:Da)(i:Ck d):
  ak 11 [vL 1 (gJ (xv u aq)),vS aq,vW (numOf aq name),N0 d] [] [vW (ajq u d name),vB true] []:=by
 obtain⟨n,m,k,o,H⟩:=C11 u aq a h;have c:=H d (numOf aq name) i (aa7 b);rw[NW f a.rd k b]at c;have e:dV (gd (UP d aq (numOf aq name))) u.bZ (vm u name)=dV (gd (UP d [] 0)) u.bZ (vm u name):=CV fun s l c g h j=>⟨SW u name s l c g h j,rfl⟩
 rw[e]at c;exact c
def J3(u:eW)(a:Kr u)(g:Int)(d:Da)(e:Ck d)(Y:0<=g)(z:g<(((iM [120,56,54,95,54,52]).map Cl.row).length:Int)):
  Rp f3 5 (UO g ((iM [120,56,54,95,54,52]).map Cl.row) (u.aG.map dT.row) (u.aD.map dP.row) (aR u.main) u.bZ.kind u.bZ.data d.nr d.aq d.ip d.a0 d.a1 d.a2 d.a3 d.a4 d.a5) 0 [vB true] []:=by
 have i:([120,56,54,95,54,52]:By)∈n9:=by simp
 have k:([105,51,56,54]:By)∈n9:=by simp
 have l:([97,97,114,99,104,54,52]:By)∈n9:=by simp
 obtain⟨n,rfl⟩:∃n:Nat,g=n:=⟨g.toNat,by omega⟩
 rw[ao]at z;obtain⟨c,o⟩:∃c,(iM [120,56,54,95,54,52])[n]?=some c:=⟨_,bk (by omega)⟩
 have v:=aK o;rw[AR _ i]at v;obtain⟨Q,T⟩:=Kx _ i c v;have j:((iM [120,56,54,95,54,52]).map Cl.row)[Int.toNat (n:Int)]?=some [S c.name,W c.nr,L 1 (aR c.params)]:=aY o;apply ajo;refine⟨_,_,_,by omega,j,?_⟩
 refine⟨_,_,_,_,C9 [105,51,56,54] c.name,_,_,_,by omega,j,?_⟩
 refine⟨_,_,_,_,C9 [97,97,114,99,104,54,52] c.name,_,_,C10 u _ a,_,_,C10 u _ a,_,_,C10 u _ a,?_⟩;rw[CY k,CY l];refine ae (fun _=>fi) fun h=>⟨_,_,_,by omega,j,?_⟩
 obtain⟨I,J⟩:=vg (b:=bif(!na u [120,56,54,95,54,52])then true else(!na u [105,51,56,54])) h;obtain⟨K,M⟩:=vg I;have E:na u [120,56,54,95,54,52]=true:=by simpa using K
 have G:na u [105,51,56,54]=true:=by simpa using M
 have t:(fa [105,51,56,54] c.name).isSome=true:=by simpa using J
 have p:=AS u i a E T d e;rw[Q]at p;have q:=AS u k a G t d e;have w:numOf [105,51,56,54] c.name=((fa [105,51,56,54] c.name).getD ⟨[],0,[]⟩).nr:=by
  obtain⟨x,f⟩:=lT.1 t;unfold numOf;rw[f];rfl
 rw[w]at q;refine⟨_,_,p,_,_,q,aW (by simp) ?_⟩
 cases o5:na u [97,97,114,99,104,54,52]
 .have D:x5 ((fa [97,97,114,99,104,54,52] c.name).getD ⟨[],0,[]⟩).nr:=by
   cases f:fa [97,97,114,99,104,54,52] c.name with
   |none=>exact⟨by decide,by decide⟩
   |some x=>exact AM f
  exact⟨_,_,Yh u _ d e D o5,ai rfl rfl⟩
 .cases s5:(fa [97,97,114,99,104,54,52] c.name).isSome
  .obtain⟨X,m,-,-,H⟩:=C11 u _ a o5
   have r:fa [97,97,114,99,104,54,52] c.name=none:=by simpa using s5
   rw[r];exact⟨_,_,H d 0 e ⟨by decide,by decide⟩,ai rfl rfl⟩
  .have s:=AS u l a o5 s5 d e
   have y:numOf [97,97,114,99,104,54,52] c.name=((fa [97,97,114,99,104,54,52] c.name).getD ⟨[],0,[]⟩).nr:=by
    obtain⟨x,f⟩:=lT.1 s5;unfold numOf;rw[f];rfl
   rw[y]at s;exact⟨_,_,s,ai (by simp) rfl⟩
def C3(u:eW)(g:H7 u)(f:Rng u)(a:Int)(d:Da)(c:Ck d):ak 3 [sC u,vN a,N0 d] [] [vB true] []:=by
 apply W3;refine⟨_,C6,_,C7 _,aW rfl ⟨_,C8 u g,ae (fun _=>fi) fun e=>?_⟩⟩
 obtain⟨i,j⟩:=vg (b:=bif(!SM u)then true else(decide (a<0))) e;obtain⟨k,l⟩:=vg i;have m:=bH l;have n:=bH j;exact J3 u (SN f (by simpa using k)) a d c (by omega) (by omega)
def isN(p:List PV):Prop:=∃n,p=[N n]
def US(p:List PV):Prop:=∃n,(0<=n/\n<18446744073709551616)/\p=[U n]
def Yi(p:List PV):Prop:=∃n,(0<=n/\n<4294967296)/\p=[W n]
def Yj(p:List PV):Prop:=∃s,p=[S s]
def Ky(p:List PV):Prop:=∃l:List By,l.length<=2^47/\p=[L 1 (aR l)]
def SX(p:List PV):Prop:=∃a:Act,p=[N a.kind,N a.data]
section
variable {WW:World}
def Mv(m:Nat):bD Tryz.prog WW m 3 isN:=(bD.int Tryz.underlying3).mono fun _⟨n,_,h⟩=>⟨n,h⟩
def SY(m:Nat):bD Tryz.prog WW m 30 US:=(bD.int Tryz.underlying30).mono fun _⟨n,a,h⟩=>⟨n,by simp[bh,IntKind.min,IntKind.max,IntKind.signed,IntKind.bits]at a;omega,h⟩
def SZ(m:Nat):bD Tryz.prog WW m 29 Yi:=(bD.int Tryz.underlying29).mono fun _⟨n,a,h⟩=>⟨n,by simp[bh,IntKind.min,IntKind.max,IntKind.signed,IntKind.bits]at a;omega,h⟩
def AT(m:Nat):bD Tryz.prog WW m 9 Yj:=bD.string Tryz.underlying9
def Mw{α:Type}{f:α->List PV}{K:α->Prop}:∀(a:List (List PV)),(∀r∈a,∃x,r=f x/\K x)->∃l:List α,a=l.map f/\∀x∈l,K x
 |[],_=>⟨[],rfl,by simp⟩
 |r::a,h=>by
  obtain⟨x,rfl,e⟩:=h r aS;obtain⟨l,rfl,c⟩:=Mw a fun q d=>h q (aP _ d)
  exact⟨x::l,rfl,fun y b=>by rcases aU.1 b with rfl|b;exact e;exact c y b⟩
def pW{α:Type}{f:α->List PV}{K:α->Prop}{t e:TypeId}{n m:Nat}(s:Tryz.prog.underlying t=some (.slice e))(o:Tryz.prog.cellsOf e=n)(g:1<=Tryz.prog.bytesOf e)(b:0<n)(j:∀x,(f x).length=n)
  (q:∀k,k<m->bD Tryz.prog WW k e fun p=>∃x,p=f x/\K x):bD Tryz.prog WW m t fun p=>∃l:List α,(l.length<=2^47/\∀x∈l,K x)/\p=[L n (l.map f)]:=
 (bD.slice s o b q fun p⟨x,u,_⟩=>by rw[u,j]).mono fun p⟨v,c,d,_,a⟩=>by
  obtain⟨l,rfl,i⟩:=Mw v d;have:(l.map f).length*1<=(l.map f).length*Tryz.prog.bytesOf e:=Nat.mul_le_mul_left _ g;rw[ao]at this a;exact⟨l,⟨by unfold reachBytes at a;omega,i⟩,c⟩
def Iq(m:Nat):bD Tryz.prog WW m 24 Ky:=
 (pW (f:=Gq) (K:=fun _=>True) Tryz.underlying24 (by kernel_rfl) (aN (by kernel_rfl)) (by decide) (fun _=>rfl) fun k _=>(AT k).mono fun _⟨s,h⟩=>⟨s,h,trivial⟩).mono fun p⟨l,a,b⟩=>⟨l,a.1,b⟩
def Mx(m:Nat):bD Tryz.prog WW m 26 SX:=
 (bD.nx (Qs:=[isN,isN]) Tryz.underlying26 rfl (by kernel_rfl) fun m _ i f Q c d=>by
  match i with
  |0=>simp at c d;subst c;subst d;exact Mv m
  |1=>simp at c d;subst c;subst d;exact Mv m
  |i+2=>simp at c).mono fun p⟨_,_,e,⟨a,g⟩,_,_,j,⟨b,k⟩,l⟩=>⟨⟨a,b⟩,by subst l;subst k;subst j;subst g;subst e;rfl⟩
def Yk(e:Ex):Prop:=sF e/\Fp e
def We:∀{l:List Ex},(∀x∈l,Yk x)->NR l/\NJ l
 |[],_=>⟨trivial,trivial⟩
 |x::t,h=>by
  obtain⟨a,b⟩:=h x aS;obtain⟨c,d⟩:=We fun y e=>h y (aP _ e)
  unfold NR NJ;exact⟨⟨a,c⟩,b,d⟩
def tL(e:Ex):e.row.length=5:=by cases e;rfl
def S0:∀(fuel:Nat),bD Tryz.prog WW fuel 123 fun p=>∃e:Ex,p=e.row/\Yk e:=by
 intro fuel;induction fuel using Nat.strongRecOn with
 |_ fuel s=>
  refine(bD.nx (Qs:=[isN,Yj,Yj,US,fun p=>∃l:List Ex,(l.length<=2^47/\∀x∈l,Yk x)/\p=[L 5 (l.map Ex.row)]]) Tryz.underlying123 rfl (by kernel_rfl) fun m t i f Q a b=>?_).mono fun p h=>?_
  .match i with
   |0=>simp at a b;subst a;subst b;exact Mv m
   |1=>simp at a b;subst a;subst b;exact AT m
   |2=>simp at a b;subst a;subst b;exact AT m
   |3=>simp at a b;subst a;subst b;exact SY m
   |4=>simp at a b;subst a;subst b;exact pW Tryz.underlying97 (by kernel_rfl) (aN (by kernel_rfl)) (by decide) tL fun k c=>s k (by omega)
   |i+5=>simp at a
  .obtain⟨_,_,rfl,⟨k,rfl⟩,_,_,rfl,⟨o,rfl⟩,_,_,rfl,⟨n,rfl⟩,_,_,rfl,⟨v,q,rfl⟩,_,_,rfl,⟨l,⟨j,c⟩,rfl⟩,rfl⟩:=h
   obtain⟨d,g⟩:=We c;refine⟨.mk k o n v l,by rw[Ex.row,db];rfl,?_,?_⟩
   .unfold sF;exact⟨q,d⟩
   .unfold Fp;exact⟨j,g⟩
def UT(m:Nat):bD Tryz.prog WW m 97 fun p=>∃l:List Ex,(l.length<=2^47/\∀x∈l,Yk x)/\p=[L 5 (l.map Ex.row)]:=
 pW Tryz.underlying97 (by kernel_rfl) (aN (by kernel_rfl)) (by decide) tL fun k _=>S0 k
def aa8(d:dT):Prop:=Yk d.ex
def UU(m:Nat):bD Tryz.prog WW m 125 fun p=>∃d:dT,p=d.row/\aa8 d:=
 (bD.nx (Qs:=[Yj,fun p=>∃e:Ex,p=e.row/\Yk e]) Tryz.underlying125 rfl (by kernel_rfl) fun m _ i f Q a b=>by
  match i with
  |0=>simp at a b;subst a;subst b;exact AT m
  |1=>simp at a b;subst a;subst b;exact S0 m
  |i+2=>simp at a).mono fun p h=>by
 obtain⟨_,_,rfl,⟨s,rfl⟩,_,_,rfl,⟨e,rfl,c⟩,rfl⟩:=h;exact⟨⟨s,e⟩,by simp[dT.row],c⟩
def aa9(r:gC):Prop:=V9 r/\∀e∈r.cond,sF e
def UW(m:Nat):bD Tryz.prog WW m 99 fun p=>∃r:gC,p=r.row/\aa9 r:=
 (bD.nx (Qs:=[Yj,Ky,fun p=>∃l:List Ex,(l.length<=2^47/\∀x∈l,Yk x)/\p=[L 5 (l.map Ex.row)]]) Tryz.underlying99 rfl (by kernel_rfl) fun m _ i f Q a b=>by
  match i with
  |0=>simp at a b;subst a;subst b;exact AT m
  |1=>simp at a b;subst a;subst b;exact Iq m
  |2=>simp at a b;subst a;subst b;exact UT m
  |i+3=>simp at a).mono fun p h=>by
 obtain⟨_,_,rfl,⟨s,rfl⟩,_,_,rfl,⟨ps,j,rfl⟩,_,_,rfl,⟨l,⟨g,d⟩,rfl⟩,rfl⟩:=h;exact⟨⟨s,ps,l⟩,rfl,⟨j,g,fun e c=>(d e c).2⟩,fun e c=>(d e c).1⟩
def aba(p:dr):Prop:=Wa p/\∀r∈p.bj,∀e∈r.cond,sF e
def UX(m:Nat):bD Tryz.prog WW m 94 fun p=>∃x:dr,p=x.row/\aba x:=
 (bD.nx (Qs:=[Yj,SX,fun p=>∃l:List gC,(l.length<=2^47/\∀x∈l,aa9 x)/\p=[L 3 (l.map gC.row)]]) Tryz.underlying94 rfl (by kernel_rfl) fun m _ i f Q b c=>by
  match i with
  |0=>simp at b c;subst b;subst c;exact AT m
  |1=>simp at b c;subst b;subst c;exact Mx m
  |2=>simp at b c;subst b;subst c;exact pW Tryz.underlying92 (by kernel_rfl) (aN (by kernel_rfl)) (by decide) (fun _=>rfl) fun k _=>UW k
  |i+3=>simp at b).mono fun p h=>by
 obtain⟨_,_,rfl,⟨s,rfl⟩,_,_,rfl,⟨a,rfl⟩,_,_,rfl,⟨l,⟨g,e⟩,rfl⟩,rfl⟩:=h;exact⟨⟨s,a,l⟩,rfl,⟨g,fun r d=>(e r d).1⟩,fun r d=>(e r d).2⟩
def abb(p:dP):Prop:=Wb p/\∀x∈p.aV,∀r∈x.bj,∀e∈r.cond,sF e
def UY(m:Nat):bD Tryz.prog WW m 128 fun p=>∃x:dP,p=x.row/\abb x:=
 (bD.nx (Qs:=[Yj,fun p=>∃l:List dr,(l.length<=2^47/\∀x∈l,aba x)/\p=[L 4 (l.map dr.row)]]) Tryz.underlying128 rfl (by kernel_rfl) fun m _ i f Q a b=>by
  match i with
  |0=>simp at a b;subst a;subst b;exact AT m
  |1=>simp at a b;subst a;subst b;exact pW Tryz.underlying89 (by kernel_rfl) (aN (by kernel_rfl)) (by decide) (fun _=>rfl) fun k _=>UX k
  |i+2=>simp at a).mono fun p h=>by
 obtain⟨_,_,rfl,⟨s,rfl⟩,_,_,rfl,⟨l,⟨e,d⟩,rfl⟩,rfl⟩:=h;exact⟨⟨s,l⟩,rfl,⟨e,fun r c=>(d r c).1⟩,fun r c=>(d r c).2⟩
def abc(p:List PV):Prop:=∃u:eW,H7 u/\Rng u/\p=[L 6 (u.aG.map dT.row),L 2 (u.aD.map dP.row),L 1 (aR u.main),N u.bZ.kind,N u.bZ.data]
def UZ(m:Nat):bD Tryz.prog WW m 28 abc:=
 (bD.nx (Qs:=[fun p=>∃l:List dT,(l.length<=2^47/\∀x∈l,aa8 x)/\p=[L 6 (l.map dT.row)],fun p=>∃l:List dP,(l.length<=2^47/\∀x∈l,abb x)/\p=[L 2 (l.map dP.row)],Ky,SX]) Tryz.underlying28 rfl (by kernel_rfl) fun m _ i f Q b c=>by
  match i with
  |0=>simp at b c;subst b;subst c;exact pW Tryz.underlying22 (by kernel_rfl) (aN (by kernel_rfl)) (by decide) (fun d=>by simp[dT.row,tL]) fun k _=>UU k
  |1=>simp at b c;subst b;subst c;exact pW Tryz.underlying23 (by kernel_rfl) (aN (by kernel_rfl)) (by decide) (fun _=>rfl) fun k _=>UY k
  |2=>simp at b c;subst b;subst c;exact Iq m
  |3=>simp at b c;subst b;subst c;exact Mx m
  |i+4=>simp at b).mono fun p h=>by
 obtain⟨_,_,rfl,⟨j,⟨n,e⟩,rfl⟩,_,_,rfl,⟨ps,⟨q,g⟩,rfl⟩,_,_,rfl,⟨ms,o,rfl⟩,_,_,rfl,⟨a,rfl⟩,rfl⟩:=h;exact⟨⟨j,ps,ms,a⟩,⟨n,fun d h=>(e d h).2,q,fun p h=>(g p h).1,o⟩,⟨fun d h=>(e d h).1,fun p h=>(g p h).2⟩,rfl⟩
def ajr(p:List PV):Prop:=∃d:Da,Ck d/\p=[W d.nr,W d.aq,U d.ip,U d.a0,U d.a1,U d.a2,U d.a3,U d.a4,U d.a5]
def Yl(m:Nat):bD Tryz.prog WW m 33 ajr:=
 (bD.nx (Qs:=[Yi,Yi,US,vF [US,US,US,US,US,US]]) Tryz.underlying33 rfl (by kernel_rfl) fun m _ i f Q b c=>by
  match i with
  |0=>simp at b c;subst b;subst c;exact SZ m
  |1=>simp at b c;subst b;subst c;exact SZ m
  |2=>simp at b c;subst b;subst c;exact SY m
  |3=>simp at b c;subst b;subst c;exact bD.array (n:=6) Tryz.underlying31 (fun k _=>SY k) (by kernel_rfl)
  |i+4=>simp at b).mono fun p h=>by
 obtain⟨_,_,rfl,⟨n,y,rfl⟩,_,_,rfl,⟨a,x,rfl⟩,_,_,rfl,⟨z,r,rfl⟩,_,_,rfl,⟨_,_,rfl,⟨d,q,rfl⟩,_,_,rfl,⟨e,s,rfl⟩,_,_,rfl,⟨g,t,rfl⟩,_,_,rfl,⟨j,u,rfl⟩,_,_,rfl,⟨l,v,rfl⟩,_,_,rfl,⟨o,w,rfl⟩,rfl⟩,rfl⟩:=h;exact⟨⟨n,a,z,d,e,g,j,l,o⟩,⟨y,x,r,q,s,t,u,v,w⟩,rfl⟩
end
end Go.Ac.S4
end
section
namespace Go.Proofs.YtifcddmbgnmnjaaGreatDoor
open Go Go.Ac Go.ChangeShapes Go.WideShapes Go.ChangeAt Go.RowKit
set_option maxRecDepth 100000
def own:ownKnob Tryz.prog.godebug=none:=by kernel_rfl
def laidOut:laidOutB Tryz.prog=true:=by kernel_rfl
abbrev xf:List (String×DataW Unit):=[("unicode/utf8.acceptRanges",Rows.laid_unicode_utf8_acceptRanges),("unicode.White_Space",Rows.laid_unicode_White_Space),("strings.asciiSpace",Rows.laid_strings_asciiSpace),("unicode/utf8.first",Rows.laid_unicode_utf8_first)]
def ajs(os:Os)(args:Array Value):laidMetH Tryz.prog xf ((World.laidAll Tryz.prog os xf).forCall (fun _ _=>0) ⟨#[],args,[]⟩).memory:=by
 rw[MakeChecks.laidMetH_plain _ _ _ (by kernel_rfl)]
 exact laidMet_laidAll _ (by kernel_rfl) (by kernel_rfl)
def Ym:(Rows.laid_strings_asciiSpace:DataW Unit)=.agg (((List.range 256).map IG).map fun n=>.lit (.int .u8 n)):=by kernel_rfl
def Ir{W:World}(h:laidMetH Tryz.prog xf W)(r:Nat)(e:r<256):W.cell? ⟨1,r,none⟩=some (.int .u8 (IG r)):=by
 rw[MakeChecks.laidMetH_plain _ _ _ (by kernel_rfl)]at h
 obtain⟨ps,⟨_,_,_,_,_,_,_,_,_,_,⟨_,_,_,_,_,_,_,_,_,_,⟨g,t,cs,fuel,p,q,d,s,u,c,_,_⟩,_⟩,_⟩,_,_⟩:=h;obtain rfl:=au ((show Tryz.prog.globalNamed "strings.asciiSpace" = some 1 by kernel_rfl).symm.trans d)
 obtain rfl:=au ((show(Tryz.prog.globals[1]?).map (·.type)=some 433 by kernel_rfl).symm.trans s)
 rw[Ym]at c;obtain⟨xs,m,_,l,_,x,w⟩:=DataW.trod_array Tryz.underlying433 c;have f:Tryz.prog.cellsOf 5=1:=by kernel_rfl
 have b:=w r e;rw[f,Nat.mul_one,bk (by omega)]at b
 obtain⟨z,i,j,_⟩:=DataW.trod_int Tryz.underlying5 b;have k:(xs.map (·.1))=((List.range 256).map IG).map fun n=>.lit (.int .u8 n):=(DataW.agg.inj (mh l).1).symm
 have a:(xs.map (·.1))[r]?=(((List.range 256).map IG).map fun n=>(DataW.lit (.int .u8 n):DataW Unit))[r]?:=by rw[k]
 rw[bp,bp,bp,lR e,bk (by omega:r<xs.length),j]at a
 have v:z=IG r:=by simpa using a
 rw[World.var?_cell d u r,<-v];have:cs.toList[r]?=some (.int .u8 z):=by
  have o:((cs.toList.drop r).take 1)[0]?=some (.int .u8 z):=by rw[i];rfl
  simpa using o
 simpa using this
def U0{W:World}(h:laidMetH Tryz.prog xf W)(c:W.ShapedOpen Tryz.prog):Laid (ox W) W:=by
 refine⟨fun i a=>⟨Ir h i a,(mb (Ir h i a)).1⟩,?_⟩
 obtain⟨m,b⟩:=cell_of_shapedOpen_int (g:=0) (t:=3) (zero := #[.int .i64 0]) (k:=.i64) c (aN (by kernel_rfl)) (by kernel_rfl) rfl (by kernel_rfl) (by kernel_rfl) Tryz.underlying3
 exact⟨m,b,(mb b).1⟩
def handed{H:Type}{enc:TypeId×Value->H}{C:Checked}{os:Os}{f:FuncId}{fn:Func}{s:ChangeSpec}{conds:List PathCond}{X:World->Array Value->Prop}
  (g:∀(w w':World)(args:Array Value),w.heap=w'.heap->X w args->X w' args)
  (own:ownKnob C.prog.godebug=none)(started:os.Started)(r:C.prog.inits.idxOf? f=none)(p:C.prog.funcs[f]?=some fn)
  (witness:∃(w:World)(tape:Tape)(i:Input),w.os=os/\(w.forCall tape i).Shaped C.prog/\i.vars=[]/\Input.okWide C.prog (w.forCall tape i) .any w.heap.size f i /\
   ((s.pre enc C.prog fn conds false (w.forCall tape i).memory i.args/\X (w.forCall tape i).memory i.args)/\sizedMet enc C.prog fn (OpenSpec.ofChange s) false (w.forCall tape i).memory i.args)/\({}:Assume).holds C.prog (lone (Frame.enter C.prog f i.args .normal) [] (w.forCall tape i)))
  (D:∀(W:World)(base:Nat)(args:Array Value)(a b:List (DataW H))(before:List MemPlace),
   (∀(j:Nat)t v,fn.params[j]?=some t->args[j]?=some v->Value.okWide C.prog W .any base t v)->
   DataW.Whole enc C.prog fn.params.toList s.vars false W args.toList a b before ->
   (DataW.weightsEach C.prog (fn.params.toList++s.plain.varTypes C.prog) (a++b)).all (· <= reachBytes)=true->X W args->W.ShapedOpen C.prog ->
   Calls C.prog f args W fun e c=>∃v,e = .returned v/\s.post enc C.prog fn false true false false W args v c):
  ReturnsInHanded {} C os f .any (fun w args=>(s.pre enc C.prog fn conds false w args/\X w args)/\sizedMet enc C.prog fn (OpenSpec.ofChange s) false w args) (s.post enc C.prog fn false true false false):=by
 refine returnsInHanded_of_calls own started r witness ?_;intro w tape i _ u _ q z G;obtain⟨_,_,_,o,y,_,_,_,_,h⟩:=q;have e:o=fn:=au (y.symm.trans p);subst e;obtain⟨⟨⟨a,b,before,d,E⟩,m⟩,n⟩:=z;have x:=DataW.Whole.of_heap (w':=w.forCall tape i) (by rfl) d
 refine(D (w.forCall tape i) w.heap.size i.args a b before h x (n.weights d) (g _ _ _ (by rfl) m) u).mono fun e c⟨v,k,l⟩=>?_
 subst k;exact ChangeSpec.post_blind l
end Go.Proofs.YtifcddmbgnmnjaaGreatDoor
end
section
namespace Go.Proofs.YtifcddmbgnmnjaaGreatDoor.sy
open Go Go.Ac Go.ChangeShapes Go.WideShapes Go.ChangeAt Go.RowKit
set_option maxRecDepth 100000 in
theorem lifted(os:Os)(started:os.Started)(H:Type)(enc:TypeId×Value->H):
  ReturnsInHanded {} Tryz.checked os 3 .any (fun w args=>(Rows.topArchesSpec.pre enc Tryz.prog Tryz.f3 Rows.topArchesRow.domain false w args/\laidMetH Tryz.prog xf w)/\sizedMet enc Tryz.prog Tryz.f3 (OpenSpec.ofChange Rows.topArchesSpec) false w args)
   (Rows.topArchesSpec.post enc Tryz.prog Tryz.f3 false true false false):=by
 refine handed (C:=Tryz.checked) (X:=fun w _=>laidMetH Tryz.prog xf w) (fun _ _ _ F h=>h.of_heap F) own started (by kernel_rfl) Tryz.func3
  (ChangeSpec.witness_shaped (enc:=enc) (C:=Tryz.checked) (os:=os) (X:=fun w _=>laidMetH Tryz.prog xf w) false (World.laidAll Tryz.prog os xf)
   #[.agg #[.slice none 0 0,.slice none 0 0,.slice none 0 0,.int .i64 0,.int .i64 0],.int .i64 0,.agg #[.int .u32 0,.int .u32 0,.int .u64 0,.int .u64 0,.int .u64 0,.int .u64 0,.int .u64 0,.int .u64 0,.int .u64 0]] 8 (World.laidAll_os _ _ _)
   (World.shaped_of_ZipB (by kernel_rfl) (by kernel_rfl)) (by kernel_rfl) (by kernel_rfl) (by kernel_rfl) (ajs os _)) ?_
 intro W base args z M before b1 D b0 Q a6;have J:(DataW.weightsEach Tryz.prog (Tryz.f3.params.toList++Rows.topArchesSpec.plain.varTypes Tryz.prog) (z++M)).all (· <= reachBytes)=true:=b0
 have c:∀(j:Nat)t v,Tryz.f3.params[j]?=some t->args[j]?=some v->Value.okWide Tryz.prog W .any base t v:=b1;have a1:=D;obtain⟨p,q,a0,T,rfl,b6,b7⟩:=D;have r:DataW.TrodAll enc Tryz.prog W 0 (fun _=>true) true Tryz.f3.params.toList args.toList z p:=a0
 rw[Tryz.params3]at r c J;obtain⟨E,b8,o,b3,p0,q0,c1,rfl,rfl,f,r0⟩:=trodAll_cons r;obtain⟨G,b9,s,b4,p1,q1,rfl,rfl,rfl,g,r1⟩:=trodAll_cons r0;obtain⟨I,c0,y,b5,p2,q2,rfl,rfl,rfl,i,r2⟩:=trodAll_cons r1;obtain⟨rfl,rfl,rfl⟩:=trodAll_nil r2;obtain rfl:args = #[E,G,I]:=by cases args;simp_all
 have l:=fun n k=>aN (bf.1 J n k)
 have w0:p7 Tryz.prog 28 o:=mG l 0 28 o rfl rfl;have w1:p7 Tryz.prog 3 s:=mG l 1 3 s rfl rfl;have w2:p7 Tryz.prog 33 y:=mG l 2 33 y rfl rfl;obtain⟨rfl,rfl⟩:=trodVars_none T;have a7:∀x∈p0,x.block<W.heap.size:=by
  obtain⟨m,a⟩:=f;exact DataW.trod_lt m _ _ _ a
 have a8:∀x∈p1,x.block<W.heap.size:=by
  obtain⟨m,a⟩:=g;exact DataW.trod_lt m _ _ _ a
 have a9:∀x∈p2,x.block<W.heap.size:=by
  obtain⟨m,a⟩:=i;exact DataW.trod_lt m _ _ _ a
 obtain⟨X0,rfl⟩:=Go.Ac.okWide_struct Tryz.underlying28 (c 0 28 E rfl rfl);obtain⟨X2,rfl⟩:=Go.Ac.okWide_struct Tryz.underlying33 (c 2 33 I rfl rfl);obtain⟨_,⟨u,hu,R,rfl⟩,a2⟩:=KM f w0 fun m=>S4.UZ m
 obtain⟨_,a5,a3⟩:=Tt g w1 (fun m=>S4.Mv m) (Go.Ac.okWide_int Tryz.underlying3 (c 1 3 G rfl rfl)) (fun p A=>by obtain⟨n,k⟩:=A;exact⟨_,k⟩)
 obtain⟨b2,K⟩:=a5;cases K;obtain⟨_,⟨d,Y,rfl⟩,a4⟩:=KM i w2 fun m=>S4.Yl m
 refine(M5 (by kernel_rfl) (by kernel_rfl) (S4.C3 u hu R b2 d Y) (U0 Q a6) (s6 a2 (s6 a3 (s6 a4 M6)))).mono fun e W'⟨Z,b⟩=>?_
 subst Z;exact⟨_,rfl,_,_,_,[],_,[],a1,trodAll_mk1 (shut_bool Tryz.underlying4 _),(trodAll_cons_mk (Below.trod laidOut (by kernel_rfl) (aN (by kernel_rfl)) f b a7) (trodAll_cons_mk (Below.trod laidOut (by kernel_rfl) (aN (by kernel_rfl)) g b a8) (trodAll_cons_mk (Below.trod laidOut (by kernel_rfl) (aN (by kernel_rfl)) i b a9) trodAll_mk0))),rfl,b.frame _,fun h=>by cases h⟩
end Go.Proofs.YtifcddmbgnmnjaaGreatDoor.sy
end
section
namespace Go.Proofs.YtifcddmbgnmnjaaGreatDoor.sy
open Go Go.Ac
set_option maxRecDepth 100000
def unf:Tryz.prog.unfollowed 3=true:=by kernel_rfl
def rec:Tryz.prog.recurses 3=true:=by unfold Program.recurses;rw[unf];rfl
def inp:Tryz.prog.inPlace 3=Rows.topArchesRow.inPlace:=by kernel_rfl
def nam:Tryz.prog.varsNamed 3=Rows.topArchesRow.named:=by kernel_rfl
def closed:joinedFacts Tryz.prog 3 Tryz.f3 Rows.topArchesSpec Rows.topArchesRow=true:=by
 unfold joinedFacts;rw[inp,unf,rec,nam];kernel_rfl
def abd:Tryz.prog.funcNamed "tipstaff/tipstafftop.TopArches" = some 3:=by kernel_rfl
def inst:Tryz.f3.isInstance Tryz.prog Rows.topArchesRow.origin Rows.topArchesRow.targs:=aN (by kernel_rfl)
def wrapper:Tryz.f3.isWrapper Tryz.prog Rows.topArchesRow.wrapper Rows.topArchesRow.mainSum:=by unfold Func.isWrapper;first|(rw[aF (by decide+kernel)];kernel_rfl)|(rw[aI (by decide+kernel)];exact⟨rfl,rfl⟩)
def proved:Rows.TopArchesSaid:=
 OpenClaim.holds_of_wide 3 Tryz.f3 rfl rfl rfl rfl rfl rfl rfl ⟨rfl,rfl,rfl,rfl,rfl⟩ rfl rfl rfl rfl rfl abd Tryz.func3 closed inst wrapper
  (fun os started H enc _=>lifted os started H enc)
def Yn:Rows.topArchesRow.wfByText (OpenSpec.ofChange Rows.topArchesSpec)=true:=by kernel_rfl
def mainIs:Tryz.prog.mainIs=some (true, "1c29be2401b4ea8089541c1e8962e13fa9932ea8ca124efafeb7dd744b117b3b".toList):=by kernel_rfl
def looks:true=Tryz.prog.looks []:=by kernel_rfl
def U1:([28,3,33].all fun u => !Tryz.prog.wantsStandIn u)=true:=by kernel_rfl
def goes:false=Rows.topArchesRow.goesBy Tryz.prog:=by kernel_rfl
end Go.Proofs.YtifcddmbgnmnjaaGreatDoor.sy
namespace Go.Proofs.YtifcddmbgnmnjaaGreatDoor
open sy in
theorem topArches_holds:Rows.TopArchesCardSaid:=
 Claim7.holds_tied_plain_at .later [] [.data,.listed,.data,.pinned] true (true, "1c29be2401b4ea8089541c1e8962e13fa9932ea8ca124efafeb7dd744b117b3b") true
  proved (fun _ h=>by cases h) Yn (fun _ h=>by cases h) topArches_row_tie rfl ⟨rfl,rfl⟩ mainIs rfl
  (fun f fn b d=>by
   obtain rfl:f=3:=au (abd.symm.trans b) |>.symm;obtain rfl:fn=Tryz.f3:=(au (Tryz.func3.symm.trans d)).symm;exact⟨looks,fun j t a=>by
    rw[Tryz.params3]at a;have c:t∈[28,3,33]:=by simpa using Dh a
    exact(show Tryz.prog.wantsStandIn t=false by simpa using bf.1 U1 t c)⟩)
  goes
end Go.Proofs.YtifcddmbgnmnjaaGreatDoor
end
