/-
Lemmas4
-/
import Derived.Test.YtifcddmbgnmnjaaGreatDoorPkC
set_option linter.all false
set_option autoImplicit true
set_option relaxedAutoImplicit true
section
namespace Go.Ac.S4
open Go Go.Proofs Go.Proofs.Tryz Go.Ac
open Go.IntKind (wrap)
open Int (toNat tdiv tmod fdiv)
open List (drop take replicate)
set_option maxRecDepth 100000
def Fk(a b:Rw)(c d:Int)(e:Rw)(f g i:List (PV×AV)):St:=⟨aO 96 [(1,vL 1 a),(6,.az 0 0),(25,vL 2 b),(26,vN c),(27,vN d)],[],[.aH [.mp 1,.mp 2,.mp 3,O 4 e],.map 272 f,.map 273 g,.map 274 i]⟩
def Fm(a:Rw)(b c:Int)(d:Rw)(e f g:List (PV×AV)):St:=⟨aO 96 [(6,.az 0 0),(50,vL 1 a),(51,vN b),(52,vN c)],[],[.aH [.mp 1,.mp 2,.mp 3,O 4 d],.map 272 e,.map 273 f,.map 274 g]⟩
abbrev Aj(a b:Rw)(c d:Int)r h:=Lp f104 2 ⟨aO 96 [(14,.own 0 0 4 a),(66,vL 4 b),(67,vN c),(68,vN d)],[some 0],[]⟩ 0 r h
abbrev Ak(a b:Rw)(c d:Int)(e:Rw)(f g:Int)(i:By)(j k:Int)(l:Rw)r h:=Lp f104 3 ⟨aO 96 [(14,.own 0 0 4 a),(17,.az 0 0),(66,vL 4 b),(67,vN c),(68,vN d),(76,vL 3 e),(77,vN f),(78,vN g)],[some 0],[.aH [vS i,vN j,vN k,O 3 l]]⟩ 0 r h
def Sc:df:={an:=[(4,1,ah),(5,3,fv),(5,5,{fb:=some [4]}),(5,6,eP),(5,11,{fb:=some [5]}),(12,1,ah),(20,1,ah),(24,1,ah),(25,1,jj),(25,2,eP),(25,3,ah),(25,7,jj)],mod:=[(13,2,[(0,[3]),(2,[]),(3,[])])],cut:=[(11,{bl:=[6,50,51,52]}),(19,{bl:=[14,66,67,68],cN:=[(14,4)],owns:=[14]}),(23,{bl:=[14,17,66,67,68,76,77,78],cN:=[(14,4)],owns:=[14]}),(3,{bl:=[1,6,25,26,27]})]}
def agy(H:Lp f104 0 (Fk b a (a.length:Int) 0 [] [] [] []) 0 r h):
  ak 104 [vL 2 a,vL 1 b] [] r h:=.of func104 Sc H
def Se(b i j:List (PV×AV))(H:bP (a<f) (lV e a fun d m=>((cK b (S d)=none/\aq (a+1)/\Lp f104 0 (Fk c e f (a+1) g (cB b (S d) (.agg [S d,L 4 m])) i j) 0 r h)\/(∃k l,cK b (S d)=some (.agg [S k,L 4 l])/\Fi r h [vL 4 [],vN 8] [])))
 (Lp f104 1 (Fm c (c.length:Int) 0 g b i j) 0 r h)):
  Lp f104 0 (Fk c e f a g b i j) 0 r h:=.of Sc H
def Sf(c g i:List (PV×AV))(H:bP (a<e) (Hc d a fun m=>∃f j k l,ak 153 [.az 0 0,vS m] [.aH [.mp 1,.mp 2,.mp 3,O 4 b],.map 272 c,.map 273 g,.map 274 i] [vN f] [.aH [.mp 1,.mp 2,.mp 3,O 4 j],.map 272 c,.map 273 k,.map 274 l]/\aI (f !=0) (Fi r h [vL 4 [],vN f] [])
 (aq (a+1)/\Lp f104 1 (Fm d e (a+1) j c k l) 0 r h))
 (Aj [] b (b.length:Int) 0 r h)):
  Lp f104 1 (Fm d e a b c g i) 0 r h:=.of Sc H
def Sg(H:bP (a<d) (gO c a fun i f g e=>Ak b c d a e (e.length:Int) 0 [] f g [] r h)
 (Fi r h [.own 0 0 4 b,vN 0] [])):
  Aj b c d a r h:=.of Sc H
def Sh(b:Rw)(H:bP (a<l) (pP k a fun p q s=>∃m n o,ak 154 [.agg [S p,L 1 q,L 5 s]] [] [.agg [S m,L 1 n,L 5 o]] []/\(b++([[S m,L 1 n,L 5 o]]:Rw)).length*64<=2^47/\aq (a+1)/\Ak c i j d k l (a+1) e f g (b++([[S m,L 1 n,L 5 o]]:Rw)) r h)
 ((c++([[S e,N f,N g,L 3 b]]:Rw)).length*56<=2^47/\aq (d+1)/\Aj (c++([[S e,N f,N g,L 3 b]]:Rw)) i j (d+1) r h)):
  Ak c i j d k l a e f g b r h:=.of Sc H
def Al(a:By)(b:Int)(c:Rw)(d e:Int)(f:Rw)(g i j:List (PV×AV)):St:=⟨aO 86 [(0,.az 0 0),(1,vS a),(9,vN b),(56,vL 4 c),(57,vN d),(58,vN e)],[],[.aH [.mp 1,.mp 2,.mp 3,O 4 f],.map 272 g,.map 273 i,.map 274 j]⟩
def abz:df:={an:=[(13,1,ah),(19,12,{take:=true})],mod:=[(8,2,[(0,[3])]),(14,2,[(0,[3]),(2,[]),(3,[])])],cut:=[(12,{bl:=[0,1,9,56,57,58]})]}
def agz(b c a:List (PV×AV))(H:((cK b (S d)=none/\Fi r h [vN 7] [.aH [.mp 1,.mp 2,.mp 3,O 4 e],.map 272 b,.map 273 c,.map 274 a])\/(∃o f,cK b (S d)=some (.agg [S o,L 4 f])/\((cK c (S d)=none/\((cK a (S d)=none/\Lp f153 0 (Al d (e.length:Int) f (f.length:Int) 0 e b (cB c (S d) (vB true)) a) 4 r h)\/(∃g,cK a (S d)=some (O 4 g)/\∃i j,ak 215 [.az 0 0,vL 4 g] [.aH [.mp 1,.mp 2,.mp 3,O 4 e],.map 272 b,.map 273 c,.map 274 a] [vN i] [.aH [.mp 1,.mp 2,.mp 3,O 4 j],.map 272 b,.map 273 c,.map 274 a]/\Fi r h [vN i] [.aH [.mp 1,.mp 2,.mp 3,O 4 j],.map 272 b,.map 273 c,.map 274 a])))\/(∃k,cK c (S d)=some (vB k)/\aI k (Fi r h [vN 5] [.aH [.mp 1,.mp 2,.mp 3,O 4 e],.map 272 b,.map 273 c,.map 274 a])
 (((cK a (S d)=none/\Lp f153 0 (Al d (e.length:Int) f (f.length:Int) 0 e b (cB c (S d) (vB true)) a) 4 r h)\/(∃l,cK a (S d)=some (O 4 l)/\∃m n,ak 215 [.az 0 0,vL 4 l] [.aH [.mp 1,.mp 2,.mp 3,O 4 e],.map 272 b,.map 273 c,.map 274 a] [vN m] [.aH [.mp 1,.mp 2,.mp 3,O 4 n],.map 272 b,.map 273 c,.map 274 a]/\Fi r h [vN m] [.aH [.mp 1,.mp 2,.mp 3,O 4 n],.map 272 b,.map 273 c,.map 274 a])))))))):
  ak 153 [.az 0 0,vS d] [.aH [.mp 1,.mp 2,.mp 3,O 4 e],.map 272 b,.map 273 c,.map 274 a] r h:=.of func153 abz H
def Si(c i j:List (PV×AV))(H:bP (d<g) (gO f d fun o p q s=>∃k l m n,ak 216 [.az 0 0,.agg [S o,N p,N q,L 3 s]] [.aH [.mp 1,.mp 2,.mp 3,O 4 a],.map 272 c,.map 273 i,.map 274 j] [vN k] [.aH [.mp 1,.mp 2,.mp 3,O 4 l],.map 272 c,.map 273 m,.map 274 n]/\aI (k !=0) (Fi r h [vN k] [.aH [.mp 1,.mp 2,.mp 3,O 4 l],.map 272 c,.map 273 m,.map 274 n])
 (aq (d+1)/\Lp f153 0 (Al e b f g (d+1) l c m n) 4 r h))
 ((0<=b/\b<=(a.length:Int)/\(a.length:Int)<=(a.length:Int))/\(drop (toNat b) (take a.length a)).length*56<=2^47/\Fi r h [vN 0] [.aH [.mp 1,.mp 2,.mp 3,O 4 a],.map 272 c,.map 273 (k9 i (S e)),.map 274 (cB j (S e) (O 4 (drop (toNat b) (take a.length a))))])):
  Lp f153 0 (Al e b f g d a c i j) 4 r h:=.of abz H
def agA(c d e:List (PV×AV))(H:(a++b).length*56<=2^47/\bP (((a++b).length:Int)>500) (Fi r h [vN 9] [.aH [.mp 1,.mp 2,.mp 3,O 4 (a++b)],.map 272 c,.map 273 d,.map 274 e])
 (Fi r h [vN 0] [.aH [.mp 1,.mp 2,.mp 3,O 4 (a++b)],.map 272 c,.map 273 d,.map 274 e])):
  ak 215 [.az 0 0,vL 4 b] [.aH [.mp 1,.mp 2,.mp 3,O 4 a],.map 272 c,.map 273 d,.map 274 e] r h:=.of func215 {an:=[(1,4,{take:=true}),(1,9,{take:=true})]} H
def agB(a b c:List (PV×AV))(d:By)(H:aI (!(d==[])) (∃j k l m,ak 153 [.az 0 0,vS d] [.aH [.mp 1,.mp 2,.mp 3,O 4 e],.map 272 a,.map 273 b,.map 274 c] [vN j] [.aH [.mp 1,.mp 2,.mp 3,O 4 k],.map 272 a,.map 273 l,.map 274 m]/\Fi r h [vN j] [.aH [.mp 1,.mp 2,.mp 3,O 4 k],.map 272 a,.map 273 l,.map 274 m])
 (∃n o,ak 215 [.az 0 0,vL 4 [[S d,N f,N g,L 3 i]]] [.aH [.mp 1,.mp 2,.mp 3,O 4 e],.map 272 a,.map 273 b,.map 274 c] [vN n] [.aH [.mp 1,.mp 2,.mp 3,O 4 o],.map 272 a,.map 273 b,.map 274 c]/\Fi r h [vN n] [.aH [.mp 1,.mp 2,.mp 3,O 4 o],.map 272 a,.map 273 b,.map 274 c])):
  ak 216 [.az 0 0,.agg [S d,N f,N g,L 3 i]] [.aH [.mp 1,.mp 2,.mp 3,O 4 e],.map 272 a,.map 273 b,.map 274 c] r h:=.of func216 {mod:=[(2,3,[(0,[3]),(2,[]),(3,[])]),(3,3,[(0,[3])])]} H
section
def agC(r:gP)(h:Af r):ak 154 [qO r] [] [qO r] []:=by
 have d:∀e∈r.cond,bL e<=cy r.cond:=fun e a=>ek e a
 have b:∀l:List Ex,(∀e∈l,rT e)->np l:=by
  intro l;induction l with
  |nil=>intro _;trivial
  |cons x l c=>intro h;exact⟨vu x (h x aW),c fun e a=>h e (aV _ a)⟩
 apply afN;refine⟨_,Go.Ac.ak.soft (aav (aJ r.params) (by have:=h.pl;simp[aJ];omega)) rfl,bt r.cond,?_,aZ (by rw[dw])⟩
 rw[<-dw];exact abt _ r.cond (ar _) (b _ fun e a=>(h.cond e a).1) h.cl
structure Fs where
 w:List By
 kn:List (By×List cQ)
 fq:List cQ
abbrev fb(ps:List cW)(s:Fs):List Bx:=[.aH [.mp 1,.mp 2,.mp 3,O 4 (s.fq.map cQ.row)],.map 272 (mp cW.name KX ps),.map 273 (mp id (fun _=>vB true) s.w),.map 274 (mp (·.1) (fun p=>O 4 (p.2.map cQ.row)) s.kn)]
def B1(s:Fs)(l:List cQ):Int×Fs:=(bif decide (((s.fq++l).length:Int)>500)then 9 else 0,{s with fq:=s.fq++l})
def lZ(rec:By->Fs->Int×Fs)(s:Fs)(x:cQ):Int×Fs:=bif !(x.use==[])then rec x.use s else B1 s [x]
def gS(rec:By->Fs->Int×Fs):List cQ->Fs->Int×Fs
 |[],s=>(0,s)
 |x::t,s=>bif(lZ rec s x).1 !=0 then lZ rec s x else gS rec t (lZ rec s x).2
def HU(name:By)(n:Nat)(r:Int×Fs):Int×Fs:=bif r.1 !=0 then r else(0,{r.2 with w:=HR id name r.2.w,kn:=iM (·.1) (name,r.2.fq.drop n) r.2.kn})
def kg(ps:List cW):Nat->By->Fs->Int×Fs
 |0,_,s=>(0,s)
 |n+1,name,s=>match dx cW.name ps name with
  |none=>(7,s)
  |some p=>match dx id s.w name with
   |some _=>(5,s)
   |none=>match dx (·.1) s.kn name with
    |some k=>B1 s k.2
    |none=>HU name s.fq.length (gS (kg ps n) p.aT {s with w:=iM id name s.w})
structure Pw (Q:cQ->Prop) (s:Fs):Prop where
 len:s.fq.length<=500
 kn:∀k∈s.kn,k.2.length<=500/\∀x∈k.2,Q x
 fq:∀x∈s.fq,Q x
structure CI (Q:cQ->Prop) (s s':Fs):Prop where
 w:s'.w=s.w
 ok:Pw Q s'
 len:s.fq.length<=s'.fq.length
def vv:∀{l:List α},dx key l (key x)=none->iM key x l=l++[x]
 |[],_=>rfl
 |y::l,h=>by
  unfold dx at h;rw[cp]at h;unfold iM;cases hk:key x==key y<;>rw[hk]at h
  .simp only[af]
   rw[vv (l:=l) h];rfl
  .simp at h
def HV:∀{l:List By},dx id l k=none->HR id k (iM id k l)=l
 |[],_=>by simp[iM,HR]
 |y::l,h=>by
  unfold dx at h;rw[cp]at h;unfold iM;cases hk:k==id y
  .rw[hk]at h
   rw[show(id k==id y)=false from hk,af]
   unfold HR;rw[hk,af,HV (l:=l) h]
  .rw[hk]at h;simp at h
def vw:∀{l:List α}{y:α},y∈iM key x l->y=x\/y∈l
 |[],y,h=>by simp[iM]at h;exact .inl h
 |z::l,y,h=>by
  unfold iM at h;cases hk:key x==key z<;>rw[hk]at h
  .rw[af]at h
   rcases aY.1 h with rfl|h
   .exact .inr aW
   .rcases vw h with h|h
    .exact .inl h
    .exact .inr (aV _ h)
  .rw[ai]at h
   rcases aY.1 h with rfl|h
   .exact .inl rfl
   .exact .inr (aV _ h)
def nv(h:dx key l k=some x):x∈l/\k=key x:=by
 unfold dx at h;exact⟨mB h,by have:=qT h;exact bZ this⟩
variable {Q:cQ->Prop}
def CJ(h:Pw Q s)(c:∀x∈l,Q x)(b:(B1 s l).1=0):CI Q s (B1 s l).2:=by
 unfold B1 at b⊢;cases hd:decide (((s.fq++l).length:Int)>500)<;>rw[hd]at b
 .have:=bI hd
  refine⟨rfl,⟨by show(s.fq++l).length<=500;omega,h.kn,fun x a=>?_⟩,by simp⟩
  rcases bp.1 a with a|a
  .exact h.fq x a
  .exact c x a
 .simp at b
def Am(b:∀name s,Pw Q s->(rec name s).1=0->CI Q s (rec name s).2){x:cQ}(h:Pw Q s)(c:x.use=[]->Q x)(a:(lZ rec s x).1=0):CI Q s (lZ rec s x).2:=by
 unfold lZ at a⊢;cases hu : !(x.use==[])<;>rw[hu]at a
 .exact CJ h (by simp;exact c (by simpa using hu)) a
 .exact b _ _ h a
def xF(d:∀name s,Pw Q s->(rec name s).1=0->CI Q s (rec name s).2):∀(l:List cQ)(s:Fs),Pw Q s->(∀x∈l,x.use=[]->Q x)->(gS rec l s).1=0->CI Q s (gS rec l s).2
 |[],s,h,_,_=>⟨rfl,h,ar _⟩
 |x::t,s,h,e,a=>by
  unfold gS at a⊢;cases hz:(lZ rec s x).1 !=0<;>rw[hz]at a
  .have b:=Am d h (e x aW) (by simpa using hz)
   have c:=xF d t _ b.ok (fun y f=>e y (aV _ f)) a
   exact⟨c.w.trans b.w,c.ok,dX b.len c.len⟩
  .rw[ai]at a
   rw[a]at hz;simp at hz
def sW(ps:List cW)(e:∀p∈ps,∀x∈p.aT,x.use=[]->Q x):∀(n:Nat)(name:By)(s:Fs),Pw Q s->(kg ps n name s).1=0->CI Q s (kg ps n name s).2
 |0,_,s,h,_=>⟨rfl,h,ar _⟩
 |n+1,name,s,h,a=>by
  unfold kg at a⊢;cases hp:dx cW.name ps name with
  |none=>rw[hp]at a;simp at a
  |some p=>
   have f:=(nv hp).1;rw[hp]at a;simp only at a⊢;cases hw:dx id s.w name with
   |some y=>rw[hw]at a;simp at a
   |none=>
    rw[hw]at a;simp only at a⊢;cases c:dx (·.1) s.kn name with
    |some k=>
     rw[c]at a;exact CJ h (fun x d=>(h.kn k (nv c).1).2 x d) a
    |none=>
     rw[c]at a;simp only at a⊢;unfold HU at a⊢;cases hz:(gS (kg ps n) p.aT {s with w:=iM id name s.w}).1 !=0<;>rw[hz]at a
     .have b:=xF (Q:=Q) (sW ps e n) p.aT {s with w:=iM id name s.w} ⟨h.len,h.kn,h.fq⟩ (e p f) (by simpa using hz)
      refine⟨?_,⟨b.ok.len,fun k c=>?_,b.ok.fq⟩,b.len⟩
      .show HR id name (gS (kg ps n) p.aT {s with w:=iM id name s.w}).2.w=s.w
       rw[b.w];exact HV hw
      .rcases vw c with rfl|c
       .have:=b.ok.len
        exact⟨by simp;omega,fun x d=>b.ok.fq x (uE d)⟩
       .exact b.ok.kn k c
     .rw[ai]at a
      rw[a]at hz;simp at hz
def HW(ps:List cW)(w:List By):Nat:=ps.countP fun p=>(dx id w p.name).isNone
def Sj:∀{ps:List cW}{w:List By}{name:By}{p:cW},p∈ps->p.name=name->dx id w name=none->HW ps (iM id name w)<HW ps w:=by
 intro ps w name p a d c;rw[show iM id name w=w++[name]from vv (key:=id) (x:=name) c]
 have mono:∀q:cW,(dx id (w++[name]) q.name).isNone=true->(dx id w q.name).isNone=true:=by
  intro q b;unfold dx at b⊢;rw[List.find?_append]at b;cases hf:w.find? (fun x=>q.name==id x)
  .rfl
  .rw[hf]at b;simp at b
 unfold HW;induction ps with
 |nil=>simp at a
 |cons q ps e=>
  rw[List.countP_cons,List.countP_cons];have f:ps.countP (fun p=>(dx id (w++[name]) p.name).isNone)<=ps.countP fun p=>(dx id w p.name).isNone:=List.countP_mono_left fun x _ h=>mono x h
  rcases aY.1 a with rfl|a
  .rw[d,c]
   have:(dx id (w++[name]) name).isNone=false:=by
    unfold dx at c⊢;rw[List.find?_append,c];simp
   rw[this];simp;omega
  .have:=e a
   have:=mono q;cases ha:(dx id (w++[name]) q.name).isNone
   .simp;omega
   .rw[this ha];simp;omega
def abA(ps:List cW)(s:Fs)(l:List cQ)(h:s.fq.length<=500)(a:l.length<=500):ak 215 [.az 0 0,vL 4 (l.map cQ.row)] (fb ps s) [vN (B1 s l).1] (fb ps (B1 s l).2):=by
 have e:s.fq.map cQ.row++l.map cQ.row=(s.fq++l).map cQ.row:=by rw[bN]
 apply agA;rw[e,al];exact⟨by simp;omega,ad (fun h=>aZ (by rw[B1,h];rfl)) fun h=>aZ (by rw[B1,h];rfl)⟩
def agD(ps:List cW)(s:Fs)(x:cQ)(h:s.fq.length<=500)(b:ak 153 [.az 0 0,vS x.use] (fb ps s) [vN (rec x.use s).1] (fb ps (rec x.use s).2))(c:True):
  ak 216 [.az 0 0,OH x] (fb ps s) [vN (lZ rec s x).1] (fb ps (lZ rec s x).2):=by
 apply agB;exact ad (fun a=>⟨_,_,_,_,b,bE (by rw[lZ,a];rfl) (by rw[lZ,a];rfl)⟩) fun a=>⟨_,_,abA ps s [x] h (by simp),bE (by rw[lZ,a];rfl) (by rw[lZ,a];rfl)⟩
def abB(ps:List cW)(e:∀p∈ps,∀x∈p.aT,x.use=[]->Q x)(o:∀p∈ps,p.aT.length<=2^40):∀(n:Nat)(name:By)(s:Fs),HW ps s.w<n->Pw Q s ->
  ak 153 [.az 0 0,vS name] (fb ps s) [vN (kg ps n name s).1] (fb ps (kg ps n name s).2)
 |0,_,_,h,_=>absurd h (by omega)
 |n+1,name,s,K,h=>by
  apply agz;cases hp:dx cW.name ps name with
  |none=>exact .inl ⟨by rw[jP,hp];rfl,bE (by rw[kg,hp]) (by rw[kg,hp])⟩
  |some p=>
   refine .inr ⟨p.name,p.aT.map cQ.row,by rw[jP,hp];rfl,?_⟩
   cases hw:dx id s.w name with
   |some y=>exact .inr ⟨true,by rw[jP,hw];rfl,bj rfl (bE (by rw[kg,hp,hw]) (by rw[kg,hp,hw]))⟩
   |none=>
    refine .inl ⟨by rw[jP,hw];rfl,?_⟩
    cases hk:dx (·.1) s.kn name with
    |some k=>
     have I:=h.kn k (nv hk).1;exact .inr ⟨k.2.map cQ.row,by rw[jP,hk];rfl,_,_,abA ps s k.2 h.len I.1,bE (by rw[kg,hp,hw];simp only[hk]) (by rw[kg,hp,hw];simp only[hk];rfl)⟩
    |none=>
     refine .inl ⟨by rw[jP,hk];rfl,?_⟩
     have d:=nv hp;have M:=Sj d.1 d.2.symm hw;have u:=wT (α:=By) id (fun _=>vB true) name s.w
     have v:kg ps (n+1) name s=HU name s.fq.length (gS (kg ps n) p.aT {s with w:=iM id name s.w}):=by rw[kg,hp,hw];simp only[hk]
     rw[v];have T:=o p d.1;have key:∀(t:List cQ)(i:Nat)(z:Fs),p.aT.drop i=t->z.w=iM id name s.w->Pw Q z->s.fq.length<=z.fq.length ->
       Lp f153 0 (Al name (s.fq.length:Int) (p.aT.map cQ.row) p.aT.length i (z.fq.map cQ.row) (mp cW.name KX ps) (mp id (fun _=>vB true) z.w) (mp (·.1) (fun p=>O 4 (p.2.map cQ.row)) z.kn)) 4 [vN (HU name s.fq.length (gS (kg ps n) t z)).1] (fb ps (HU name s.fq.length (gS (kg ps n) t z)).2):=by
      intro t;induction t with
      |nil=>
       intro i z c g b q;apply Si;have X:=b.len;have r:=wT (α:=By×List cQ) (·.1) (fun p=>O 4 (p.2.map cQ.row)) (name,z.fq.drop s.fq.length) z.kn
       have D:=Sa (α:=By) id (fun _=>vB true) name z.w
       have j:drop (toNat ((s.fq.length:Nat):Int)) (take (z.fq.map cQ.row).length (z.fq.map cQ.row))=(z.fq.drop s.fq.length).map cQ.row:=by
        rw[dE (ar _),toNat_cast,mV]
       refine aQ (l:=p.aT) rfl c ⟨⟨by omega,by simp;omega,by omega⟩,?_,bE rfl ?_⟩
       .rw[j];simp;omega
       .rw[j,D,r];rfl
      |cons x t H=>
       intro i z c g b q;obtain⟨m,E,J⟩:=bM c;have G:=aK m;apply Si;refine aL (l:=p.aT) rfl c ⟨x.use,x.act.kind,x.act.data,x.bk.map gP.row,by omega,aP m,_,_,_,_,agD ps z x b.len (abB ps e o n x.use z (by rw[g];omega) b) trivial,ad (fun a=>bE ?_ ?_) fun a=>⟨au,?_⟩⟩
       .rw[gS,a];simp only[ai,HU,a]
       .rw[gS,a];simp only[ai,HU,a]
       .have f:=Am (Q:=Q) (sW ps e n) b (e p d.1 x G) (by simpa using a)
        rw[gS,a];exact H (i+1) _ E (f.w.trans g) f.ok (dX q f.len)
     have:=key p.aT 0 {s with w:=iM id name s.w} rfl rfl ⟨h.len,h.kn,h.fq⟩ (ar _);rw[al,al];rw[show mp id (fun _=>vB true) (iM id name s.w)=cB (mp id (fun _=>vB true) s.w) (S name) (vB true)from u.symm]at this
     exact this
def HX:List cW->List cW->Bool
 |[],_=>false
 |p::t,pre=>match dx cW.name pre p.name with
  |some _=>true
  |none=>HX t (pre++[p])
def fx(ps:List cW):List By->Fs->Int×Fs
 |[],s=>(0,s)
 |x::t,s=>bif(kg ps (ps.length+1) x s).1 !=0 then kg ps (ps.length+1) x s else fx ps t (kg ps (ps.length+1) x s).2
def nw(p:cQ):cQ:=⟨[],p.act,p.bk⟩
def nx(ps:List cW)(names:List By):Except Int (List cQ):=
 bif HX ps []then .error 8 else bif(fx ps names ⟨[],[],[]⟩).1 !=0 then .error (fx ps names ⟨[],[],[]⟩).1 else .ok ((fx ps names ⟨[],[],[]⟩).2.fq.map nw)
def rU:Except Int (List cQ)->List AV
 |.error e=>[vL 4 [],vN e]
 |.ok l=>[.own 0 0 4 (l.map cQ.row),vN 0]
def Ms:Except Int (List cQ)->List AV
 |.error e=>[vL 4 [],vN e]
 |.ok l=>[vL 4 (l.map cQ.row),vN 0]
def rV(ps:List cW)(b:∀p∈ps,∀x∈p.aT,x.use=[]->Q x):∀(l:List By)(s:Fs),Pw Q s->(fx ps l s).1=0->Pw Q (fx ps l s).2
 |[],s,h,_=>h
 |x::t,s,h,a=>by
  unfold fx at a⊢;cases hz:(kg ps (ps.length+1) x s).1 !=0<;>rw[hz]at a
  .exact rV ps b t _ (sW ps b _ _ _ h (by simpa using hz)).ok a
  .rw[ai]at a
   rw[a]at hz;simp at hz
def U3(d:List cQ)(c:List cQ)(j:Nat)(p:cQ)(g:∀r∈p.bk,Af r)(o:p.bk.length<=2^40)(K:Aj ((d++[nw p]).map cQ.row) (c.map cQ.row) c.length (j+1) r h)(n:j<=2^40)(s:d.length<=2^40):
  Ak (d.map cQ.row) (c.map cQ.row) c.length j (p.bk.map gP.row) p.bk.length 0 [] p.act.kind p.act.data [] r h:=by
 have key:∀(t:List gP)(i:Nat)(q:List gP),p.bk.drop i=t->q=p.bk.take i->Ak (d.map cQ.row) (c.map cQ.row) c.length j (p.bk.map gP.row) p.bk.length i [] p.act.kind p.act.data (q.map gP.row) r h:=by
  intro t;induction t with
  |nil=>
   intro i q a b;have:=lj a;rw[dE this]at b;subst b;apply Sh;refine aQ (l:=p.bk) rfl a ⟨by simp;omega,au,?_⟩
   rw[bN]at K;exact K
  |cons x t k=>
   intro i q a b;obtain⟨e,f,m⟩:=bM a;have u:q.length<=i:=by rw[b];simp;omega
   apply Sh;refine aL (l:=p.bk) rfl a ⟨x.call,aJ x.params,x.cond.map Ex.row,by omega,aP e,_,_,_,agC x (g x (aK e)),by simp;omega,au,?_⟩
   have:=k (i+1) (q++[x]) f (by rw[b,eE,e];rfl)
   rw[bN]at this;exact this
 exact key p.bk 0 [] rfl rfl
def agE(ps:List cW)(names:List By)(o:∀p∈ps,∀x∈p.aT,x.use=[]->xD x)(D:∀p∈ps,p.aT.length<=2^40)(M:ps.length<=2^40)(I:names.length<=2^40):
  ak 104 [vL 2 (ps.map cW.row),vL 1 (aJ names)] [] (Ms (nx ps names)) []:=by
 have H:∀(c:List cQ),(∀x∈c,xD x)->c.length<=500->∀(t:List cQ)(i:Nat)(d:List cQ),c.drop i=t->d=(c.take i).map nw->Aj (d.map cQ.row) (c.map cQ.row) c.length i [.own 0 0 4 ((c.map nw).map cQ.row),vN 0] []:=by
  intro c h J t;induction t with
  |nil=>
   intro i d a g;have:=lj a;rw[dE this]at g;subst g;apply Sg;exact aQ (l:=c) rfl a fi
  |cons x t k=>
   intro i d a g;obtain⟨b,e,n⟩:=bM a;have v:=h x (aK b);have K:d.length<=i:=by rw[g];simp;omega
   apply Sg;refine aL (l:=c) rfl a ⟨x.use,x.act.kind,x.act.data,x.bk.map gP.row,by omega,aP b,?_⟩
   simp only[al];exact U3 d c i x v.bk (dX v.rl (by omega)) (k (i+1) (d++[nw x]) e (by rw[g,eE,b];simp)) (by omega) (by omega)
 have G:∀(t:List By)(i:Nat)(s:Fs),names.drop i=t->Pw xD s->s.w=[]->Lp f104 1 (Fm (aJ names) names.length i (s.fq.map cQ.row) (mp cW.name KX ps) (mp id (fun _=>vB true) s.w) (mp (·.1) (fun p=>O 4 (p.2.map cQ.row)) s.kn)) 0
   (rU (bif(fx ps t s).1 !=0 then .error (fx ps t s).1 else .ok ((fx ps t s).2.fq.map nw))) []:=by
  intro t;induction t with
  |nil=>
   intro i s a j u;apply Sf;refine aQ (l:=names) rfl a ?_;rw[al];exact H s.fq j.fq j.len s.fq 0 [] rfl rfl
  |cons x t k=>
   intro i s a j u;obtain⟨b,e,n⟩:=bM a;apply Sf;have r:HW ps s.w<ps.length+1:=Nat.lt_succ_of_le List.countP_le_length;refine aL (l:=names) rfl a ⟨x,by omega,aP b,_,_,_,_,abB ps o D _ x s r j,ad (fun f=>aZ ?_) fun f=>⟨au,?_⟩⟩
   .rw[fx,f];simp only[ai,f];rfl
   .have y:=sW ps o _ x s j (by simpa using f)
    rw[fx,f];exact k (i+1) _ e y.ok (y.w.trans u)
 have E:∀(t:List cW)(i:Nat),ps.drop i=t->Lp f104 0 (Fk (aJ names) (ps.map cW.row) ps.length i [] (mp cW.name KX (ps.take i)) [] []) 0
   (rU (bif HX t (ps.take i)then .error 8 else bif(fx ps names ⟨[],[],[]⟩).1 !=0 then .error (fx ps names ⟨[],[],[]⟩).1 else .ok ((fx ps names ⟨[],[],[]⟩).2.fq.map nw))) []:=by
  intro t;induction t with
  |nil=>
   intro i a;have:=lj a;rw[dE this];apply Se;refine aQ (l:=ps) rfl a ?_;rw[show(aJ names).length=names.length from al ..]
   exact G names 0 ⟨[],[],[]⟩ rfl ⟨by simp,by simp,by simp⟩ rfl
  |cons p t k=>
   intro i a;obtain⟨b,e,n⟩:=bM a;have m:ps.take (i+1)=ps.take i++[p]:=by rw[eE,b];rfl
   apply Se;refine aL (l:=ps) rfl a ⟨p.name,p.aT.map cQ.row,by omega,aP b,?_⟩
   have z:=wT (α:=cW) cW.name KX p (ps.take i);rw[HX];cases hg:dx cW.name (ps.take i) p.name with
   |none=>
    refine .inl ⟨by rw[jP,hg];rfl,au,?_⟩
    have:=k (i+1) e;rw[m,<-vv (key:=cW.name) hg,<-z,vv (key:=cW.name) hg]at this;exact this
   |some q=>exact .inr ⟨q.name,q.aT.map cQ.row,by rw[jP,hg];rfl,fi⟩
 have w:ak 104 [vL 2 (ps.map cW.row),vL 1 (aJ names)] [] (rU (nx ps names)) []:=by
  apply agy;rw[al];exact E ps 0 rfl
 cases m:nx ps names with
 |error p=>rw[m]at w;exact w
 |ok p=>rw[m]at w;exact Go.Ac.ak.soft w rfl
end
abbrev Mt(a:By)(b c:Rw)(d e:Int)(f g i:Rw)(j k:Int)r h:=Lp f79 0 ⟨aO 85 [(1,vS a),(2,.az 0 0),(13,.own 0 0 9 b),(53,vL 4 c),(54,vN d),(55,vN e)],[some 0],[.aH [vL 6 f,vL 2 g,vL 1 i,vN j,vN k]]⟩ 0 r h
abbrev Mu(a:By)(b c:Rw)(d e:Int)(f:Rw)(g i:Int)(j k l:Rw)(m n:Int)(o:By)(p q:Int)(s:Rw)r h:=Lp f79 1 ⟨aO 85 [(1,vS a),(2,.az 0 0),(13,.own 0 0 9 b),(15,.az 1 0),(53,vL 4 c),(54,vN d),(55,vN e),(60,vL 3 f),(61,vN g),(62,vN i)],[some 0],[.aH [vL 6 j,vL 2 k,vL 1 l,vN m,vN n],.aH [vS o,vN p,vN q,vL 3 s]]⟩ 0 r h
def A79:df:={an:=[(1,1,ah),(2,4,ah),(4,2,ah),(7,4,ah),(13,1,ah),(16,1,ah),(17,5,ah)],cut:=[(12,{bl:=[1,2,13,53,54,55],cN:=[(13,9)],owns:=[13]}),(15,{bl:=[1,2,13,15,53,54,55,60,61,62],cN:=[(13,9)],owns:=[13]})]}
def W79(H:Jq 81 [vS f] [] fun o m=>aI (!m) (Fi r h [vL 9 [],vN 1] []) (cb 102 [.agg [L 6 a,L 2 b,L 1 c,N d,N e]] [] fun n=>aI (!n) (Fi r h [vL 9 [],vN 1] [])
 (∃k l g,ak 103 [vL 6 a] [] [vL 1 k,vN l,vN g] []/\aI (g !=0) (Fi r h [vL 9 [],vN g] [])
 (Ot 104 [vL 2 b,vL 1 c] [] fun i j=>aI (j !=0) (Fi r h [vL 9 [],vN j] [])
 (Mt f [] i (i.length:Int) 0 a b c d e r h))))):
  ak 79 [.agg [L 6 a,L 2 b,L 1 c,N d,N e],vS f] [] r h:=.of func79 A79 H
def WE(H:bP (a<d) (gO c a fun m n o e=>Mu f b c d a e (e.length:Int) 0 g i j k l m n o e r h)
 (Fi r h [.own 0 0 9 b,vN 0] [])):
  Mt f b c d a g i j k l r h:=.of A79 H
def WG(c k:Rw)(H:bP (a<n) (pP m a fun I J K=>∃q s t u v w x y z D,ak 105 [.agg [L 6 e,L 2 f,L 1 g,N i,N j],vS b,.agg [S I,L 1 J,L 5 K],.agg [N o,N p]] [] [.agg [W q,N s,N t,N u,N v,N w,U x,U y,L 6 z],vN D] []/\aI (D !=0) (Fi r h [vL 9 [],vN D] [])
 ((c++([[W q,N s,N t,N u,N v,N w,U x,U y,L 6 z]]:Rw)).length*88<=2^47/\aq (a+1)/\Mu b (c++([[W q,N s,N t,N u,N v,N w,U x,U y,L 6 z]]:Rw)) k l d m n (a+1) e f g i j E o p G r h))
 (aq (d+1)/\Mt b c k l (d+1) e f g i j r h)):
  Mu b c k l d m n a e f g i j E o p G r h:=.of A79 H
abbrev Fo(a b:Rw)(c d:Int)(e f g:Rw)(i j k l m n o p q s:Int)(t:Rw)(u v w x y z D E:Int)(G:Rw)r h:=Lp f105 0 ⟨aO 66 [(4,.az 0 0),(8,.az 1 0),(12,vL 1 a),(14,.az 2 0),(43,vL 5 b),(44,vN c),(45,vN d)],[],[.aH [vL 6 e,vL 2 f,vL 1 g,vN i,vN j],K4 k l m n o p q s t,K9 u v w x y z D E G]⟩ 0 r h
def abC:df:={an:=[(1,3,ah),(4,2,ah),(10,1,ah)],cut:=[(9,{bl:=[4,8,12,14,43,44,45],wc:=[(2,8)]})]}
def agG(H:∃o c p q,ak 155 [vS k,vS b] [] [.agg [S o,W c,L 1 p],vB q] []/\aI (!q) (Fi r h [.agg [W 0,N 0,N 0,N 0,N 0,N 0,U 0,U 0,L 6 []],vN 7] [])
 (∃s d,ak 156 [.agg [S b,L 1 l,L 5 a],.agg [S o,W c,L 1 p]] [] [vL 1 s,vN d] []/\aI (d !=0) (Fi r h [.agg [W 0,N 0,N 0,N 0,N 0,N 0,U 0,U 0,L 6 []],vN d] [])
 (Fo s a (a.length:Int) 0 e f g i j 0 0 0 0 0 0 0 0 [] c m n 1 0 0 0 0 [] r h))):
  ak 105 [.agg [L 6 e,L 2 f,L 1 g,N i,N j],vS k,.agg [S b,L 1 l,L 5 a],.agg [N m,N n]] [] r h:=.of func105 abC H
def Sk(H:bP (a<e) (br d a fun Y Z F A R=>∃J K M Q T X j,ak 157 [.az 0 0,.agg [N Y,S Z,S F,U A,L 5 R]] [.aH [vL 6 c,vL 1 b]] [.agg [N J,N K,N M,U Q,U T,L 6 X],vN j] [.aH [vL 6 c,vL 1 b]]/\aI (j !=0) (Fi r h [.agg [W 0,N 0,N 0,N 0,N 0,N 0,U 0,U 0,L 6 []],vN j] [])
 (aq (a+1)/\Fo b d e (a+1) c k l m n o p q s t u v w x f g i J K M Q T X r h))
 (Fi r h [.agg [W f,N g,N i,N y,N z,N D,U E,U G,L 6 I],vN 0] [])):
  Fo b d e a c k l m n o p q s t u v w x f g i y z D E G I r h:=.of abC H
abbrev Fp(a:Rw)(b c:Int)(d:By)(e f:Rw)(g:By)(i:Int)(j:Rw)r h:=Lp f156 0 ⟨aO 40 [(2,.az 0 0),(3,.az 1 0),(16,vL 1 a),(17,vN b),(18,vN c)],[],[.aH [vS d,vL 1 e,vL 5 f],.aH [vS g,vW i,vL 1 j]]⟩ 0 r h
def abD:df:={an:=[(5,2,ah),(6,5,ah),(9,2,{fz:=true,bF:=true})],cut:=[(4,{bl:=[2,3,16,17,18]})]}
def abE(H:bP ((a.length:Int)>(b.length:Int)) (Fi r h [vL 1 [],vN 9] [])
 (Fp a (a.length:Int) 0 c a d e f b r h)):
  ak 156 [.agg [S c,L 1 a,L 5 d],.agg [S e,W f,L 1 b]] [] r h:=.of func156 abD H
def Sl(a i:Rw)(H:bP (c<e) (Hc d c fun l=>(0<=(0:Int)/\(0:Int)<=c/\c<=(a.length:Int))/\cb 203 [vL 1 (drop 0 (take (toNat c) a)),vS l] [] fun m=>aI m (Fi r h [vL 1 [],vN 8] [])
 (aq (c+1)/\Fp d e (c+1) g a i j k b r h))
 (∃f,ak 217 [vL 1 a] [] [.own 0 0 1 f] []/\(0<=(a.length:Int)/\(a.length:Int)<=(b.length:Int)/\(b.length:Int)<=(b.length:Int))/\(f++(drop (toNat (a.length:Int)) (take b.length b))).length*16<=2^47/\Fi r h [.own 0 0 1 (f++(drop (toNat (a.length:Int)) (take b.length b))),vN 0] [])):
  Fp d e c g a i j k b r h:=.of abD H
abbrev tO(a:Rw)(b c:Int)(d e:Rw)(f g i j k:Int)(l:Rw)(m n o p q:Int)(s:Rw)r h:=Lp f157 0 ⟨aO 53 [(0,.az 0 0),(4,.az 1 0),(6,.az 2 0),(29,vL 5 a),(30,vN b),(31,vN c)],[],[.aH [vL 6 d,vL 1 e],K6 f g i j k l,K6 m n o p q s]⟩ 1 r h
def abF:df:={an:=[(11,1,ah),(15,1,{take:=true}),(15,6,{take:=true})],cut:=[(10,{bl:=[0,4,6,29,30,31]})]}
def agH(H:aI (d==4) (∃i j k l m n o,ak 222 [.az 0 0,.agg [N d,S e,S f,U g,L 5 a]] [.aH [vL 6 b,vL 1 c]] [.agg [N i,N j,N k,U l,U m,L 6 n],vN o] [.aH [vL 6 b,vL 1 c]]/\Fi r h [.agg [N i,N j,N k,U l,U m,L 6 n],vN o] [.aH [vL 6 b,vL 1 c]])
 (aI (d==1) (tO a (a.length:Int) 0 b c 0 0 0 0 0 [] 4 0 0 0 0 [] r h)
 (aI (d==2) (tO a (a.length:Int) 0 b c 0 0 0 0 0 [] 3 0 0 0 0 [] r h)
 (tO a (a.length:Int) 0 b c 0 0 0 0 0 [] 2 0 0 0 0 [] r h)))):
  ak 157 [.az 0 0,.agg [N d,S e,S f,U g,L 5 a]] [.aH [vL 6 b,vL 1 c]] r h:=.of func157 abF H
def Sm(d:Rw)(H:bP (c<f) (br e c fun D E G I J=>∃m n o p q s t,ak 157 [.az 0 0,.agg [N D,S E,S G,U I,L 5 J]] [.aH [vL 6 a,vL 1 b]] [.agg [N m,N n,N o,U p,U q,L 6 s],vN t] [.aH [vL 6 a,vL 1 b]]/\aI (t !=0) (Fi r h [.agg [N 0,N 0,N 0,U 0,U 0,L 6 []],vN t] [.aH [vL 6 a,vL 1 b]])
 ((d++([[N m,N n,N o,U p,U q,L 6 s]]:Rw)).length*64<=2^47/\aq (c+1)/\tO e f (c+1) a b u v w x y z g i j k l (d++([[N m,N n,N o,U p,U q,L 6 s]]:Rw)) r h))
 (Fi r h [.agg [N g,N i,N j,U k,U l,L 6 d],vN 0] [.aH [vL 6 a,vL 1 b]])):
  tO e f c a b u v w x y z g i j k l d r h:=.of abF H
def agI(H:br c 0 fun n X o Y p=>kQ 267 [vL 1 b,vS o] [] fun d=>kQ 280 [vS e] [] fun f=>bP (d<0) (Fi r h [.agg [N 0,N 0,N 0,U 0,U 0,L 6 []],vN 7] [.aH [vL 6 a,vL 1 b]])
 (aI (n==6) (br p 0 fun q s t u v=>Ud 281 [vL 6 a,.agg [N q,S s,S t,U u,L 5 v]] [] fun w g=>aI (g !=0) (Fi r h [.agg [N 0,N 0,N 0,U 0,U 0,L 6 []],vN g] [.aH [vL 6 a,vL 1 b]])
 (br c 1 fun x y z D E=>Ud 281 [vL 6 a,.agg [N x,S y,S z,U D,L 5 E]] [] fun G i=>aI (i !=0) (Fi r h [.agg [N 0,N 0,N 0,U 0,U 0,L 6 []],vN i] [.aH [vL 6 a,vL 1 b]])
 (Fi r h [.agg [N 5,N d,N f,U w,U G,L 6 []],vN 0] [.aH [vL 6 a,vL 1 b]])))
 (br c 1 fun I J K M Q=>Ud 281 [vL 6 a,.agg [N I,S J,S K,U M,L 5 Q]] [] fun T j=>aI (j !=0) (Fi r h [.agg [N 0,N 0,N 0,U 0,U 0,L 6 []],vN j] [.aH [vL 6 a,vL 1 b]])
 (Fi r h [.agg [N 5,N d,N f,U 18446744073709551615,U T,L 6 []],vN 0] [.aH [vL 6 a,vL 1 b]])))):
  ak 222 [.az 0 0,.agg [N k,S e,S l,U m,L 5 c]] [.aH [vL 6 a,vL 1 b]] r h:=.of func222 {an:=[(1,3,ah),(2,3,fv),(2,5,{fb:=some [3]}),(2,6,ah),(2,8,eP),(2,9,ah),(2,12,{fb:=some [4]}),(6,7,ah),(6,8,ah),(10,7,ah),(10,8,ah)]} H
def agJ(a:By)(H:kQ 267 [vL 1 [[S [61,61]],[S [33,61]],[S [60]],[S [60,61]],[S [62]],[S [62,61]]],vS a] [] fun b=>aq ((1:Int)+b)/\Fi r h [vN ((1:Int)+b)] []):
  ak 280 [vS a] [] r h:=.of func280 {an:=[(1,2,ah)]} H
inductive Cn where
 |mk (kind arg op mask value:Int) (kids:List Cn)
mutual
def Cn.row:Cn->List PV
 |.mk k a o m v l=>[N k,N a,N o,U m,U v,L 6 (da l)]
def da:List Cn->Rw
 |[]=>[]
 |e::l=>e.row::da l
end
def Cn.kind:Cn->Int|.mk k _ _ _ _ _=>k
def Cn.arg:Cn->Int|.mk _ a _ _ _ _=>a
def Cn.op:Cn->Int|.mk _ _ o _ _ _=>o
def Cn.mask:Cn->Int|.mk _ _ _ m _ _=>m
def Cn.value:Cn->Int|.mk _ _ _ _ v _=>v
def Cn.kids:Cn->List Cn|.mk _ _ _ _ _ l=>l
def dA:∀(l:List Cn),da l=l.map Cn.row
 |[]=>rfl
 |e::l=>by rw[da,dA l];rfl
def Cn.cu(e:Cn):e.row=[N e.kind,N e.arg,N e.op,U e.mask,U e.value,L 6 (da e.kids)]:=by cases e;rfl
abbrev v7(c:Cn):AV:=.agg [N c.kind,N c.arg,N c.op,U c.mask,U c.value,L 6 (da c.kids)]
def wU:Cn:=.mk 0 0 0 0 0 []
def U4(s:By):Int:=1+idx (s == ·) ops
def agK(s:By):ak 280 [vS s] [] [vN (U4 s)] []:=by
 have:=KY (p:=(s == ·)) ops
 have:=wB (s == ·) ops
 have:ops.length=6:=rfl;exact agJ s ⟨_,Ro s ops (by decide),au,fi⟩
def oE(a:List cZ)(i o mask:Int)(y:Ex):Cn×Int:=bif(ck a y).2 !=0 then(wU,(ck a y).2)else(.mk 5 i o mask (ck a y).1 [],0)
def jh(a:List cZ)(ps:List By):Ex->Cn×Int
 |.mk _ o _ _ (x::y::_)=>bif decide (idx (x.name == ·) ps<0)then(wU,7)else
  bif x.kind==6 then(bif(ck a (lx x 0)).2 !=0 then(wU,(ck a (lx x 0)).2)else oE a (idx (x.name == ·) ps) (U4 o) (ck a (lx x 0)).1 y)else oE a (idx (x.name == ·) ps) (U4 o) 18446744073709551615 y
 |_=>(wU,7)
mutual
def dS(a:List cZ)(ps:List By):Ex->Cn×Int
 |.mk k o n v l=>bif k==4 then jh a ps (.mk k o n v l)else hQ a ps l [] (bif k==1 then 4 else bif k==2 then 3 else 2)
def hQ(a:List cZ)(ps:List By):List Ex->List Cn->Int->Cn×Int
 |[],b,k=>(.mk k 0 0 0 0 b,0)
 |x::t,b,k=>bif(dS a ps x).2 !=0 then(wU,(dS a ps x).2)else hQ a ps t (b++[(dS a ps x).1]) k
end
def Mv(h:cz (.mk 4 o n v l)=true):∃x y,l=[x,y]/\n=[]/\v=0/\gh o ops=true/\j8 x=true/\gB y=true:=by
 match l,h with
 |[x,y],h=>
  obtain⟨-,h⟩:=cn (b:=(4:Int)==4) (show(bif(4:Int)==4 then(bif iL (.mk 4 o n v [x,y])then(bif gh o ops then(bif j8 x then gB y else false)else false)else false)else false)=true from h)
  obtain⟨a,h⟩:=cn h;obtain⟨c,h⟩:=cn h;obtain⟨d,e⟩:=cn h;obtain⟨o',g,i,f⟩:=sV a;obtain⟨-,-,rfl,rfl,-⟩:=Ex.mk.inj f;exact⟨x,y,rfl,rfl,rfl,c,d,e⟩
def Ao(h:cz e=true)(b:(e.kind==4)=false):∀x∈e.kids,cz x=true:=by
 obtain⟨k,o,n,v,l⟩:=e;have f:(k==4)=false:=b;clear b;match l,h with
 |[x,y],h=>
  simp only[cz,f,af]at h;obtain⟨-,h⟩:=cn h;obtain⟨-,h⟩:=cn h;obtain⟨c,d⟩:=cn h;intro z a;rcases aY.1 a with rfl|a
  .exact c
  .rw[cP.1 a];exact d
 |[x],h=>
  simp only[cz]at h;obtain⟨-,h⟩:=cn h;obtain⟨-,h⟩:=cn h;intro z a;rw[cP.1 a];exact h
def HY(h:j8 e=true)(a:(e.kind==6)=true):∃x,e.kids=[x]/\fG x=true:=by
 unfold j8 at h;cases h1:eo e
 .rw[h1]at h
  cases h2:iK e
  .rw[h2]at h;simp at h
  .rw[h2]at h
   obtain⟨-,h⟩:=cn (show(bif bQ e.name then fG (lx e 0)else false)=true from h)
   obtain⟨n,x,rfl⟩:=wP h2;exact⟨x,rfl,h⟩
 .obtain⟨n,rfl⟩:=o9 h1
  simp[Ex.kind]at a
structure DOK (ds:List cZ) (ps:List By):Prop where
 dl:ds.length<=2^40
 ds:∀d∈ds,rT d.ex
 ps:ps.length<=2^40
abbrev bb(a:List cZ)(ps:List By):Bx:=.aH [vL 6 (a.map cZ.row),vL 1 (aJ ps)]
def agL(a:List cZ)(ps:List By)(b:DOK a ps)(e:Ex)(q:(e.kind==4)=true)(p:cz e=true)(s:rT e):ak 222 [.az 0 0,oC e] [bb a ps] [v7 (jh a ps e).1,vN (jh a ps e).2] [bb a ps]:=by
 obtain⟨k,o,n,v,l⟩:=e;obtain rfl:k=4:=bZ q;obtain⟨x,y,rfl,rfl,rfl,-,t,E⟩:=Mv p;have m:=dZ s.2.2.2;have u:=m x (by simp)
 have w:=m y (by simp)
 have g:=aby a y b.dl b.ds w;have fin:∀(i o mask:Int),aI ((ck a y).2 !=0) (Fi [v7 (oE a i o mask y).1,vN (oE a i o mask y).2] [bb a ps] [.agg [N 0,N 0,N 0,U 0,U 0,L 6 []],vN (ck a y).2] [bb a ps]) (Fi [v7 (oE a i o mask y).1,vN (oE a i o mask y).2] [bb a ps] [.agg [N 5,N i,N o,U mask,U (ck a y).1,L 6 []],vN 0] [bb a ps]):=
  fun i o mask=>ad (fun h=>aZ (by rw[oE,h];rfl)) fun h=>aZ (by rw[oE,h];rfl)
 apply agI;refine⟨x.kind,x.op,x.name,x.num,bt x.kids,by omega,by rw[<-Ex.cu];rfl,_,Ro x.name ps b.ps,_,agK o,ad (fun h=>aZ (by simp only[jh,h];rfl)) fun c=>ad (fun h=>?_) fun h=>?_⟩
 .obtain⟨z,f,D⟩:=HY t h
  have j:lx x 0=z:=by rw[lx,f];rfl
  have r:=dZ ((kE x).1 u).2.2.2 z (by rw[f];simp)
  refine⟨z.kind,z.op,z.name,z.num,bt z.kids,by omega,by rw[f,<-Ex.cu];rfl,_,_,aby a z b.dl b.ds r,ad (fun d=>aZ ?_) fun d=>⟨y.kind,y.op,y.name,y.num,bt y.kids,by omega,by rw[<-Ex.cu];rfl,_,_,g,?_⟩⟩
  .simp only[jh,c,h,j,d];rfl
  .simp only[jh,c,h,j,d,ai,af]
   exact fin _ _ _
 .refine⟨y.kind,y.op,y.name,y.num,bt y.kids,by omega,by rw[<-Ex.cu];rfl,_,_,g,?_⟩
  simp only[jh,c,h,af];exact fin _ _ _
def abG(a:List cZ)(ps:List By)(s:DOK a ps):∀(d:Nat)(e:Ex),bL e<=d->cz e=true->rT e->ak 157 [.az 0 0,oC e] [bb a ps] [v7 (dS a ps e).1,vN (dS a ps e).2] [bb a ps]
 |0,e,h,_,_=>by rw[cO]at h;omega
 |d+1,e,h,q,u=>by
  have y:=(kE e).1 u;have loop:∀(k:Int),(e.kind==4)=false->tO (bt e.kids) (bt e.kids).length 0 (a.map cZ.row) (aJ ps) 0 0 0 0 0 [] k 0 0 0 0 [] [v7 (hQ a ps e.kids [] k).1,vN (hQ a ps e.kids [] k).2] [bb a ps]:=by
   intro k b;have key:∀(t:List Ex)(i:Nat)(f:List Cn),e.kids.drop i=t->f.length<=i->tO (bt e.kids) e.kids.length i (a.map cZ.row) (aJ ps) 0 0 0 0 0 [] k 0 0 0 0 (da f) [v7 (hQ a ps t f k).1,vN (hQ a ps t f k).2] [bb a ps]:=by
    intro t;induction t with
    |nil=>intro i f m _;apply Sm;exact aQ (l:=e.kids) rfl m (aZ (by rw[hQ];rfl))
    |cons x t w=>
     intro i f m r;obtain⟨g,j,z⟩:=bM m;have o:=aK g;have D:=ek x o;rw[cO e]at h;have c:=abG a ps s d x (by omega) (Ao q b x o) (dZ y.2.2.2 x o)
     have p:da f++([[N (dS a ps x).1.kind,N (dS a ps x).1.arg,N (dS a ps x).1.op,U (dS a ps x).1.mask,U (dS a ps x).1.value,L 6 (da (dS a ps x).1.kids)]]:Rw)=da (f++[(dS a ps x).1]):=by
      rw[dA f,dA (f++[(dS a ps x).1]),bN,<-Cn.cu];rfl
     apply Sm;refine aL (l:=e.kids) rfl m ⟨x.kind,x.op,x.name,x.num,bt x.kids,by omega,by rw[dw,<-Ex.cu];exact aP g,_,_,_,_,_,_,_,c,ad (fun n=>aZ (by rw[hQ,n];rfl)) fun n=>⟨?_,au,?_⟩⟩
     .rw[p,dA];simp;omega
     .rw[p,hQ,n]
      exact w (i+1) _ j (by simp;omega)
   rw[show(bt e.kids).length=e.kids.length by rw[dw,al]]
   exact key e.kids 0 [] rfl (by simp)
  apply agH;have v:dS a ps e=bif e.kind==4 then jh a ps e else hQ a ps e.kids [] (bif e.kind==1 then 4 else bif e.kind==2 then 3 else 2):=by cases e;rfl
  rw[v];exact ad (fun b=>⟨_,_,_,_,_,_,_,agL a ps s e b q u,aZ (by rw[b];rfl)⟩) fun b=>ad (fun g=>by rw[b,g];exact loop 4 b) fun g=>ad (fun j=>by rw[b,g,j];exact loop 3 b) fun j=>by rw[b,g,j];exact loop 2 b
def rW:List By->List By->Bool
 |[],_=>false
 |x::t,pre=>bif gh x pre then true else rW t (pre++[x])
def dq(r:gP)(c:Cl):List By×Int:=
 bif decide ((r.params.length:Int)>(c.params.length:Int))then([],9)else bif rW r.params []then([],8)else(r.params++c.params.drop r.params.length,0)
def agM(r:gP)(c:Cl)(h:Af r)(o:c.params.length<=2^40):ak 156 [qO r,clA c] [] [vL 1 (aJ (dq r c).1),vN (dq r c).2] []:=by
 have e:(aJ r.params).length=r.params.length:=al ..;have g:(aJ c.params).length=c.params.length:=al ..;have p:=h.pl;have f:drop (toNat ((aJ r.params).length:Int)) (take (aJ c.params).length (aJ c.params))=aJ (c.params.drop r.params.length):=by
  rw[dE (ar _),toNat_cast,e,aJ,aJ,mV]
 cases h1:decide ((r.params.length:Int)>(c.params.length:Int))
 .have hlen:=bI h1
  have key:∀(t:List By)(i:Nat),r.params.drop i=t->Fp (aJ r.params) r.params.length i r.call (aJ r.params) (r.cond.map Ex.row) c.name c.nr (aJ c.params) (bif rW t (r.params.take i)then[vL 1 [],vN 8]else[.own 0 0 1 (aJ (r.params++c.params.drop r.params.length)),vN 0]) []:=by
   intro t;induction t with
   |nil=>
    intro i b;apply Sl;refine aQ (l:=r.params) rfl b ⟨_,aav (aJ r.params) (by omega),⟨by omega,by omega,by omega⟩,?_,aZ ?_⟩
    .rw[f];simp[aJ];omega
    .rw[f];simp[aJ,rW]
   |cons x t m=>
    intro i b;obtain⟨a,k,n⟩:=bM b;have j:drop 0 (take (toNat (i:Int)) (aJ r.params))=aJ (r.params.take i):=by rw[fK,toNat_cast,aJ,aJ,iD]
    apply Sl;refine aL (l:=r.params) rfl b ⟨x,by omega,aP a,⟨by omega,by omega,by omega⟩,_,by rw[j];exact UW x (r.params.take i) (by simp;omega),ad (fun d=>aZ (by rw[rW,d];rfl)) fun d=>⟨au,?_⟩⟩
    have:=m (i+1) k;rw[eE,a]at this;rw[rW,d];exact this
  have w:ak 156 [qO r,clA c] [] (bif rW r.params []then[vL 1 [],vN 8]else[.own 0 0 1 (aJ (r.params++c.params.drop r.params.length)),vN 0]) []:=by
   apply abE;rw[e,g];exact aw h1 (key r.params 0 rfl)
  rw[dq,h1];cases a:rW r.params []
  .rw[a]at w;exact Go.Ac.ak.soft w rfl
  .rw[a]at w;exact w
 .apply abE
  rw[e,g];exact bj h1 (aZ (by rw[dq,h1];rfl))
structure Bd where
 nr:Int
 act:Act
 cond:Cn
def Bd.row(b:Bd):List PV:=W b.nr::N b.act.kind::N b.act.data::b.cond.row
def bdC(b:Bd):List PV:=[W b.nr,N b.act.kind,N b.act.data,N b.cond.kind,N b.cond.arg,N b.cond.op,U b.cond.mask,U b.cond.value,L 6 (da b.cond.kids)]
def Bd.cu(b:Bd):b.row=bdC b:=by rw[Bd.row,Cn.cu];rfl
abbrev Y6(b:Bd):AV:=.agg [W b.nr,N b.act.kind,N b.act.data,N b.cond.kind,N b.cond.arg,N b.cond.op,U b.cond.mask,U b.cond.value,L 6 (da b.cond.kids)]
def OK:Bd:=⟨0,⟨0,0⟩,wU⟩
def kH(b:List cZ)(ps:List By)(nr:Int)(a:Act):List Ex->Cn->Bd×Int
 |[],c=>(⟨nr,a,c⟩,0)
 |x::t,_=>bif(dS b ps x).2 !=0 then(OK,(dS b ps x).2)else kH b ps nr a t (dS b ps x).1
def eu(u:fT)(ao:By)(r:gP)(a:Act):Bd×Int:=match kG ao r.call with
 |none=>(OK,7)
 |some c=>bif(dq r c).2 !=0 then(OK,(dq r c).2)else kH u.aF (dq r c).1 c.nr a r.cond (.mk 1 0 0 0 0 [])
def HZ(h:kG ao name=some c):c.params.length<=6:=by
 have b:=mB h;have g:∀j l,(∀r∈l,(jC r.params).length<=6)->∀c∈kF j l,c.params.length<=6:=by
  intro j l;induction l with
  |nil=>intro _ c a;simp[kF]at a
  |cons r l f=>
   intro d c a;unfold kF at a;cases hz:r.nr j != -1<;>rw[hz]at a
   .exact f (fun r e=>d r (aV _ e)) c a
   .rcases aY.1 a with rfl|a
    .exact d r aW
    .exact f (fun r e=>d r (aV _ e)) c a
 unfold wS at b;cases hz:decide (idx (ao == ·) ns<0)<;>rw[hz]at b
 .exact g _ lY (by decide) c b
 .simp at b
def xG(r:gP)(c:Cl)(h:r.params.length<=2^39)(a:c.params.length<=6):(dq r c).1.length<=2^40:=by
 unfold dq;cases decide ((r.params.length:Int)>(c.params.length:Int))
 .cases rW r.params []
  .simp;omega
  .simp
 .simp
def agO(u:fT)(ao:By)(r:gP)(a:Act)(n:og u)(f:Af r)(s:∀e∈r.cond,cz e=true):
  ak 105 [qm u,vS ao,qO r,zX a] [] [Y6 (eu u ao r a).1,vN (eu u ao r a).2] []:=by
 apply agG;refine⟨_,_,_,_,agv ao r.call,?_⟩;cases hc:kG ao r.call with
 |none=>exact bj rfl (aZ (by rw[eu,hc];rfl))
 |some c=>
  have q:=HZ hc;have w:=xG r c f.pl q;refine aw rfl ⟨_,_,agM r c f (by omega),ad (fun g=>aZ (by rw[eu,hc];simp only[g];rfl)) fun g=>?_⟩
  have k:DOK u.aF (dq r c).1:=⟨n.dl,fun d k=>(n.aF d k).2,w⟩
  have h:=f.cl;have key:∀(t:List Ex)(i:Nat)(z:Cn),r.cond.drop i=t->Fo (aJ (dq r c).1) (r.cond.map Ex.row) r.cond.length i (u.aF.map cZ.row) (u.aB.map cW.row) (aJ u.main) u.ch.kind u.ch.data 0 0 0 0 0 0 0 0 [] c.nr a.kind a.data z.kind z.arg z.op z.mask z.value (da z.kids) [Y6 (kH u.aF (dq r c).1 c.nr a t z).1,vN (kH u.aF (dq r c).1 c.nr a t z).2] []:=by
   intro t;induction t with
   |nil=>intro i z b;apply Sk;exact aQ (l:=r.cond) rfl b fi
   |cons x t v=>
    intro i z b;obtain⟨m,p,y⟩:=bM b;have o:=aK m;apply Sk;refine aL (l:=r.cond) rfl b ⟨x.kind,x.op,x.name,x.num,bt x.kids,by omega,by rw[<-Ex.cu];exact aP m,_,_,_,_,_,_,_,abG _ _ k _ x (ar _) (s x o) (f.cond x o).1,ad (fun j=>aZ (by rw[kH,j];rfl)) fun j=>⟨au,?_⟩⟩
    rw[kH,j];exact v (i+1) _ p
  rw[eu,hc];simp only[g,af];rw[al];exact key r.cond 0 (.mk 1 0 0 0 0 []) rfl
def iN(u:fT)(ao:By)(a:Act):List gP->List Bd->Except Int (List Bd)
 |[],b=>.ok b
 |r::t,b=>bif(eu u ao r a).2 !=0 then .error (eu u ao r a).2 else iN u ao a t (b++[(eu u ao r a).1])
def gC(u:fT)(ao:By):List cQ->List Bd->Except Int (List Bd)
 |[],a=>.ok a
 |p::t,a=>match iN u ao p.act p.bk a with
  |.error e=>.error e
  |.ok o=>gC u ao t o
def eS(u:fT)(ao:By):Except Int (List Bd):=
 bif !(dh ao).2 then .error 1 else bif !jm u then .error 1 else match oD u.aF with
  |.error (_,e)=>.error e
  |.ok _=>match nx u.aB u.main with
   |.error e=>.error e
   |.ok l=>gC u ao l []
def OL:Except Int (List Bd)->List AV
 |.error e=>[vL 9 [],vN e]
 |.ok l=>[.own 0 0 9 (l.map Bd.row),vN 0]
def abH:Except Int (List Bd)->List AV
 |.error e=>[vL 9 [],vN e]
 |.ok l=>[vL 9 (l.map Bd.row),vN 0]
structure PB (x:cQ):Prop where
 sm:xD x
 bool:∀r∈x.bk,∀e∈r.cond,cz e=true
def Mw(k:xD x)(c:kW x=true)(l:x.use=[]):PB x:=by
 refine⟨k,fun r j e i=>?_⟩
 unfold kW at c;rw[l]at c;have d:=(cn (show(bif(cg x.act).2 then x.bk.all lX else false)=true from c)).2
 have f:=bf.1 d r j;have a:=(cn (b:=bQ r.call) f).2;cases h4:(bif !(r.params.all bQ)then true else decide ((r.cond.length:Int)>1))<;>rw[h4]at a
 .have g:=bf.1 a e i
  exact(cn (b:=cz e) g).1
 .simp at a
def Ap(u:fT)(ao:By)(a:Act):∀(t:List gP)(b o:List Bd),iN u ao a t b = .ok o->o.length=b.length+t.length
 |[],b,o,h=>by simp[iN]at h;simp[h]
 |r::t,b,o,h=>by
  unfold iN at h;cases hz:(eu u ao r a).2 !=0<;>rw[hz]at h
  .have:=Ap u ao a t _ o h
   simp at this⊢;omega
  .simp at h
def wV(h:oD l = .error (i,e)):(e !=0)=true:=by
 have:∀(l:List cZ)(j:Int)(a:List Int)(m:List Kn),iZ l j a m = .error (i,e)->(e !=0)=true:=by
  intro l;induction l with
  |nil=>intro j a m h;simp[iZ]at h
  |cons d t b=>
   intro j a m h;unfold iZ at h;cases hg:dx (·.1) m d.name with
   |some y=>rw[hg]at h;simp at h;rw[<-h.2];rfl
   |none=>
    rw[hg]at h;simp only at h;cases hz:(ec m d.ex).2 !=0<;>rw[hz]at h
    .exact b _ _ _ h
    .simp at h;rw[<-h.2];exact hz
 exact this l 0 [] [] h
def H0(h:nx ps names = .error e):(e !=0)=true:=by
 unfold nx at h;cases hd:HX ps []<;>rw[hd]at h
 .simp only[af]at h
  cases hz:(fx ps names ⟨[],[],[]⟩).1 !=0<;>rw[hz]at h
  .simp at h
  .simp at h;rw[<-h];exact hz
 .simp at h;rw[<-h];rfl
def U5{ps:List cW}(b:∀p∈ps,∀x∈p.aT,x.use=[]->PB x)(h:nx ps names = .ok l):(∀x∈l,PB x)/\l.length<=500:=by
 unfold nx at h;cases hd:HX ps []<;>rw[hd]at h
 .simp only[af]at h
  cases hz:(fx ps names ⟨[],[],[]⟩).1 !=0<;>rw[hz]at h
  .simp at h
   subst h;have:=rV (Q:=PB) ps b names ⟨[],[],[]⟩ ⟨by simp,by simp,by simp⟩ (by simpa using hz)
   refine⟨fun x c=>?_,by simpa using this.len⟩
   obtain⟨y,d,rfl⟩:=bh.1 c;have a:=this.fq y d;exact⟨⟨by simp[nw],a.sm.rl,a.sm.bk⟩,a.bool⟩
  .simp at h
 .simp at h
def C79(u:fT)(ao:By)(c:og u):ak 79 [qm u,vS ao] [] (abH (eS u ao)) []:=by
 have key:∀(l:List cQ),(∀x∈l,PB x)->l.length<=500->∀(t:List cQ)(j:Nat)(k:List Bd),l.drop j=t->k.length<=j*2^20 ->
   Mt ao (k.map Bd.row) (l.map cQ.row) l.length j (u.aF.map cZ.row) (u.aB.map cW.row) (aJ u.main) u.ch.kind u.ch.data (OL (gC u ao t k)) []:=by
  intro l D a0 t;induction t with
  |nil=>intro j k h _;apply WE;exact aQ (l:=l) rfl h fi
  |cons p t Z=>
   intro j k h R;obtain⟨f,g,K⟩:=bM h;have a:=D p (aK f);have a1:=a.sm.rl;have inner:∀(s:List gP)(i:Nat)(z:List Bd),p.bk.drop i=s->z.length+s.length<=j*2^20+p.bk.length ->
     Mu ao (z.map Bd.row) (l.map cQ.row) l.length j (p.bk.map gP.row) p.bk.length i (u.aF.map cZ.row) (u.aB.map cW.row) (aJ u.main) u.ch.kind u.ch.data p.use p.act.kind p.act.data (p.bk.map gP.row) (OL (match iN u ao p.act s z with|.error e=>.error e|.ok o=>gC u ao t o)) []:=by
    intro s;induction s with
    |nil=>
     intro i z n I;have:=lj n;apply WG;exact aQ (l:=p.bk) rfl n ⟨au,Z (j+1) z g (by
      have e:(j+1)*2^20=j*2^20+2^20:=by rw[cc,cR]
      simp only[cS]at I;omega)⟩
    |cons r s A=>
     intro i z n I;obtain⟨Q,F,k3⟩:=bM n;simp only[aD]at I;have E:=aK Q;apply WG;refine aL (l:=p.bk) rfl n ⟨r.call,aJ r.params,r.cond.map Ex.row,by omega,aP Q,_,_,_,_,_,_,_,_,_,_,agO u ao r p.act c (a.sm.bk r E) (a.bool r E),ad (fun m=>aZ (by rw[iN,m];rfl)) fun m=>⟨by simp;omega,au,?_⟩⟩
     have:=A (i+1) (z++[(eu u ao r p.act).1]) F (by simp;omega)
     rw[iN,m];rw[bN (l₁:=z),show[(eu u ao r p.act).1].map Bd.row=[bdC (eu u ao r p.act).1] by rw[<-Bd.cu];rfl]at this
     exact this
   apply WE;refine aL (l:=l) rfl h ⟨p.use,p.act.kind,p.act.data,p.bk.map gP.row,by omega,aP f,?_⟩
   simp only[al];exact inner p.bk 0 k rfl (by omega)
 have w:ak 79 [qm u,vS ao] [] (OL (eS u ao)) []:=by
  apply W79;refine⟨_,_,C81 ao,ad (fun f=>aZ (by rw[eS,f];rfl)) fun f=>⟨_,agn u c,ad (fun g=>aZ (by rw[eS,f,g];rfl)) fun g=>?_⟩⟩
  have E:jm u=true:=by simpa using g
  rw[eS,f,g];simp only[af];have y:=agx u.aF c.dl fun d Y=>(c.aF d Y).2
  have M:∀p∈u.aB,∀x∈p.aT,x.use=[]->PB x:=by
   intro p a x G J;have K:=(cn (show(bif u.aF.all Ag then(bif(bif u.aB.all wR then decide ((u.main.length:Int)>0)else false)then(bif u.main.all bQ then(cg u.ch).2 else false)else false)else false)=true from E)).2
   have T:=(cn (cn K).1).1;have m:=bf.1 T p a;have X:=(cn (b:=bQ p.name) m).2;exact Mw ((c.aB p a).aT x G) (bf.1 X x G) J
  cases ht:oD u.aF with
  |error q=>
   rw[ht]at y;obtain⟨i,e⟩:=q;have H:(e !=0)=true:=wV ht;exact⟨_,_,_,y,bj H fi⟩
  |ok q=>
   rw[ht]at y;refine⟨_,_,_,y,aw rfl ?_⟩;have v:=agE u.aB u.main (fun p a x G J=>(M p a x G J).sm) (fun p a=>(c.aB p a).pl) c.pl c.ml
   simp only;cases hf:nx u.aB u.main with
   |error e=>
    rw[hf]at v;have H:(e !=0)=true:=H0 hf;exact⟨_,_,v,bj H fi⟩
   |ok l=>
    rw[hf]at v;have D:=U5 M hf;refine⟨_,_,v,aw rfl ?_⟩;rw[al];exact key l D.1 D.2 l 0 [] rfl (by simp)
 cases ht:eS u ao with
 |error p=>rw[ht]at w;exact w
 |ok p=>rw[ht]at w;exact Go.Ac.ak.soft w rfl
def agP(H:cb 336 [.agg [N b,N c,N d,U e,U f,L 6 a]] [] fun g=>aI g (cb 337 [vL 6 a,.fn (.func 338) [] []] [] fun i=>Fi r h [vB (!i)] []) (Fi r h [vB false] [])):
  ak 283 [.agg [N b,N c,N d,U e,U f,L 6 a]] [] r h:=.of func283 {an:=[(1,1,ah)]} H
def agQ(a b:Int)(H:Fi r h [vB (bif(bif(bif(decide (a>=0))then(decide (a<=5))else false)then(decide (b>=1))else false)then(decide (b<=6))else false)] []):
  ak 286 [vN a,vN b] [] r h:=.of func286 {an:=[(1,3,aa),(1,4,aa),(1,7,aa),(1,8,aa),(1,11,aa),(1,12,aa)]} H
def agR(H:aI (a==5) (aI ((f.length:Int)==0) (cb 286 [vN b,vN c] [] fun g=>Fi r h [vB g] []) (Fi r h [vB false] []))
 (aI (a==1) (aI ((f.length:Int)==0) (Fi r h [vB ((((true&&(b==0))&&(c==0))&&(d==0))&&(e==0))] []) (Fi r h [vB false] []))
 (aI (a==2) (aI ((f.length:Int)==1) (Fi r h [vB ((((true&&(b==0))&&(c==0))&&(d==0))&&(e==0))] []) (Fi r h [vB false] []))
 (aI (a==3) (Fi r h [vB ((((true&&(b==0))&&(c==0))&&(d==0))&&(e==0))] [])
 (aI (a==4) (Fi r h [vB ((((true&&(b==0))&&(c==0))&&(d==0))&&(e==0))] [])
 (Fi r h [vB false] [])))))):
  ak 336 [.agg [N a,N b,N c,U d,U e,L 6 f]] [] r h:=.of func336 {an:=[(4,9,ah)]} H
def agS(H:cb 283 [.agg [N a,N b,N c,U d,U e,L 6 f]] [] fun g=>Fi r h [vB (!g)] []):
  ak 338 [.agg [N a,N b,N c,U d,U e,L 6 f]] [] r h:=.of func338 {an:=[(1,1,ah)]} H
def agT(H:cb 283 [.agg [N a,N b,N c,U d,U e,L 6 f]] [] fun n=>aI (!n) (Fi r h [.agg [N 4,N 0,N 0,U 0,U 0,L 6 []]] [])
 (∃g i j k l m,ak 284 [.agg [N a,N b,N c,U d,U e,L 6 f],vB true] [] [.agg [N g,N i,N j,U k,U l,L 6 m]] []/\Fi r h [.agg [N g,N i,N j,U k,U l,L 6 m]] [])):
  ak 224 [.agg [N a,N b,N c,U d,U e,L 6 f]] [] r h:=.of func224 {an:=[(1,1,ah),(3,1,ah)]} H
def agU(H:aI (b==2) (sL c 0 fun t u v w x y=>∃i j k l m n,ak 284 [.agg [N t,N u,N v,U w,U x,L 6 y],vB (!a)] [] [.agg [N i,N j,N k,U l,U m,L 6 n]] []/\Fi r h [.agg [N i,N j,N k,U l,U m,L 6 n]] [])
 (aI (bif(b==1)then(!a)else false) (Fi r h [.agg [N 4,N 0,N 0,U 0,U 0,L 6 []]] [])
 (aI (bif(b==5)then(!a)else false) (kQ 339 [vN e] [] fun z=>∃o,ak 340 [vL 6 c,vB a] [] [vL 6 o] []/\Fi r h [.agg [N b,N d,N z,U f,U g,L 6 o]] [])
 (aI (bif(b==3)then(!a)else false) (∃p,ak 340 [vL 6 c,vB a] [] [vL 6 p] []/\Fi r h [.agg [N 4,N d,N e,U f,U g,L 6 p]] [])
 (aI (bif(b==4)then(!a)else false) (∃q,ak 340 [vL 6 c,vB a] [] [vL 6 q] []/\Fi r h [.agg [N 3,N d,N e,U f,U g,L 6 q]] [])
 (∃s,ak 340 [vL 6 c,vB a] [] [vL 6 s] []/\Fi r h [.agg [N b,N d,N e,U f,U g,L 6 s]] [])))))):
  ak 284 [.agg [N b,N d,N e,U f,U g,L 6 c],vB a] [] r h:=.of func284 {an:=[(2,3,ah),(2,6,ah),(3,4,aa),(3,5,aa),(5,4,aa),(5,5,aa),(6,3,ah),(7,4,aa),(7,5,aa),(9,4,aa),(9,5,aa),(11,3,ah)]} H
def agV(a:Int)(H:aI (a==1) (Fi r h [vN 2] [])
 (aI (a==2) (Fi r h [vN 1] [])
 (aI (a==3) (Fi r h [vN 6] [])
 (aI (a==6) (Fi r h [vN 3] [])
 (aI (a==5) (Fi r h [vN 4] [])
 (Fi r h [vN 5] [])))))):
  ak 339 [vN a] [] r h:=.of func339 {} H
abbrev Fq(a:Bool)(b c:Rw)(d e:Int)r h:=Lp f340 0 ⟨aO 22 [(1,vB a),(5,.own 0 0 6 b),(8,vL 6 c),(9,vN d),(10,vN e)],[some 0],[]⟩ 0 r h
def abI:df:={an:=[(4,1,ah),(5,3,ah)],cut:=[(3,{bl:=[1,5,8,9,10],cN:=[(5,6)],owns:=[5]})]}
def agW(H:Fq b [] a (a.length:Int) 0 r h):
  ak 340 [vL 6 a,vB b] [] r h:=.of func340 abI H
def Sq(c:Bool)(b d:Rw)(e a:Int)(H:bP (a<e) (sL d a fun m n o p q s=>∃f g i j k l,ak 284 [.agg [N m,N n,N o,U p,U q,L 6 s],vB c] [] [.agg [N f,N g,N i,U j,U k,L 6 l]] []/\(b++([[N f,N g,N i,U j,U k,L 6 l]]:Rw)).length*64<=2^47/\aq (a+1)/\Fq c (b++([[N f,N g,N i,U j,U k,L 6 l]]:Rw)) d e (a+1) r h)
 (Fi r h [.own 0 0 6 b] [])):
  Fq c b d e a r h:=.of abI H
def agX(H:∃g i j k l m,ak 224 [.agg [N a,N b,N c,U d,U e,L 6 f]] [] [.agg [N g,N i,N j,U k,U l,L 6 m]] []/\qZ8 223 [.agg [N g,N i,N j,U k,U l,L 6 m]] [] fun n o=>aI (!o) (Fi r h [vL 1 [],vN 9] [])
 (Fi r h [vL 1 n,vN 0] [])):
  ak 159 [.agg [N a,N b,N c,U d,U e,L 6 f]] [] r h:=.of func159 {an:=[(1,1,ah),(1,2,ah)]} H
abbrev wW(a b:Rw)(c d e f g i j:Int)(k:Rw)r h:=Lp f223 0 ⟨aO 47 [(1,.az 0 0),(4,.own 0 0 1 a),(22,vL 6 b),(23,vN c),(24,vN d)],[some 0],[K10 e f g i j k]⟩ 0 r h
def abJ:df:={an:=[(7,0,{bF:=true}),(10,1,ah),(11,1,ah),(14,4,{fz:=true,bF:=true,cons:=[1]})],cut:=[(9,{bl:=[1,4,22,23,24],cN:=[(4,1)],owns:=[4]})]}
def agY(H:aI (b==5) (Fi r h [vL 1 [[L 4 [[N c,N d,U e,U f]]]],vB true] [])
 (aI (b==1) (wW [[L 4 []]] a (a.length:Int) 0 b c d e f a r h)
 (aI (b==3) (wW [[L 4 []]] a (a.length:Int) 0 b c d e f a r h)
 (wW [] a (a.length:Int) 0 b c d e f a r h)))):
  ak 223 [.agg [N b,N c,N d,U e,U f,L 6 a]] [] r h:=.of func223 abJ H
def Sr(b c:Rw)(H:bP (a<d) (sL c a fun n o p q s t=>qZ8 223 [.agg [N n,N o,N p,U q,U s,L 6 t]] [] fun u v=>aI (!v) (Fi r h [vL 1 [],vB false] [])
 (∃l m,ak 282 [vN e,.own 0 0 1 b,vL 1 u] [] [.own 0 0 1 l,vB m] []/\aI (!m) (Fi r h [vL 1 [],vB false] [])
 (aq (a+1)/\wW l c d (a+1) e f g i j k r h)))
 (Fi r h [.own 0 0 1 b,vB true] [])):
  wW b c d a e f g i j k r h:=.of abJ H
abbrev Fu(a b c:Rw)(d e:Int)r h:=Lp f225 0 ⟨aO 39 [(1,vL 1 a),(6,.own 0 0 1 b),(17,vL 1 c),(18,vN d),(19,vN e)],[some 0],[]⟩ 0 r h
abbrev Fv(a b c d:Rw)(e f:Int)(g:Rw)(i j:Int)r h:=Lp f225 1 ⟨aO 39 [(1,vL 1 a),(6,.own 0 0 1 b),(8,vL 5 c),(17,vL 1 d),(18,vN e),(19,vN f),(23,vL 1 g),(24,vN i),(25,vN j)],[some 0],[]⟩ 0 r h
def Y7:df:={an:=[(6,1,ah),(9,1,ah),(10,4,ah)],cut:=[(5,{bl:=[1,6,17,18,19],cN:=[(6,1)],owns:=[6]}),(8,{bl:=[1,6,8,17,18,19,23,24,25],cN:=[(6,1)],owns:=[6]})],rf:=true}
def agZ(H:aq ((a.length:Int)*(b.length:Int))/\bP (((a.length:Int)*(b.length:Int))>256) (Fi r h [.own 0 0 1 [],vB false] [])
 (Fu b [] a (a.length:Int) 0 r h)):
  ak 225 [vL 1 a,vL 1 b] [] r h:=.of func225 Y7 H
def Ss(H:bP (b<e) (wA d b fun f=>Fv a c f d e b a (a.length:Int) 0 r h)
 (Fi r h [.own 0 0 1 c,vB true] [])):
  Fu a c d e b r h:=.of Y7 H
def Su(d b e f:Rw)(H:bP (a<j) (wA i a fun l=>Kf 285 [vL 1 [[L 5 e],[L 5 l]]] [] fun k=>(b++([[L 5 k]]:Rw)).length*24<=2^47/\aq (a+1)/\Fv d (b++([[L 5 k]]:Rw)) e f g c i j (a+1) r h)
 (aq (c+1)/\Fu d b f g (c+1) r h)):
  Fv d b e f g c i j a r h:=.of Y7 H
def ag0(H:aI (c==3) (∃d e,ak 335 [vL 1 a,vL 1 b] [] [.own 0 0 1 d,vB e] []/\Fi r h [.own 0 0 1 d,vB e] [])
 ((a++b).length*24<=2^47/\Fi r h [.own 0 0 1 (a++b),vB (decide (((a++b).length:Int)<=256))] [])):
  ak 282 [vN c,.own 0 0 1 a,vL 1 b] [] r h:=.of func282 {an:=[(2,2,{fz:=true,bF:=true})]} H
abbrev Fw(a b c:Rw)(d e:Int)r h:=Lp f335 0 ⟨aO 39 [(1,vL 1 a),(6,.own 0 0 1 b),(17,vL 1 c),(18,vN d),(19,vN e)],[some 0],[]⟩ 0 r h
abbrev Fx(a b c d:Rw)(e f:Int)(g:Rw)(i j:Int)r h:=Lp f335 1 ⟨aO 39 [(1,vL 1 a),(6,.own 0 0 1 b),(8,vL 4 c),(17,vL 1 d),(18,vN e),(19,vN f),(23,vL 1 g),(24,vN i),(25,vN j)],[some 0],[]⟩ 0 r h
def Y8:df:={an:=[(6,1,ah),(9,1,ah),(10,4,ah)],cut:=[(5,{bl:=[1,6,17,18,19],cN:=[(6,1)],owns:=[6]}),(8,{bl:=[1,6,8,17,18,19,23,24,25],cN:=[(6,1)],owns:=[6]})],rf:=true}
def ag1(H:aq ((a.length:Int)*(b.length:Int))/\bP (((a.length:Int)*(b.length:Int))>256) (Fi r h [.own 0 0 1 [],vB false] [])
 (Fw b [] a (a.length:Int) 0 r h)):
  ak 335 [vL 1 a,vL 1 b] [] r h:=.of func335 Y8 H
def Sv(H:bP (b<e) (Qk d b fun f=>Fx a c f d e b a (a.length:Int) 0 r h)
 (Fi r h [.own 0 0 1 c,vB true] [])):
  Fw a c d e b r h:=.of Y8 H
def Sw(d b e f:Rw)(H:bP (a<j) (Qk i a fun l=>∃k,ak 358 [vL 1 [[L 4 e],[L 4 l]]] [] [vL 4 k] []/\(b++([[L 4 k]]:Rw)).length*24<=2^47/\aq (a+1)/\Fx d (b++([[L 4 k]]:Rw)) e f g c i j (a+1) r h)
 (aq (c+1)/\Fw d b f g (c+1) r h)):
  Fx d b e f g c i j a r h:=.of Y8 H
mutual
def ew:Cn->Nat|.mk _ _ _ _ _ l=>ep l+1
def ep:List Cn->Nat|[]=>0|x::t=>ew x+ep t
end
def kI(c:Cn):ew c=ep c.kids+1:=by cases c;rfl
def pa:∀{l:List Cn}{x:Cn},x∈l->ew x<=ep l
 |[],_,h=>by simp at h
 |y::l,x,h=>by
  rcases aY.1 h with rfl|h
  .simp only[ep];omega
  .have:=pa h;simp only[ep];omega
def sX:∀(l:List Cn),l.length<=ep l
 |[]=>ar _
 |y::l=>by have:=sX l;have:=kI y;simp only[ep,aD];omega
def vx(arg op:Int):Bool:=bif(bif(bif(decide (arg>=0))then(decide (arg<=5))else false)then(decide (op>=1))else false)then(decide (op<=6))else false
def Y9(arg op:Int):ak 286 [vN arg,vN op] [] [vB (vx arg op)] []:=agQ _ _ fi
def H2(c:Cn):Bool:=((((true&&(c.arg==0))&&(c.op==0))&&(c.mask==0))&&(c.value==0))
def mg(c:Cn):Bool:=
 bif c.kind==5 then(bif(c.kids.length:Int)==0 then vx c.arg c.op else false)else bif c.kind==1 then(bif(c.kids.length:Int)==0 then H2 c else false)else
 bif c.kind==2 then(bif(c.kids.length:Int)==1 then H2 c else false)else bif c.kind==3 then H2 c else bif c.kind==4 then H2 c else false
def ag2(c:Cn):ak 336 [v7 c] [] [vB (mg c)] []:=by
 have f:(da c.kids).length=c.kids.length:=by rw[dA,al]
 apply agR;rw[f];exact ad (fun h=>ad (fun a=>⟨_,Y9 _ _,aZ (by rw[mg,h,a];rfl)⟩) fun a=>aZ (by rw[mg,h,a];rfl)) fun b=>
  ad (fun h=>ad (fun a=>aZ (by rw[mg,b,h,a];rfl)) fun a=>aZ (by rw[mg,b,h,a];rfl)) fun a=>
  ad (fun h=>ad (fun d=>aZ (by rw[mg,b,a,h,d];rfl)) fun d=>aZ (by rw[mg,b,a,h,d];rfl)) fun d=>
  ad (fun h=>aZ (by rw[mg,b,a,d,h];rfl)) fun e=>ad (fun h=>aZ (by rw[mg,b,a,d,e,h];rfl)) fun h=>aZ (by rw[mg,b,a,d,e,h];rfl)
mutual
def oF:Cn->Bool|.mk k a o m v l=>bif mg (.mk k a o m v l)then yG l else false
def yG:List Cn->Bool|[]=>true|x::t=>oF x&&yG t
end
def CK(c:Cn):oF c=bif mg c then c.kids.all oF else false:=by
 have:∀l,yG l=l.all oF:=by
  intro l;induction l with
  |nil=>rfl
  |cons x l b=>rw[yG,b];rfl
 obtain⟨k,a,o,m,v,l⟩:=c;rw[oF,this];rfl
def abK:∀(d:Nat)(c:Cn),ew c<=d->d<=2^40->ak 283 [v7 c] [] [vB (oF c)] []
 |0,c,h,_=>by rw[kI]at h;omega
 |d+1,c,h,g=>by
  have m:=kI c;have k:=sX c.kids;rw[CK];apply agP;refine⟨_,ag2 c,ad (fun a=>⟨_,Q3 _ ⟨_,Q7 _ ?_,fi⟩,aZ (by rw[a,qn];rfl)⟩) fun a=>aZ (by rw[a];rfl)⟩
  rw[dA];exact eZ (Hd:=fun i=>qc _ _ i) (p:=fun x => !oF x) (l:=c.kids) (by omega) fun i r j e f=>KI _ _ _ (fg (l:=c.kids) (by simp) (fun x b=>⟨x.kind,x.arg,x.op,x.mask,x.value,da x.kids,by omega,(aP b).trans (by rw[Cn.cu]),_,
   by apply agS;exact⟨_,abK d x (by have:=pa (aK b);omega) (by omega),fi⟩,e x b⟩) f)
def rZ(op:Int):Int:=bif op==1 then 2 else bif op==2 then 1 else bif op==3 then 6 else bif op==6 then 3 else bif op==5 then 4 else 5
def ag3(op:Int):ak 339 [vN op] [] [vN (rZ op)] []:=
 agV op (ad (fun h=>aZ (by rw[rZ,h];rfl)) fun a=>ad (fun h=>aZ (by rw[rZ,a,h];rfl)) fun b=>ad (fun h=>aZ (by rw[rZ,a,b,h];rfl)) fun c=>
  ad (fun h=>aZ (by rw[rZ,a,b,c,h];rfl)) fun d=>ad (fun h=>aZ (by rw[rZ,a,b,c,d,h];rfl)) fun h=>aZ (by rw[rZ,a,b,c,d,h];rfl))
mutual
def oh:Cn->Bool->Cn
 |.mk k a o m v l,b=>bif k==2 then(pd l (!b)).headD wU else bif(bif k==1 then !b else false)then .mk 4 0 0 0 0 []else
  bif(bif k==5 then !b else false)then .mk k a (rZ o) m v (pd l b)else bif(bif k==3 then !b else false)then .mk 4 a o m v (pd l b)else
  bif(bif k==4 then !b else false)then .mk 3 a o m v (pd l b)else .mk k a o m v (pd l b)
def pd:List Cn->Bool->List Cn
 |[],_=>[]
 |x::t,b=>oh x b::pd t b
end
def CM:∀(l:List Cn)(a:Bool),pd l a=l.map fun x=>oh x a
 |[],_=>rfl
 |x::t,a=>by rw[pd,CM t a];rfl
def U6(l:List Cn)(n:l.length<=2^40)(k:∀x∈l,ak 284 [v7 x,vB b] [] [v7 (oh x b)] []):ak 340 [vL 6 (da l),vB b] [] [vL 6 (da (pd l b))] []:=by
 have key:∀(t:List Cn)(i:Nat)(a:List Cn),l.drop i=t->a=(l.take i).map (fun x=>oh x b)->Fq b (da a) (da l) l.length i [.own 0 0 6 (da (pd l b))] []:=by
  intro t;induction t with
  |nil=>
   intro i a c d;have:=lj c;rw[dE this,<-CM]at d;rw[d];exact Sq _ _ _ _ _ (aQ (l:=l) rfl c fi)
  |cons x t j=>
   intro i a c d;obtain⟨e,g,m⟩:=bM c;have f:∀z:Cn,da a++([[N z.kind,N z.arg,N z.op,U z.mask,U z.value,L 6 (da z.kids)]]:Rw)=da (a++[z]):=by
    intro z;rw[dA a,dA (a++[z]),bN,<-Cn.cu];rfl
   have o:a.length<=i:=by rw[d];simp;omega
   refine Sq _ _ _ _ _ (aL (l:=l) rfl c ⟨x.kind,x.arg,x.op,x.mask,x.value,da x.kids,by omega,?_,_,_,_,_,_,_,k x (aK e),?_,au,?_⟩)
   .rw[dA,<-Cn.cu];exact aP e
   .rw[f,dA];simp;omega
   .rw[f]
    exact j (i+1) _ g (by rw[d,eE,e];simp)
 refine Go.Ac.ak.soft (r:=[.own 0 0 6 _]) ?_ rfl;apply agW;rw[show(da l).length=l.length by rw[dA,al]]
 exact key l 0 [] rfl rfl
def abL:∀(d:Nat)(c:Cn)(n:Bool),ew c<=d->d<=2^40->oF c=true->ak 284 [v7 c,vB n] [] [v7 (oh c n)] []
 |0,c,_,h,_,_=>by rw[kI]at h;omega
 |d+1,c,n,h,y,q=>by
  have r:=kI c;have z:=sX c.kids;rw[CK]at q;obtain⟨w,u⟩:=cn q;have t:∀(b:Bool),∀x∈c.kids,ak 284 [v7 x,vB b] [] [v7 (oh x b)] []:=fun b x s=>abL d x b (by have:=pa s;omega) (by omega) (bf.1 u x s)
  have p:=U6 c.kids (by omega) (t n)
  obtain⟨k,a,o,m,v,l⟩:=c;apply agU;refine ad (fun f=>?_) fun f=>ad (fun e=>aZ ?_) fun e=>ad (fun g=>⟨_,ag3 o,_,p,aZ ?_⟩) fun g=>ad (fun i=>⟨_,p,aZ ?_⟩) fun i=>ad (fun j=>⟨_,p,aZ ?_⟩) fun j=>⟨_,p,aZ ?_⟩
  .obtain rfl:k=2:=bZ f
   have e:((l.length:Int)==1)=true:=(cn (show(bif(l.length:Int)==1 then H2 (.mk 2 a o m v l)else false)=true from w)).1
   have g:=bZ e;match l,g with
   |[x],_=>
    exact⟨x.kind,x.arg,x.op,x.mask,x.value,da x.kids,by omega,by rw[<-Cn.cu];rfl,_,_,_,_,_,_,t (!n) x (by simp[Cn.kids]),fi⟩
  .simp only[Cn.kind]at f e;rw[oh,f,e];rfl
  .simp only[Cn.kind]at f e g;rw[oh,f,e,g];rfl
  .simp only[Cn.kind]at f e g i;rw[oh,f,e,g,i];rfl
  .simp only[Cn.kind]at f e g i j;rw[oh,f,e,g,i,j];rfl
  .simp only[Cn.kind]at f e g i j;rw[oh,f,e,g,i,j];rfl
def tq(c:Cn):Cn:=bif !oF c then .mk 4 0 0 0 0 []else oh c true
def ag4(c:Cn)(a:ew c<=2^40):ak 224 [v7 c] [] [v7 (tq c)] []:=by
 apply agT;exact⟨_,abK _ c (ar _) a,ad (fun h=>aZ (by rw[tq,h];rfl)) fun h=>⟨_,_,_,_,_,_,abL _ c true (ar _) a (by simpa using h),aZ (by rw[tq,h];rfl)⟩⟩
mutual
theorem Aq:∀(c:Cn)(b:Bool),ew (oh c b)<=ew c
 |.mk k a o m v l,b=>by
  have e:=tP l b;have d:=tP l (!b);unfold oh;cases k==2
  .cases(bif k==1 then !b else false)
   .cases(bif k==5 then !b else false)
    .cases(bif k==3 then !b else false)
     .cases(bif k==4 then !b else false)<;>simp only[ai,af,ew]<;>omega
     .simp only[ai,af,ew];omega
    .simp only[ai,af,ew];omega
   .simp only[ai,af,ew,ep];omega
  .simp only[ai]
   cases hd:pd l (!b)with
   |nil=>simp only[List.headD,wU,ew,ep];omega
   |cons x t=>rw[hd]at d;simp only[ep]at d;simp only[List.headD,ew];omega
theorem tP:∀(l:List Cn)(b:Bool),ep (pd l b)<=ep l
 |[],_=>ar _
 |x::t,b=>by have:=Aq x b;have:=tP t b;simp only[pd,ep];omega
end
def Ar(c:Cn):ew (tq c)<=ew c:=by
 unfold tq;have:=kI c;cases oF c
 .simp only[km,ai,ew,ep];omega
 .exact Aq c true
abbrev vy(a b c d e:Int)r h:=Rp f226 13 ⟨aO 47 [(1,.az 0 0),(3,vN a)],[],[.aH [vN b,vN c,vU d,vU e]]⟩ 0 r h
def abM:df:={an:=[(1,4,ah),(6,1,ah),(6,3,ah),(8,1,ah),(8,4,ah),(13,2,ah),(13,5,ah),(13,9,ah)],join:=[(13,{bl:=[1,3]})]}
def ag5(H:cb 286 [vN b,vN a] [] fun e=>aI (!e) (Fi r h [vL 1 []] [])
 (aI (a==1) (Kh 287 [.agg [N b,N a,U c,U d],vB true,vN 1] [] fun f g i j k=>Kh 287 [.agg [N b,N a,U c,U d],vB false,vN 1] [] fun l m n o p=>Fi r h [vL 1 [[L 5 [[N f,N g,B i,W j,W k],[N l,N m,B n,W o,W p]]]]] [])
 (aI (a==2) (Kh 287 [.agg [N b,N a,U c,U d],vB true,vN 2] [] fun q s t u v=>Kh 287 [.agg [N b,N a,U c,U d],vB false,vN 2] [] fun w x y z D=>Fi r h [vL 1 [[L 5 [[N q,N s,B t,W u,W v]]],[L 5 [[N w,N x,B y,W z,W D]]]]] [])
 (aI (a==6) (vy 5 b a c d r h)
 (aI (a==4) (vy 3 b a c d r h)
 (vy a b a c d r h)))))):
  ak 226 [.agg [N b,N a,U c,U d]] [] r h:=.of func226 abM H
def U7(H:Kh 287 [.agg [N b,N a,U c,U d],vB true,vN e] [] fun f g i j k=>Kh 287 [.agg [N b,N a,U c,U d],vB true,vN 1] [] fun l m n o p=>Kh 287 [.agg [N b,N a,U c,U d],vB false,vN a] [] fun q s t u v=>Fi r h [vL 1 [[L 5 [[N f,N g,B i,W j,W k]]],[L 5 [[N l,N m,B n,W o,W p],[N q,N s,B t,W u,W v]]]]] []):
  vy e b a c d r h:=x7.of abM H
def ag6(H:aI a (0<=(32:Int)/\0<=(32:Int)/\Fi r h [.agg [N b,N e,B a,W (wrap .u32 (fdiv c (2^(min (toNat 32) (IntKind.bits .u64))))),W (wrap .u32 (fdiv d (2^(min (toNat 32) (IntKind.bits .u64)))))]] [])
 (Fi r h [.agg [N b,N e,B a,W (wrap .u32 c),W (wrap .u32 d)]] [])):
  ak 287 [.agg [N b,N f,U c,U d],vB a,vN e] [] r h:=.of func287 {} H
def ag7(H:cb 307 [.agg [N d,N a,B e,W c,W b]] [] fun f=>aI (!f) (Fi r h [vB true] [])
 (aI (a==1) (Fi r h [vB ((cf .andNot .u32 b c) !=0)] [])
 (aI (a==2) (Fi r h [vB (bif(c==0)then(b==0)else false)] [])
 (aI (a==3) (Fi r h [vB (b==0)] [])
 (aI (a==5) (Fi r h [vB (decide (c<=b))] [])
 (aI (a==6) (Fi r h [vB (decide (c<b))] [])
 (Fi r h [vB false] []))))))):
  ak 288 [.agg [N d,N a,B e,W c,W b]] [] r h:=.of func288 {an:=[(1,1,ah),(7,4,aa),(7,5,aa),(7,6,aa)]} H
def ag8(H:cb 307 [.agg [N d,N a,B e,W c,W b]] [] fun f=>aI (!f) (Fi r h [vB false] [])
 (aI (a==1) (Fi r h [vB (bif(c==0)then(b==0)else false)] [])
 (aI (a==2) (Fi r h [vB ((cf .andNot .u32 b c) !=0)] [])
 (aI (a==3) (Fi r h [vB (decide (c<b))] [])
 (aI (a==4) (Fi r h [vB (decide (c<=b))] [])
 (aI (a==6) (Fi r h [vB (b==0)] [])
 (Fi r h [vB false] []))))))):
  ak 292 [.agg [N d,N a,B e,W c,W b]] [] r h:=.of func292 {an:=[(1,1,ah),(5,4,aa),(5,5,aa),(5,6,aa)]} H
def ag9(H:cb 286 [vN a,vN b] [] fun f=>Fi r h [vB f] []):
  ak 307 [.agg [N a,N b,B c,W d,W e]] [] r h:=.of func307 {an:=[(1,4,ah)]} H
structure At where
 arg:Int
 op:Int
 mask:Int
 value:Int
def At.row(a:At):List PV:=[N a.arg,N a.op,U a.mask,U a.value]
structure Hf where
 arg:Int
 op:Int
 high:Bool
 mask:Int
 value:Int
 deriving DecidableEq
def Hf.row(h:Hf):List PV:=[N h.arg,N h.op,B h.high,W h.mask,W h.value]
abbrev U8(h:Hf):AV:=.agg [N h.arg,N h.op,B h.high,W h.mask,W h.value]
def atR(x:List At):List PV:=[L 4 (x.map At.row)]
def jb(l:List (List At)):Rw:=l.map atR
def hfR(x:List Hf):List PV:=[L 5 (x.map Hf.row)]
def cL(l:List (List Hf)):Rw:=l.map hfR
def gb{α:Type}(a b:List (List α)):List (List α):=a.flatMap fun x=>b.map fun y=>x++y
def l0{α:Type}(a b:List (List α)):List (List α)×Bool:=bif decide ((a.length:Int)*(b.length:Int)>256)then([],false)else(gb a b,true)
def aha(x y:List At)(a:x.length<=2^40)(b:y.length<=2^40):ak 358 [vL 1 [[L 4 (x.map At.row)],[L 4 (y.map At.row)]]] [] [vL 4 ((x++y).map At.row)] []:=by
 refine Go.Ac.ak.soft (r:=[.own 0 0 4 _]) ?_ rfl;apply aeo;have c:(x.map At.row).length=x.length:=al ..;have d:(y.map At.row).length=y.length:=al ..;apply KG;refine bj rfl ⟨x.map At.row,by omega,rfl,au,aw (bB (by omega)) ⟨au,?_⟩⟩
 apply KG;refine bj rfl ⟨y.map At.row,by omega,rfl,au,aw (bB (by omega)) ⟨au,?_⟩⟩
 apply KG;refine aw rfl ⟨_,ad1 _ (by omega),?_⟩
 apply KH;refine bj rfl ⟨x.map At.row,by omega,rfl,by simp;omega,au,?_⟩
 apply KH;refine bj rfl ⟨y.map At.row,by omega,rfl,by simp;omega,au,?_⟩
 apply KH;exact aw rfl (aZ (by simp))
def ahb(a b:List (List At))(o:a.length<=2^20)(p:b.length<=2^20)(r:∀x∈a,x.length<=2^40)(D:∀x∈b,x.length<=2^40):
  ak 335 [vL 1 (jb a),vL 1 (jb b)] [] [.own 0 0 1 (jb (l0 a b).1),vB (l0 a b).2] []:=by
 have w:(jb a).length=a.length:=al ..;have lb:(jb b).length=b.length:=al ..;have f:(a.length:Int)*(b.length:Int)=((a.length*b.length:Nat):Int):=by simp
 have K:a.length*b.length<=2^20*2^20:=iE o p;apply ag1;rw[w,lb,f];refine⟨au,ad (fun h=>bE (by rw[l0,f,h];rfl) (by rfl)) fun h=>?_⟩
 have Q:=bI h;have M:gb a b=gb a b:=rfl;have key:∀(t:List (List At))(i:Nat)(c:List (List At)),a.drop i=t->c.length+t.length*b.length<=256 ->
   Fw (jb b) (jb c) (jb a) a.length i [.own 0 0 1 (jb (c++gb t b)),vB true] []:=by
  intro t;induction t with
  |nil=>intro i c d _;apply Sv;exact aQ (l:=a) rfl d (aZ (by simp[gb]))
  |cons x t u=>
   intro i c d I;obtain⟨k,n,H⟩:=bM d;have q:=r x (aK k);have G:(x::t).length*b.length=b.length+t.length*b.length:=by rw[aD,cc,cR,oN]
   have inner:∀(s:List (List At))(j:Nat)(z:List (List At)),b.drop j=s->z.length+s.length+t.length*b.length<=256 ->
     Fx (jb b) (jb z) (x.map At.row) (jb a) a.length i (jb b) b.length j [.own 0 0 1 (jb (z++(s.map fun y=>x++y)++gb t b)),vB true] []:=by
    intro s;induction s with
    |nil=>
     intro j z e g;apply Sw;refine aQ (l:=b) rfl e ⟨au,?_⟩;simp only[cS]at g;have:=u (i+1) z n (by omega)
     rw[oM,fr];exact this
    |cons y s E=>
     intro j z e g;obtain⟨m,v,J⟩:=bM e;simp only[aD]at g;apply Sw;refine aL (l:=b) rfl e ⟨y.map At.row,by omega,aP m,_,aha x y q (D y (aK m)),by simp[jb];omega,au,?_⟩
     have:=E (j+1) (z++[x++y]) v (by simp;omega)
     rw[show jb (z++[x++y])=jb z++[[L 4 ((x++y).map At.row)]] by simp[jb,atR]]at this
     rw[show z++((y::s).map fun y=>x++y)++gb t b=z++[x++y]++(s.map fun y=>x++y)++gb t b by simp]
     exact this
   apply Sv;refine aL (l:=a) rfl d ⟨x.map At.row,by omega,aP k,?_⟩
   rw[lb];have:=inner b 0 c rfl (by omega)
   rw[show c++gb (x::t) b=c++(b.map fun y=>x++y)++gb t b by simp[gb]]
   exact this
 have:=key a 0 [] rfl (by simp;omega)
 rw[l0,f,h];exact this
def ahc(x y:List Hf)(a:x.length<=2^40)(b:y.length<=2^40):ak 285 [vL 1 [[L 5 (x.map Hf.row)],[L 5 (y.map Hf.row)]]] [] [vL 5 ((x++y).map Hf.row)] []:=by
 refine Go.Ac.ak.soft (r:=[.own 0 0 5 _]) ?_ rfl;apply ad8;have c:(x.map Hf.row).length=x.length:=al ..;have d:(y.map Hf.row).length=y.length:=al ..;apply Kv;refine bj rfl ⟨x.map Hf.row,by omega,rfl,au,aw (bB (by omega)) ⟨au,?_⟩⟩
 apply Kv;refine bj rfl ⟨y.map Hf.row,by omega,rfl,au,aw (bB (by omega)) ⟨au,?_⟩⟩
 apply Kv;refine aw rfl ⟨_,ad0 _ (by omega),?_⟩
 apply Kw;refine bj rfl ⟨x.map Hf.row,by omega,rfl,by simp;omega,au,?_⟩
 apply Kw;refine bj rfl ⟨y.map Hf.row,by omega,rfl,by simp;omega,au,?_⟩
 apply Kw;exact aw rfl (aZ (by simp))
def ahd(a b:List (List Hf))(o:a.length<=2^20)(p:b.length<=2^20)(r:∀x∈a,x.length<=2^40)(D:∀x∈b,x.length<=2^40):
  ak 225 [vL 1 (cL a),vL 1 (cL b)] [] [.own 0 0 1 (cL (l0 a b).1),vB (l0 a b).2] []:=by
 have w:(cL a).length=a.length:=al ..;have lb:(cL b).length=b.length:=al ..;have f:(a.length:Int)*(b.length:Int)=((a.length*b.length:Nat):Int):=by simp
 have K:a.length*b.length<=2^20*2^20:=iE o p;apply agZ;rw[w,lb,f];refine⟨au,ad (fun h=>bE (by rw[l0,f,h];rfl) (by rfl)) fun h=>?_⟩
 have Q:=bI h;have M:gb a b=gb a b:=rfl;have key:∀(t:List (List Hf))(i:Nat)(c:List (List Hf)),a.drop i=t->c.length+t.length*b.length<=256 ->
   Fu (cL b) (cL c) (cL a) a.length i [.own 0 0 1 (cL (c++gb t b)),vB true] []:=by
  intro t;induction t with
  |nil=>intro i c d _;apply Ss;exact aQ (l:=a) rfl d (aZ (by simp[gb]))
  |cons x t u=>
   intro i c d I;obtain⟨k,n,H⟩:=bM d;have q:=r x (aK k);have G:(x::t).length*b.length=b.length+t.length*b.length:=by rw[aD,cc,cR,oN]
   have inner:∀(s:List (List Hf))(j:Nat)(z:List (List Hf)),b.drop j=s->z.length+s.length+t.length*b.length<=256 ->
     Fv (cL b) (cL z) (x.map Hf.row) (cL a) a.length i (cL b) b.length j [.own 0 0 1 (cL (z++(s.map fun y=>x++y)++gb t b)),vB true] []:=by
    intro s;induction s with
    |nil=>
     intro j z e g;apply Su;refine aQ (l:=b) rfl e ⟨au,?_⟩;simp only[cS]at g;have:=u (i+1) z n (by omega)
     rw[oM,fr];exact this
    |cons y s E=>
     intro j z e g;obtain⟨m,v,J⟩:=bM e;simp only[aD]at g;apply Su;refine aL (l:=b) rfl e ⟨y.map Hf.row,by omega,aP m,_,ahc x y q (D y (aK m)),by simp[cL];omega,au,?_⟩
     have:=E (j+1) (z++[x++y]) v (by simp;omega)
     rw[show cL (z++[x++y])=cL z++[[L 5 ((x++y).map Hf.row)]] by simp[cL,hfR]]at this
     rw[show z++((y::s).map fun y=>x++y)++gb t b=z++[x++y]++(s.map fun y=>x++y)++gb t b by simp]
     exact this
   apply Ss;refine aL (l:=a) rfl d ⟨x.map Hf.row,by omega,aP k,?_⟩
   rw[lb];have:=inner b 0 c rfl (by omega)
   rw[show c++gb (x::t) b=c++(b.map fun y=>x++y)++gb t b by simp[gb]]
   exact this
 have:=key a 0 [] rfl (by simp;omega)
 rw[l0,f,h];exact this
def r4(k:Int)(a b:List (List At)):List (List At)×Bool:=bif k==3 then l0 a b else(a++b,decide (((a++b).length:Int)<=256))
def ahe(k:Int)(a b:List (List At))(c:a.length<=2^20)(d:b.length<=2^20)(f:∀x∈a,x.length<=2^40)(g:∀x∈b,x.length<=2^40):
  ak 282 [vN k,.own 0 0 1 (jb a),vL 1 (jb b)] [] [.own 0 0 1 (jb (r4 k a b).1),vB (r4 k a b).2] []:=by
 have e:jb a++jb b=jb (a++b):=by simp[jb]
 have le:(jb (a++b)).length=(a++b).length:=al ..;apply ag0;rw[e,le];exact ad (fun h=>⟨_,_,ahb a b c d f g,aZ (by rw[r4,h];rfl)⟩) fun h=>⟨by simp;omega,aZ (by rw[r4,h];rfl)⟩
mutual
def vz:Cn->List (List At)×Bool
 |.mk k a o m v l=>bif k==5 then([[⟨a,o,m,v⟩]],true)else Px k l (bif k==1 then[[]]else bif k==3 then[[]]else[])
def Px(k:Int):List Cn->List (List At)->List (List At)×Bool
 |[],b=>(b,true)
 |x::t,b=>bif !(vz x).2 then([],false)else bif !(r4 k b (vz x).1).2 then([],false)else Px k t (r4 k b (vz x).1).1
end
structure CL {α:Type} (n:Nat) (l:List (List α)):Prop where
 len:l.length<=256
 each:∀x∈l,x.length<=n
def As{a b:List (List α)}(d:∀x∈a,x.length<=n)(f:∀x∈b,x.length<=m):CL (n+m) (l0 a b).1:=by
 unfold l0;cases hd:decide ((a.length:Int)*(b.length:Int)>256)
 .have e:(a.length:Int)*(b.length:Int)=((a.length*b.length:Nat):Int):=by simp
  have h:=bI hd;rw[e]at h;refine⟨?_,fun x c=>?_⟩
  .have:(gb a b).length=a.length*b.length:=by
    clear d hd e h;induction a with
    |nil=>simp[gb]
    |cons x a j=>
     rw[show gb (x::a) b=(b.map fun y=>x++y)++gb a b from rfl,dC,al,j,aD,cc,cR,oN]
   show(gb a b).length<=256
   omega
  .obtain⟨y,g,c⟩:=eW.1 (show x∈gb a b from c)
   obtain⟨z,i,rfl⟩:=bh.1 c;have:=d y g;have:=f z i;simp;omega
 .exact⟨by simp,by simp⟩
def H3(d:CL n a)(e:CL m b)(h:(r4 k a b).2=true):CL (n+m) (r4 k a b).1:=by
 unfold r4 at h⊢;cases hk:k==3<;>rw[hk]at h
 .have h:=aU h
  refine⟨by show(a++b).length<=256;omega,fun x c=>?_⟩
  rcases bp.1 (show x∈a++b from c)with c|c
  .have:=d.each x c;omega
  .have:=e.each x c;omega
 .exact As d.each e.each
mutual
theorem K0:∀(c:Cn),CL (ew c) (vz c).1
 |.mk k a o m v l=>by
  unfold vz;cases k==5
  .have:CL 1 (bif k==1 then[[]]else bif k==3 then[[]]else([]:List (List At))):=by cases k==1<;>cases k==3<;>exact⟨by simp,by simp⟩
   have:=Sx l k _ 1 this;simp only[af,ew];rw[oN];exact this
  .exact⟨by simp,by simp[ew]⟩
theorem Sx:∀(l:List Cn)(k:Int)(b:List (List At))(n:Nat),CL n b->CL (n+ep l) (Px k l b).1
 |[],k,b,n,h=>h
 |x::t,k,b,n,h=>by
  unfold Px;have d:=K0 x;cases hb:(vz x).2
  .exact⟨by simp,by simp⟩
  .cases hj:(r4 k b (vz x).1).2
   .exact⟨by simp,by simp⟩
   .have:=Sx t k _ _ (H3 h d hj)
    simp only[ep,eB,af];rw[<-gU];exact this
end
def ofR:List (List At)×Bool->List AV
 |(l,true)=>[.own 0 0 1 (jb l),vB true]
 |(_,false)=>[vL 1 [],vB false]
def U9:∀(c:Cn),(vz c).2=false->(vz c).1=[]
 |.mk k a o m v l,h=>by
  unfold vz at h⊢;have:∀(l:List Cn)(b:List (List At)),(Px k l b).2=false->(Px k l b).1=[]:=by
   intro l;induction l with
   |nil=>intro b h;simp[Px]at h
   |cons x t d=>
    intro b h;unfold Px at h⊢;cases hb:(vz x).2<;>rw[hb]at h
    .rfl
    .cases hj:(r4 k b (vz x).1).2<;>rw[hj]at h
     .rfl
     .exact d _ h
  cases hk:k==5<;>rw[hk]at h
  .exact this l _ h
  .simp at h
def abN:∀(d:Nat)(c:Cn),ew c<=d->d<=2^40->ak 223 [v7 c] [] [vL 1 (jb (vz c).1),vB (vz c).2] []
 |0,c,h,_=>by rw[kI]at h;omega
 |d+1,c,h,K=>by
  have H:=kI c;have E:=sX c.kids;have J:∀x∈c.kids,ak 223 [v7 x] [] [vL 1 (jb (vz x).1),vB (vz x).2] []:=fun x s=>abN d x (by have:=pa s;omega) (by omega)
  have loop:∀(t:List Cn)(i:Nat)(f:List (List At))(n:Nat),c.kids.drop i=t->CL n f->n+ep t<=2^40+1 ->
    wW (jb f) (da c.kids) c.kids.length i c.kind c.arg c.op c.mask c.value (da c.kids) (ofR (Px c.kind t f)) []:=by
   intro t;induction t with
   |nil=>intro i f n q _ _;apply Sr;exact aQ (l:=c.kids) rfl q fi
   |cons x t I=>
    intro i f n q z G;obtain⟨b,e,g⟩:=bM q;have s:=aK b;have u:=K0 x;simp only[ep]at G;have M:=pa s;have Q:=kI x;apply Sr;refine aL (l:=c.kids) rfl q ⟨x.kind,x.arg,x.op,x.mask,x.value,da x.kids,by omega,by rw[dA,<-Cn.cu];exact aP b,_,_,J x s,ad (fun j=>aZ (by rw[Px,j];rfl)) fun j=>
     ⟨_,_,ahe c.kind f (vz x).1 (by have:=z.len;omega) (by have:=u.len;omega) (fun y D=>by have:=z.each y D;omega) (fun y D=>by have:=u.each y D;omega),ad (fun p=>aZ (by rw[Px,j,p];rfl)) fun p=>⟨au,?_⟩⟩⟩
    rw[Px,j,p];exact I (i+1) _ _ e (H3 z u (by simpa using p)) (by omega)
  have w:ak 223 [v7 c] [] (bif c.kind==5 then[vL 1 (jb (vz c).1),vB (vz c).2]else ofR (vz c)) []:=by
   obtain⟨k,a,o,m,v,l⟩:=c;simp only[Cn.kind,Cn.arg,Cn.op,Cn.mask,Cn.value,Cn.kids]at loop H E;apply agY;have hlen:(da l).length=l.length:=by rw[dA,al]
   refine ad (fun b=>aZ ?_) fun b=>?_
   .simp only[Cn.kind]at b⊢
    rw[vz,b];rfl
   .simp only[Cn.kind,Cn.kids]at b⊢
    rw[b,vz,b,hlen];refine ad (fun e=>?_) fun e=>ad (fun g=>?_) fun g=>?_
    .rw[e];exact loop l 0 [[]] 1 rfl ⟨by simp,by simp⟩ (by omega)
    .rw[e,g];exact loop l 0 [[]] 1 rfl ⟨by simp,by simp⟩ (by omega)
    .rw[e,g];exact loop l 0 [] 0 rfl ⟨by simp,by simp⟩ (by omega)
  cases hk:c.kind==5<;>rw[hk]at w
  .cases hb:(vz c).2
   .have r:vz c=([],false):=Prod.ext (U9 c hb) hb
    rw[r]at w⊢;exact w
   .have r:vz c=((vz c).1,true):=Prod.ext rfl hb
    rw[r]at w;exact Go.Ac.ak.soft w rfl
  .exact w
def fQ(c:Cn):List (List At)×Int:=bif !(vz (tq c)).2 then([],9)else((vz (tq c)).1,0)
def ahf(c:Cn)(a:ew c<=2^40):ak 159 [v7 c] [] [vL 1 (jb (fQ c).1),vN (fQ c).2] []:=by
 have:=Ar c;apply agX;exact⟨_,_,_,_,_,_,ag4 c a,_,_,abN _ (tq c) (ar _) (by omega),ad (fun h=>aZ (by rw[fQ,h];rfl)) fun h=>aZ (by rw[fQ,h];rfl)⟩
def qG(a:At)(high:Bool)(op:Int):Hf:=bif high then⟨a.arg,op,high,wrap .u32 (fdiv a.mask (2^(min (toNat 32) (IntKind.bits .u64)))),wrap .u32 (fdiv a.value (2^(min (toNat 32) (IntKind.bits .u64))))⟩else
 ⟨a.arg,op,high,wrap .u32 a.mask,wrap .u32 a.value⟩
def K2(a:At)(high:Bool)(op:Int):ak 287 [.agg [N a.arg,N a.op,U a.mask,U a.value],vB high,vN op] [] [U8 (qG a high op)] []:=by
 apply ag6;exact ad (fun h=>⟨by omega,by omega,aZ (by rw[qG,h];rfl)⟩) fun h=>aZ (by rw[qG,h];rfl)
def qo(a:At)(strict:Int):List (List Hf):=[[qG a true strict],[qG a true 1,qG a false a.op]]
def fk(a:At):List (List Hf):=bif !vx a.arg a.op then[]else bif a.op==1 then[[qG a true 1,qG a false 1]]else bif a.op==2 then[[qG a true 2],[qG a false 2]]else
 bif a.op==6 then qo a 5 else bif a.op==4 then qo a 3 else qo a a.op
def ahg(a:At):ak 226 [.agg [N a.arg,N a.op,U a.mask,U a.value]] [] [vL 1 (cL (fk a))] []:=by
 have j:∀(s:Int)(r:List (List Hf)),r=qo a s->vy s a.arg a.op a.mask a.value [vL 1 (cL r)] []:=by
  rintro s _ rfl;apply U7;exact⟨_,_,_,_,_,K2 a true s,_,_,_,_,_,K2 a true 1,_,_,_,_,_,K2 a false a.op,fi⟩
 apply ag5;exact⟨_,Y9 _ _,ad (fun h=>aZ (by rw[fk,h];rfl)) fun b=>ad (fun h=>⟨_,_,_,_,_,K2 a true 1,_,_,_,_,_,K2 a false 1,aZ (by rw[fk,b,h];rfl)⟩) fun c=>
  ad (fun h=>⟨_,_,_,_,_,K2 a true 2,_,_,_,_,_,K2 a false 2,aZ (by rw[fk,b,c,h];rfl)⟩) fun d=>ad (fun h=>j 5 _ (by rw[fk,b,c,d,h];rfl)) fun e=>ad (fun h=>j 3 _ (by rw[fk,b,c,d,e,h];rfl)) fun h=>j a.op _ (by rw[fk,b,c,d,e,h];rfl)⟩
def Za(h:Hf):ak 307 [U8 h] [] [vB (vx h.arg h.op)] []:=by apply ag9;exact⟨_,Y9 _ _,fi⟩
def mh(h:Hf):Bool:=bif !vx h.arg h.op then true else bif h.op==1 then((cf .andNot .u32 h.value h.mask) !=0)else bif h.op==2 then(bif(h.mask==0)then(h.value==0)else false)else
 bif h.op==3 then(h.value==0)else bif h.op==5 then decide (h.mask<=h.value)else bif h.op==6 then decide (h.mask<h.value)else false
def ahh(h:Hf):ak 288 [U8 h] [] [vB (mh h)] []:=by
 apply ag7;exact⟨_,Za h,ad (fun e=>aZ (by rw[mh,e];rfl)) fun a=>ad (fun e=>aZ (by rw[mh,a,e];rfl)) fun b=>ad (fun e=>aZ (by rw[mh,a,b,e];rfl)) fun c=>ad (fun e=>aZ (by rw[mh,a,b,c,e];rfl)) fun d=>
  ad (fun e=>aZ (by rw[mh,a,b,c,d,e];rfl)) fun f=>ad (fun e=>aZ (by rw[mh,a,b,c,d,f,e];rfl)) fun e=>aZ (by rw[mh,a,b,c,d,f,e];rfl)⟩
def jE(h:Hf):Bool:=bif !vx h.arg h.op then false else bif h.op==1 then(bif(h.mask==0)then(h.value==0)else false)else bif h.op==2 then((cf .andNot .u32 h.value h.mask) !=0)else
 bif h.op==3 then decide (h.mask<h.value)else bif h.op==4 then decide (h.mask<=h.value)else bif h.op==6 then(h.value==0)else false
def ahi(h:Hf):ak 292 [U8 h] [] [vB (jE h)] []:=by
 apply ag8;exact⟨_,Za h,ad (fun e=>aZ (by rw[jE,e];rfl)) fun a=>ad (fun e=>aZ (by rw[jE,a,e];rfl)) fun b=>ad (fun e=>aZ (by rw[jE,a,b,e];rfl)) fun c=>ad (fun e=>aZ (by rw[jE,a,b,c,e];rfl)) fun d=>
  ad (fun e=>aZ (by rw[jE,a,b,c,d,e];rfl)) fun f=>ad (fun e=>aZ (by rw[jE,a,b,c,d,f,e];rfl)) fun e=>aZ (by rw[jE,a,b,c,d,f,e];rfl)⟩
abbrev Au(a b:Rw)(c d:Int)r h:=Lp f161 0 ⟨aO 77 [(3,.own 0 0 1 a),(14,vL 1 b),(15,vN c),(16,vN d)],[some 0],[]⟩ 0 r h
abbrev Av(a b c:Rw)(d e:Int)r h:=Lp f161 1 ⟨aO 77 [(3,.own 0 0 1 a),(8,.own 1 0 1 b),(31,vL 1 c),(32,vN d),(33,vN e)],[some 0,some 0],[]⟩ 0 r h
abbrev wX(a b:Rw)(c:Int)(d:Rw)(e:Bool)(f:Rw)(g i:Int)(j:Rw)(k l:Int)r h:=Lp f161 2 ⟨aO 77 [(3,.own 0 0 1 a),(8,.own 1 0 1 b),(9,vN c),(10,vL 5 d),(11,vB e),(31,vL 1 f),(32,vN g),(33,vN i),(38,vL 1 j),(39,vN k),(40,vN l)],[some 0,some 0],[]⟩ 0 r h
def Va:df:={an:=[(4,1,ah),(5,1,ah),(12,2,ah),(16,2,ah),(17,8,ah),(17,11,aa),(17,12,aa),(17,13,aa),(17,14,aa),(17,15,aa),(17,16,aa),(17,17,aa),(17,18,aa),(17,19,aa),(17,20,aa)],cut:=[(11,{bl:=[3,8,31,32,33],cN:=[(3,1),(8,1)],owns:=[3,8]}),(15,{bl:=[3,8,9,10,11,31,32,33,38,39,40],cN:=[(3,1),(8,1)],owns:=[3,8]}),(3,{bl:=[3,14,15,16],cN:=[(3,1)],owns:=[3]})]}
def ahj(H:Au [] a (a.length:Int) 0 r h):
  ak 161 [vL 1 a] [] r h:=.of func161 Va H
def Sz(a c:Rw)(H:bP (b<d) (wA c b fun g=>∃e f,ak 227 [vL 5 g] [] [vL 5 e,vB f] []/\aI f ((a++([[L 5 e]]:Rw)).length*24<=2^47/\aq (b+1)/\Au (a++([[L 5 e]]:Rw)) c d (b+1) r h)
 (aq (b+1)/\Au a c d (b+1) r h))
 (Av a [] a (a.length:Int) 0 r h)):
  Au a c d b r h:=.of Va H
def SA(H:bP (a<e) (wA d a fun f=>wX b c a f false d e a b (b.length:Int) 0 r h)
 (Fi r h [.own 0 0 1 c] [])):
  Av b c d e a r h:=.of Va H
def SB(H:bP (a<k) (wA j a fun m=>aI l (aq (a+1)/\wX f d e b true g i c j k (a+1) r h) (aI (a !=e) (cb 228 [vL 5 m,vL 5 b] [] fun n=>aq (a+1)/\wX f d e b (bif n then(bif(decide ((m.length:Int)<(b.length:Int)))then true else(decide (a<e)))else false) g i c j k (a+1) r h) (aq (a+1)/\wX f d e b (bif false then(bif(decide ((m.length:Int)<(b.length:Int)))then true else(decide (a<e)))else false) g i c j k (a+1) r h)))
 (aI (!l) ((d++([[L 5 b]]:Rw)).length*24<=2^47/\aq (c+1)/\Av f (d++([[L 5 b]]:Rw)) g i (c+1) r h)
 (aq (c+1)/\Av f d g i (c+1) r h))):
  wX f d e b l g i c j k a r h:=.of Va H
abbrev wY(a b:Rw)(c d:Int)r h:=Lp f227 0 ⟨aO 37 [(4,.own 0 0 5 a),(7,vL 5 b),(8,vN c),(9,vN d)],[some 0],[]⟩ 0 r h
def abO:df:={an:=[(4,1,ah),(5,1,ah),(7,1,ah),(7,6,ah)],cut:=[(3,{bl:=[4,7,8,9],cN:=[(4,5)],owns:=[4]})]}
def ahk(H:wY [] a (a.length:Int) 0 r h):
  ak 227 [vL 5 a] [] r h:=.of func227 abO H
def SC(H:bP (a<j) (n5 i a fun c d e f g=>cb 288 [.agg [N c,N d,B e,W f,W g]] [] fun k=>aI k (Fi r h [vL 5 [],vB false] []) (cb 289 [vL 5 b,.fn (.func 290) [] [.az 0 0]] [.aH [vN c,vN d,vB e,vW f,vW g]] fun l=>aI l (Fi r h [vL 5 [],vB false] [])
 (cb 292 [.agg [N c,N d,B e,W f,W g]] [] fun m=>aI (!m) (cb 293 [vL 5 b,.agg [N c,N d,B e,W f,W g]] [] fun n=>aI (!n) ((b++([[N c,N d,B e,W f,W g]]:Rw)).length*32<=2^47/\aq (a+1)/\wY (b++([[N c,N d,B e,W f,W g]]:Rw)) i j (a+1) r h)
 (aq (a+1)/\wY b i j (a+1) r h)) (aq (a+1)/\wY b i j (a+1) r h))))
 (Fi r h [.own 0 0 5 b,vB true] [])):
  wY b i j a r h:=.of abO H
def ahl(H:bP ((a.length:Int)<=(b.length:Int)) (cb 289 [vL 5 a,.fn (.func 294) [] [.az 0 0]] [.aH [vL 5 b]] fun c=>Fi r h [vB (!c)] []) (Fi r h [vB false] [])):
  ak 228 [vL 5 a,vL 5 b] [] r h:=.of func228 {} H
def ahm(H:cb 291 [.agg [N f,N g,B i,W j,W k],.agg [N a,N b,B c,W d,W e]] [] fun l=>Fi r h [vB l] [.aH [vN a,vN b,vB c,vW d,vW e]]):
  ak 290 [.agg [N f,N g,B i,W j,W k],.az 0 0] [.aH [vN a,vN b,vB c,vW d,vW e]] r h:=.of func290 {an:=[(1,2,ah)]} H
def ahn(H:Fi r h [vB (bif(bif(bif(bif(bif(b==1)then(g==1)else false)then(a==f)else false)then(c==i)else false)then(d==j)else false)then(e !=k)else false)] []):
  ak 291 [.agg [N a,N b,B c,W d,W e],.agg [N f,N g,B i,W j,W k]] [] r h:=.of func291 {an:=[(1,4,aa),(1,5,aa),(1,6,aa),(1,9,aa),(1,10,aa),(1,11,aa),(1,12,aa),(1,13,aa),(1,16,aa),(1,17,aa),(1,18,aa),(1,19,aa),(1,20,aa),(1,23,aa),(1,24,aa),(1,25,aa),(1,26,aa),(1,27,aa),(1,30,aa),(1,31,aa),(1,32,aa),(1,33,aa),(1,34,aa)]} H
def aho(H:cb 293 [vL 5 a,.agg [N b,N c,B d,W e,W f]] [] fun g=>Fi r h [vB (!g)] [.aH [vL 5 a]]):
  ak 294 [.agg [N b,N c,B d,W e,W f],.az 0 0] [.aH [vL 5 a]] r h:=.of func294 {an:=[(1,2,ah)]} H
def ny(a b:Hf):Bool:=bif(bif(bif(bif(bif(a.op==1)then(b.op==1)else false)then(a.arg==b.arg)else false)then(a.high==b.high)else false)then(a.mask==b.mask)else false)then(a.value !=b.value)else false
def ahp(a b:Hf):ak 291 [U8 a,U8 b] [] [vB (ny a b)] []:=by apply ahn;exact fi
abbrev hfB(h:Hf):Bx:=.aH [vN h.arg,vN h.op,vB h.high,vW h.mask,vW h.value]
def abQ(l:List Hf)(h:Hf)(d:l.length<=2^40):ak 289 [vL 5 (l.map Hf.row),.fn (.func 290) [] [.az 0 0]] [hfB h] [vB (l.any fun x=>ny x h)] [hfB h]:=by
 apply QP;refine⟨_,by
  apply Q4;exact eZ (Hd:=fun i=>p9 _ _ i h.arg h.op h.high h.mask h.value) (p:=fun x=>ny x h) d fun i r e b c=>KB _ _ _ _ _ _ _ _ (fg (l:=l) (by simp) (fun x a=>⟨x.arg,x.op,x.high,x.mask,x.value,by omega,aP a,_,by apply ahm;exact⟨_,ahp x h,fi⟩,b x a⟩) c),aZ (by rw[mG])⟩
def tQ(v x:Hf):Bool:=(((((true&&(v.arg==x.arg))&&(v.op==x.op))&&(v.high==x.high))&&(v.mask==x.mask))&&(v.value==x.value))
def abS(l:List Hf)(v:Hf)(d:l.length<=2^40):ak 293 [vL 5 (l.map Hf.row),U8 v] [] [vB (l.any (tQ v))] []:=by
 apply ad9;refine⟨_,by
  apply aei;exact eZ (Hd:=fun i=>EW _ _ i v.arg v.op v.high v.mask v.value) (p:=tQ v) d fun i r e b c=>YA _ _ _ _ _ _ _ _ (fg (l:=l) (by simp) (fun x a=>⟨x.arg,x.op,x.high,x.mask,x.value,by omega,aP a,b x a⟩) c),aZ (by rw[mG])⟩
def abT(l b:List Hf)(f:l.length<=2^40)(e:b.length<=2^40):ak 289 [vL 5 (l.map Hf.row),.fn (.func 294) [] [.az 0 0]] [.aH [vL 5 (b.map Hf.row)]] [vB (l.any fun h => !b.any (tQ h))] [.aH [vL 5 (b.map Hf.row)]]:=by
 apply QQ;refine⟨_,by
  apply Q5;exact eZ (Hd:=fun i=>qa _ _ i _) (p:=fun h => !b.any (tQ h)) f fun i r g c d=>KC _ _ _ _ (fg (l:=l) (by simp) (fun x a=>⟨x.arg,x.op,x.high,x.mask,x.value,by omega,aP a,_,by apply aho;exact⟨_,abS b x e,fi⟩,c x a⟩) d),aZ (by rw[mG])⟩
def cH:List Hf->List Hf->List Hf×Bool
 |[],a=>(a,true)
 |h::t,a=>bif mh h then([],false)else bif a.any (fun x=>ny x h)then([],false)else bif !jE h then(bif !a.any (tQ h)then cH t (a++[h])else cH t a)else cH t a
def r5:∀(l a:List Hf),(cH l a).1.length<=a.length+l.length
 |[],a=>ar _
 |h::t,a=>by
  have b:=r5 t (a++[h]);have c:=r5 t a;simp only[dC,aD,cS]at b⊢;unfold cH;cases mh h
  .cases a.any fun x=>ny x h
   .cases jE h
    .cases a.any (tQ h)<;>simp only[ai,af,eB,km]<;>omega
    .simp only[ai,af,eB];omega
   .simp
  .simp
def prR:List Hf×Bool->List AV
 |(l,true)=>[.own 0 0 5 (l.map Hf.row),vB true]
 |(_,false)=>[vL 5 [],vB false]
def oi:∀(l a:List Hf),(cH l a).2=false->(cH l a).1=[]
 |[],a,h=>by simp[cH]at h
 |x::t,a,h=>by
  unfold cH at h⊢;cases h1:mh x<;>rw[h1]at h
  .cases h2:a.any (fun y=>ny y x)<;>rw[h2]at h
   .cases h3:jE x<;>rw[h3]at h
    .cases h4:a.any (tQ x)<;>rw[h4]at h
     .exact oi t _ h
     .exact oi t _ h
    .exact oi t _ h
   .rfl
  .rfl
def ahq(l:List Hf)(o:l.length<=2^40):ak 227 [vL 5 (l.map Hf.row)] [] [vL 5 ((cH l []).1.map Hf.row),vB (cH l []).2] []:=by
 have key:∀(t:List Hf)(i:Nat)(a:List Hf),l.drop i=t->a.length<=i->wY (a.map Hf.row) (l.map Hf.row) l.length i (prR (cH t a)) []:=by
  intro t;induction t with
  |nil=>intro i a e _;apply SC;exact aQ (l:=l) rfl e fi
  |cons x t k=>
   intro i a e p;obtain⟨m,f,n⟩:=bM e;apply SC;refine aL (l:=l) rfl e ⟨x.arg,x.op,x.high,x.mask,x.value,by omega,aP m,_,ahh x,ad (fun b=>aZ (by rw[cH,b];rfl)) fun b=>⟨_,abQ a x (by omega),ad (fun c=>aZ (by rw[cH,b,c];rfl)) fun c=>
    ⟨_,ahi x,ad (fun d=>⟨_,abS a x (by omega),ad (fun g=>⟨by simp;omega,au,?_⟩) fun g=>⟨au,?_⟩⟩) fun d=>⟨au,?_⟩⟩⟩⟩
   .have:=k (i+1) (a++[x]) f (by simp;omega)
    rw[cH,b,c,d,g];rw[bN (l₁:=a) (l₂:=[x])]at this;exact this
   .rw[cH,b,c,d,g]
    exact k (i+1) a f (by omega)
   .rw[cH,b,c,d]
    exact k (i+1) a f (by omega)
 have w:ak 227 [vL 5 (l.map Hf.row)] [] (prR (cH l [])) []:=by
  apply ahk;rw[al];exact key l 0 [] rfl (by simp)
 cases hb:(cH l []).2
 .have j:cH l []=([],false):=Prod.ext (oi l [] hb) hb
  rw[j]at w⊢;exact w
 .have j:cH l []=((cH l []).1,true):=Prod.ext rfl hb
  rw[j]at w;exact Go.Ac.ak.soft w rfl
def yH(a b:List Hf):Bool:=bif decide ((a.length:Int)<=(b.length:Int))then !(a.any fun h => !b.any (tQ h))else false
def ahr(a b:List Hf)(c:a.length<=2^40)(d:b.length<=2^40):ak 228 [vL 5 (a.map Hf.row),vL 5 (b.map Hf.row)] [] [vB (yH a b)] []:=by
 have e:(a.map Hf.row).length=a.length:=al ..;have lb:(b.map Hf.row).length=b.length:=al ..;apply ahl;rw[e,lb];exact ad (fun h=>⟨_,abT a b c d,aZ (by rw[yH,h];rfl)⟩) fun h=>aZ (by rw[yH,h];rfl)
def gI:List (List Hf)->List (List Hf)
 |[]=>[]
 |x::t=>bif(cH x []).2 then(cH x []).1::gI t else gI t
def tR(x:List Hf)(i:Int):List (List Hf)->Int->Bool->Bool
 |[],_,g=>g
 |y::t,k,g=>tR x i t (k+1) (bif g then true else bif k !=i then(bif yH y x then(bif decide ((y.length:Int)<(x.length:Int))then true else decide (k<i))else false)else false)
def qH(left:List (List Hf)):List (List Hf)->Int->List (List Hf)
 |[],_=>[]
 |x::t,i=>bif !tR x i left 0 false then x::qH left t (i+1)else qH left t (i+1)
def tS(l:List (List Hf)):List (List Hf):=qH (gI l) (gI l) 0
def Aw:∀(l:List (List Hf)),(∀x∈l,x.length<=n)->(gI l).length<=l.length/\∀x∈gI l,x.length<=n
 |[],_=>⟨ar _,by simp[gI]⟩
 |x::t,h=>by
  obtain⟨d,b⟩:=Aw t fun y a=>h y (aV _ a)
  have e:=h x aW;have c:=r5 x [];unfold gI;cases(cH x []).2
  .exact⟨by simp only[af,aD];omega,b⟩
  .refine⟨by simp only[ai,aD];omega,fun y a=>?_⟩
   rcases aY.1 (show y∈(cH x []).1::gI t from a)with rfl|a
   .simp at c;omega
   .exact b y a
def vA:∀(l:List (List Hf))(i:Int),(qH left l i).length<=l.length/\∀x∈qH left l i,x∈l
 |[],i=>⟨ar _,by simp[qH]⟩
 |x::t,i=>by
  obtain⟨c,b⟩:=vA (left:=left) t (i+1);unfold qH;cases tR x i left 0 false
  .refine⟨by simp only[km,ai,aD];omega,fun y a=>?_⟩
   rcases aY.1 (show y∈x::qH left t (i+1)from a)with rfl|a
   .exact aW
   .exact aV _ (b y a)
  .exact⟨by simp only[eB,af,aD];omega,fun y a=>aV _ (b y a)⟩
def ahs(l:List (List Hf))(T:l.length<=2^40)(u:∀x∈l,x.length<=2^40):ak 161 [vL 1 (cL l)] [] [vL 1 (cL (tS l))] []:=by
 obtain⟨Q,h⟩:=Aw l u;have p:∀z:List (List Hf),(cL z).length=z.length:=fun z=>al ..
 have one:∀(z:List (List Hf))(x:List Hf),cL (z++[x])=cL z++[[L 5 (x.map Hf.row)]]:=fun z x=>by simp[cL,hfR]
 have H:∀(left:List (List Hf)),left.length<=2^40->(∀x∈left,x.length<=2^40)->∀(t:List (List Hf))(i:Nat)(a:List (List Hf)),left.drop i=t->a.length<=i ->
   Av (cL left) (cL a) (cL left) left.length i [.own 0 0 1 (cL (a++qH left t i))] []:=by
  intro left Y w t;induction t with
  |nil=>intro i a c _;apply SA;exact aQ (l:=left) rfl c (aZ (by simp[qH]))
  |cons x t f=>
   intro i a c E;obtain⟨d,e,D⟩:=bM c;have K:=w x (aK d);have inner:∀(s:List (List Hf))(j:Nat)(g:Bool),left.drop j=s ->
     wX (cL left) (cL a) i (x.map Hf.row) g (cL left) left.length i (cL left) left.length j [.own 0 0 1 (cL (a++(bif !tR x i s j g then x::qH left t (i+1)else qH left t (i+1))))] []:=by
    intro s;induction s with
    |nil=>
     intro j g m;apply SB;refine aQ (l:=left) rfl m (ad (fun b=>⟨by simp[cL];omega,au,?_⟩) fun b=>⟨au,?_⟩)
     .have:=f (i+1) (a++[x]) e (by simp;omega)
      rw[tR,b,ai];rw[one,bq]at this;exact this
     .rw[tR,b,af]
      exact f (i+1) a e (by omega)
    |cons y s q=>
     intro j g m;obtain⟨v,o,X⟩:=bM m;have M:=w y (aK v);have J:(y.map Hf.row).length=y.length:=al ..;have I:(x.map Hf.row).length=x.length:=al ..;apply SB;rw[tR];refine aL (l:=left) rfl m ⟨y.map Hf.row,by omega,aP v,?_⟩
     simp only[J,I];refine ad (fun b=>⟨au,?_⟩) fun b=>ad (fun n=>⟨_,ahr y x M K,au,?_⟩) fun n=>⟨au,?_⟩
     .rw[b];exact q (j+1) _ o
     .rw[b,n];exact q (j+1) _ o
     .rw[b,n];exact q (j+1) _ o
   apply SA;refine aL (l:=left) rfl c ⟨x.map Hf.row,by omega,aP d,?_⟩
   rw[p];exact inner left 0 false rfl
 have G:∀(t:List (List Hf))(i:Nat)(a:List (List Hf)),l.drop i=t->a.length<=i->gI l=a++gI t->Au (cL a) (cL l) l.length i [.own 0 0 1 (cL (tS l))] []:=by
  intro t;induction t with
  |nil=>
   intro i a c _ k;simp only[gI,fr]at k;subst k;apply Sz;refine aQ (l:=l) rfl c ?_;rw[p];exact H (gI l) (by omega) h (gI l) 0 [] rfl (by simp)
  |cons x t f=>
   intro i a c E k;obtain⟨d,e,D⟩:=bM c;apply Sz;refine aL (l:=l) rfl c ⟨x.map Hf.row,by omega,aP d,_,_,ahq x (u x (aK d)),ad (fun b=>⟨by simp[cL];omega,au,?_⟩) fun b=>⟨au,?_⟩⟩
   .have:=f (i+1) (a++[(cH x []).1]) e (by simp;omega) (by rw[k,gI,b,ai,bq];rfl)
    rw[one]at this;exact this
   .exact f (i+1) a e (by omega) (by rw[k,gI,b,af])
 refine Go.Ac.ak.soft (r:=[.own 0 0 1 _]) ?_ rfl;apply ahj;rw[p];exact G l 0 [] rfl (by simp) rfl
def H4(a:Rw)(b c:Int)(d:List (PV×AV)):St:=⟨aO 69 [(4,.mp 0),(15,vL 9 a),(16,vN b),(17,vN c)],[],[.map 209 d]⟩
def H5(a b:Rw)(c d:Int)(e:List (PV×AV)):St:=⟨aO 69 [(4,.mp 0),(11,.own 0 0 2 a),(53,vL 1 b),(54,vN c),(55,vN d)],[some 0],[.map 209 e]⟩
def A80:df:={an:=[(4,1,ah),(5,2,ah),(8,2,ah),(11,2,eP),(11,5,eP),(11,6,jj),(11,9,eP),(11,11,{fz:=true,bF:=true,cons:=[0]}),(11,12,jj),(14,1,{fn:=165}),(16,1,ah)],cut:=[(15,{bl:=[4,11,53,54,55],cN:=[(11,2)],owns:=[11]}),(3,{bl:=[4,15,16,17]})]}
def W80(H:Lp f80 0 (H4 a (a.length:Int) 0 []) 0 r h):
  ak 80 [vL 9 a] [] r h:=.of func80 A80 H
def WH(a:List (PV×AV))(H:bP (b<e) (ky d b fun c k l q s t u w x=>∃p m,ak 106 [.agg [N k,N l]] [] [vW p,vB m] []/\aI (!m) (Fi r h [vL 2 [],vN 1] [])
 (∃f g,ak 107 [.agg [N q,N s,N t,U u,U w,L 6 x]] [] [vL 1 f,vN g] []/\aI (g !=0) (Fi r h [vL 2 [],vN g] [])
 (((cK a (W c)=none/\∃n,ak 108 [.own 0 0 3 [],.agg [L 1 f,N k,N l]] [] [.own 0 0 3 n] []/\aq (b+1)/\Lp f80 0 (H4 d e (b+1) (cB a (W c) (O 3 n))) 0 r h)\/(∃i,cK a (W c)=some (O 3 i)/\∃o,ak 108 [.own 0 0 3 i,.agg [L 1 f,N k,N l]] [] [.own 0 0 3 o] []/\aq (b+1)/\Lp f80 0 (H4 d e (b+1) (cB (cB a (W c) (.v (.sl 3 i))) (W c) (O 3 o))) 0 r h)))))
 (ak 110 [.mp 0] [.map 209 a] [.fn (.func 165) [] [.az 1 0]] [.map 209 a,.aH [.mp 0]]/\∃j,ak 109 [.fn (.func 165) [] [.az 0 0]] [.aH [.mp 1],.map 209 a] [vL 1 j] [.aH [.mp 1],.map 209 a]/\Lp f80 1 (H5 [] j (j.length:Int) 0 a) 0 r h)):
  Lp f80 0 (H4 d e b a) 0 r h:=.of A80 H
def WI(b e:Rw)(d:List (PV×AV))(H:bP (a<f) (Rdw e a fun c=>((cK d (W c)=none/\(b++([[W c,L 3 []]]:Rw)).length*32<=2^47/\aq (a+1)/\Lp f80 1 (H5 (b++([[W c,L 3 []]]:Rw)) e f (a+1) d) 0 r h)\/(∃g,cK d (W c)=some (O 3 g)/\(b++([[W c,L 3 g]]:Rw)).length*32<=2^47/\aq (a+1)/\Lp f80 1 (H5 (b++([[W c,L 3 g]]:Rw)) e f (a+1) d) 0 r h)))
 (Fi r h [.own 0 0 2 b,vN 0] [])):
  Lp f80 1 (H5 b e f a d) 0 r h:=.of A80 H
abbrev Fy(a b:Rw)(c d:Int)r h:=Lp f107 0 ⟨aO 43 [(6,.own 0 0 1 a),(19,vL 1 b),(20,vN c),(21,vN d)],[some 0],[]⟩ 0 r h
def abU:df:={an:=[(1,1,ah),(7,1,ah),(8,1,ah),(10,3,aa),(10,4,aa),(10,5,aa),(13,1,ah)],cut:=[(6,{bl:=[6,19,20,21],cN:=[(6,1)],owns:=[6]})]}
def ahu(H:∃a b,ak 159 [.agg [N c,N d,N e,U f,U g,L 6 i]] [] [vL 1 a,vN b] []/\aI (b !=0) (Fi r h [vL 1 [],vN b] [])
 (Fy [] a (a.length:Int) 0 r h)):
  ak 107 [.agg [N c,N d,N e,U f,U g,L 6 i]] [] r h:=.of func107 abU H
def SD(H:bP (b<e) (Qk d b fun i=>∃c f,ak 160 [vL 4 i] [] [vL 1 c,vB f] []/\(a++c).length*24<=2^47/\aI (bif(!f)then true else(decide (((a++c).length:Int)>256))) (Fi r h [vL 1 [],vN 9] [])
 (aq (b+1)/\Fy (a++c) d e (b+1) r h))
 (∃g,ak 161 [vL 1 a] [] [vL 1 g] []/\Fi r h [vL 1 g,vN 0] [])):
  Fy a d e b r h:=.of abU H
def ahv(a b:Rw)(H:aI ((b.length:Int)==0) (Fi r h [.own 0 0 3 a] []) (bP ((a.length:Int)>0) (aq ((a.length:Int)-1)/\rK a ((a.length:Int)-1) fun e f g=>cb 162 [.agg [L 1 e,N f,N g]] [] fun i=>aI i (Fi r h [.own 0 0 3 a] [])
 ((a++([[L 1 b,N c,N d]]:Rw)).length*40<=2^47/\Fi r h [.own 0 0 3 (a++([[L 1 b,N c,N d]]:Rw))] [])) ((a++([[L 1 b,N c,N d]]:Rw)).length*40<=2^47/\Fi r h [.own 0 0 3 (a++([[L 1 b,N c,N d]]:Rw))] []))):
  ak 108 [.own 0 0 3 a,.agg [L 1 b,N c,N d]] [] r h:=.of func108 {an:=[(1,14,ah),(1,15,ah)]} H
abbrev Fz(a b:Rw)(c d:Int)r h:=Lp f160 0 ⟨aO 26 [(4,vL 1 a),(9,vL 4 b),(10,vN c),(11,vN d)],[],[]⟩ 0 r h
def abV:df:={an:=[(4,1,ah),(6,2,ah),(6,3,ah)],cut:=[(3,{bl:=[4,9,10,11]})]}
def ahw(H:Fz [[L 5 []]] a (a.length:Int) 0 r h):
  ak 160 [vL 4 a] [] r h:=.of func160 abV H
def SE(H:bP (a<d) (Ya c a fun e f g i=>Hb 226 [.agg [N e,N f,U g,U i]] [] fun j=>qZ8 225 [vL 1 b,vL 1 j] [] fun k l=>aI (!l) (Fi r h [vL 1 [],vB false] [])
 (aq (a+1)/\Fz k c d (a+1) r h))
 (Fi r h [vL 1 b,vB true] [])):
  Fz b c d a r h:=.of abV H
def ahx(H:cb 229 [vL 1 a,.fn (.func 230) [] []] [] fun d=>Fi r h [vB d] []):
  ak 162 [.agg [L 1 a,N b,N c]] [] r h:=.of func162 {} H
def ahy(H:Fi r h [vB ((a.length:Int)==0)] []):
  ak 230 [vL 5 a] [] r h:=.of func230 {} H
def dc:List At->List (List Hf)->List (List Hf)×Bool
 |[],b=>(b,true)
 |a::t,b=>bif !(l0 b (fk a)).2 then([],false)else dc t (l0 b (fk a)).1
def Ax(a:At):CL 2 (fk a):=by
 unfold fk qo;cases !vx a.arg a.op
 .cases a.op==1
  .cases a.op==2
   .cases a.op==6
    .cases a.op==4<;>exact⟨by simp,by simp⟩
    .exact⟨by simp,by simp⟩
   .exact⟨by simp,by simp⟩
  .exact⟨by simp,by simp⟩
 .exact⟨by simp,by simp⟩
def tT:∀(l:List At)(b:List (List Hf))(n:Nat),CL n b->CL (n+2*l.length) (dc l b).1
 |[],b,n,h=>h
 |a::t,b,n,h=>by
  unfold dc;have c:=As h.each (Ax a).each;cases(l0 b (fk a)).2
  .exact⟨by simp,by simp⟩
  .have:=tT t _ _ c
   rw[show n+2+2*t.length=n+2*(a::t).length by simp;omega]at this
   exact this
def ahz(l:List At)(p:l.length<=2^38):ak 160 [vL 4 (l.map At.row)] [] [vL 1 (cL (dc l [[]]).1),vB (dc l [[]]).2] []:=by
 have key:∀(t:List At)(i:Nat)(b:List (List Hf))(n:Nat),l.drop i=t->CL n b->n<=2*i+1->Fz (cL b) (l.map At.row) l.length i [vL 1 (cL (dc t b).1),vB (dc t b).2] []:=by
  intro t;induction t with
  |nil=>intro i b n c _ _;apply SE;exact aQ (l:=l) rfl c fi
  |cons a t m=>
   intro i b n c f q;obtain⟨j,k,o⟩:=bM c;have e:=Ax a;apply SE;refine aL (l:=l) rfl c ⟨a.arg,a.op,a.mask,a.value,by omega,aP j,_,ahg a,_,_,Go.Ac.ak.soft (ahd b (fk a) (by have:=f.len;omega) (by have:=e.len;omega) (fun x g=>by have:=f.each x g;omega) (fun x g=>by have:=e.each x g;omega)) rfl,
    ad (fun d=>aZ (by rw[dc,d];rfl)) fun d=>⟨au,?_⟩⟩
   rw[dc,d];exact m (i+1) _ _ k (As f.each e.each) (by omega)
 apply ahw;rw[al];exact key l 0 [[]] 0 rfl ⟨by simp,by simp⟩ (by omega)
def mi:List (List At)->List (List Hf)->List (List Hf)×Int
 |[],a=>(tS a,0)
 |x::t,a=>bif(bif !(dc x [[]]).2 then true else decide (((a++(dc x [[]]).1).length:Int)>256))then([],9)else mi t (a++(dc x [[]]).1)
def cA(c:Cn):List (List Hf)×Int:=bif(fQ c).2 !=0 then([],(fQ c).2)else mi (fQ c).1 []
def xH(c:Cn):CL (ew c) (fQ c).1:=by
 have h:=K0 (tq c);have a:=Ar c;unfold fQ;cases(vz (tq c)).2
 .exact⟨by simp,by simp⟩
 .exact⟨h.len,fun x b=>dX (h.each x b) a⟩
def ahA(c:Cn)(u:ew c<=2^38):ak 107 [v7 c] [] [vL 1 (cL (cA c).1),vN (cA c).2] []:=by
 have j:=xH c;generalize o:(fQ c).1=l at j;have key:∀(t:List (List At))(i:Nat)(a:List (List Hf)),l.drop i=t->CL (2^40) a->Fy (cL a) (jb l) l.length i [vL 1 (cL (mi t a).1),vN (mi t a).2] []:=by
  intro t;induction t with
  |nil=>intro i a g d;apply SD;exact aQ (l:=l) rfl g ⟨_,ahs a (by have:=d.len;omega) d.each,fi⟩
  |cons x t p=>
   intro i a g d;obtain⟨k,n,q⟩:=bM g;have v:=j.each x (aK k);have m:=tT x [[]] 0 ⟨by simp,by simp⟩
   have e:cL a++cL (dc x [[]]).1=cL (a++(dc x [[]]).1):=by simp[cL]
   have le:(cL (a++(dc x [[]]).1)).length=(a++(dc x [[]]).1).length:=al ..;have w:=d.len;have z:=m.len;have r:=j.len;apply SD;refine aL (l:=l) rfl g ⟨x.map At.row,by omega,aP k,_,_,ahz x (by omega),?_⟩
   rw[e,le];refine⟨by simp;omega,ad (fun b=>aZ (by rw[mi,b];rfl)) fun b=>⟨au,?_⟩⟩
   rw[mi,b];have s:¬(((a++(dc x [[]]).1).length:Int)>256):=by
    cases hb : !(dc x [[]]).2<;>rw[hb]at b
    .exact bI b
    .simp at b
   refine p (i+1) _ n ⟨by omega,fun y f=>?_⟩
   rcases bp.1 f with f|f
   .exact d.each y f
   .have:=m.each y f;omega
 apply ahu;refine⟨_,_,ahf c (by omega),ad (fun h=>aZ (by rw[cA,h];rfl)) fun h=>?_⟩
 rw[cA,h,o,show(jb l).length=l.length from al ..]
 exact key l 0 [] rfl ⟨by simp,by simp⟩
structure Sp where
 cl:List (List Hf)
 act:Act
def Sp.row(s:Sp):List PV:=[L 1 (cL s.cl),N s.act.kind,N s.act.data]
abbrev ZX(s:Sp):AV:=.agg [L 1 (cL s.cl),N s.act.kind,N s.act.data]
def oj(a:List (List Hf)):Bool:=a.any fun l=>(l.length:Int)==0
def abW(s:Sp)(d:s.cl.length<=2^40):ak 162 [ZX s] [] [vB (oj s.cl)] []:=by
 apply ahx;refine⟨_,by
  apply QG;refine⟨_,by
   apply QR;exact eZ (Hd:=fun i=>p5 _ _ i) (p:=fun l:List Hf=>(l.length:Int)==0) d fun i r e b c=>Kx _ _ _ (fg (l:=s.cl) (by simp[cL]) (fun x a=>⟨x.map Hf.row,by omega,aP a,_,by apply ahy;rw[al];exact fi,b x a⟩) c),aZ (by rw[mG];rfl)⟩,fi⟩
def mI(l:List Sp)(s:Sp):List Sp:=bif(s.cl.length:Int)==0 then l else bif decide ((l.length:Int)>0)then(bif oj (l.getLastD ⟨[],⟨0,0⟩⟩).cl then l else l++[s])else l++[s]
def abX(l:List Sp)(s:Sp)(k:l.length<=2^40)(g:∀x∈l,x.cl.length<=2^40):ak 108 [.own 0 0 3 (l.map Sp.row),ZX s] [] [.own 0 0 3 ((mI l s).map Sp.row)] []:=by
 have i:(cL s.cl).length=s.cl.length:=al ..;have j:(l.map Sp.row).length=l.length:=al ..;have e:l.map Sp.row++([[L 1 (cL s.cl),N s.act.kind,N s.act.data]]:Rw)=(l++[s]).map Sp.row:=by simp[Sp.row]
 apply ahv;rw[i,e,j];refine ad (fun h=>aZ (by rw[mI,h];rfl)) fun h=>ad (fun a=>?_) fun a=>⟨by simp;omega,aZ (by rw[mI,h,a];rfl)⟩
 have c:=aU a;have d:l≠[]:=by intro h;rw[h]at c;simp at c
 have f:l.getLast?=some (l.getLastD ⟨[],⟨0,0⟩⟩):=by rw[jH d,kq,jH d];rfl
 refine⟨au,cL (l.getLastD ⟨[],⟨0,0⟩⟩).cl,(l.getLastD ⟨[],⟨0,0⟩⟩).act.kind,(l.getLastD ⟨[],⟨0,0⟩⟩).act.data,by omega,?_,_,abW (l.getLastD ⟨[],⟨0,0⟩⟩) (g _ (uD f)),ad (fun b=>aZ (by rw[mI,h,a];simp only[ai,af,b])) fun b=>⟨by simp;omega,aZ (by rw[mI,h,a];simp only[ai,af,b])⟩⟩
 rw[show toNat ((l.length:Int)-1)=l.length-1 by omega,bu,<-yr,f]
 rfl
abbrev Mk:=Int×List Sp
def Vb(l:List Mk):List (PV×AV):=l.map fun x=>(W x.1,O 3 (x.2.map Sp.row))
def gF(l:List Mk)(k:Int):Option Mk:=l.find? fun x=>k==x.1
def pe(x:Mk):List Mk->List Mk
 |[]=>[x]
 |y::l=>bif x.1==y.1 then x::l else y::pe x l
def FA(a b:Int):l9 (W a) (W b)=(a==b):=rfl
def yI(k:Int):∀(l:List Mk),cK (Vb l) (W k)=(gF l k).map fun x=>O 3 (x.2.map Sp.row)
 |[]=>rfl
 |x::l=>by
  have a:=yI k l;unfold Vb gF at a⊢;rw[bG,cK,FA,cp];cases k==x.1
  .exact a
  .rfl
def Mx(x:Mk):∀(l:List Mk),cB (Vb l) (W x.1) (O 3 (x.2.map Sp.row))=Vb (pe x l)
 |[]=>rfl
 |y::l=>by
  have a:=Mx x l;unfold Vb at a⊢;rw[bG,cB,FA,pe];cases x.1==y.1
  .rw[aN (by decide),a];rfl
  .rfl
def My(k:Int)(a b:AV):∀(c:List (PV×AV)),cB (cB c (W k) a) (W k) b=cB c (W k) b
 |[]=>by simp only[cB,FA,beq_self_eq_true];rfl
 |y::c=>by
  rw[cB];split
  .rename_i h
   rw[cB,FA,beq_self_eq_true,aG rfl];rw[cB,aG h]
  .rename_i h
   rw[cB,aN h,My k a b c];rw[cB,aN h]
structure Ch where
 nr:Int
 steps:List Sp
def Ch.row(c:Ch):List PV:=[W c.nr,L 3 (c.steps.map Sp.row)]
def cE:List Bd->List Mk->Except Int (List Mk)
 |[],m=>.ok m
 |b::t,m=>bif !(cg b.act).2 then .error 1 else bif(cA b.cond).2 !=0 then .error (cA b.cond).2 else cE t (pe (b.nr,mI (((gF m b.nr).map (·.2)).getD []) ⟨(cA b.cond).1,b.act⟩) m)
def bO(m:List Mk):List Ch:=(gx (m.map (·.1))).map fun k=>⟨k,((gF m k).map (·.2)).getD []⟩
def qp(l:List Bd):Except Int (List Ch):=match cE l []with
 |.error e=>.error e
 |.ok m=>.ok (bO m)
def chR:Except Int (List Ch)->List AV
 |.error e=>[vL 2 [],vN e]
 |.ok l=>[.own 0 0 2 (l.map Ch.row),vN 0]
def chV:Except Int (List Ch)->List AV
 |.error e=>[vL 2 [],vN e]
 |.ok l=>[vL 2 (l.map Ch.row),vN 0]
structure Zb (n:Nat) (m:List Mk):Prop where
 nodup:(m.map (·.1)).Nodup
 len:m.length<=n
 steps:∀x∈m,x.2.length<=n/\∀s∈x.2,s.cl.length<=256
def l4:∀{l:List Mk}{y:Mk},y∈pe x l->y=x\/y∈l
 |[],y,h=>by simp[pe]at h;exact .inl h
 |z::l,y,h=>by
  unfold pe at h;cases hk:x.1==z.1<;>rw[hk]at h
  .rw[af]at h
   rcases aY.1 h with rfl|h
   .exact .inr aW
   .rcases l4 h with h|h
    .exact .inl h
    .exact .inr (aV _ h)
  .rw[ai]at h
   rcases aY.1 h with rfl|h
   .exact .inl rfl
   .exact .inr (aV _ h)
def Ay(x:Mk):∀(l:List Mk),(pe x l).length<=l.length+1
 |[]=>ar _
 |z::l=>by
  have:=Ay x l;unfold pe;cases x.1==z.1<;>simp only[ai,af,aD]<;>omega
def tU:∀{l:List Mk},(l.map (·.1)).Nodup->((pe x l).map (·.1)).Nodup
 |[],_=>by simp[pe]
 |z::l,h=>by
  rw[bG,gX]at h;unfold pe;cases hk:x.1==z.1
  .rw[af,bG,gX]
   refine⟨fun c=>?_,tU h.2⟩
   obtain⟨y,a,b⟩:=bh.1 c;rcases l4 a with rfl|a
   .exact gV hk b
   .exact h.1 (bh.2 ⟨y,a,b⟩)
  .rw[ai,bG,gX,bZ hk]
   exact h
def CN:∀(l:List (List Hf)),(gI l).length<=l.length
 |[]=>ar _
 |x::t=>by
  have:=CN t;unfold gI;cases(cH x []).2<;>simp only[ai,af,aD]<;>omega
def Zb.mono(h:Zb n l)(b:n<=m):Zb m l:=⟨h.nodup,by have:=h.len;omega,fun x a=>⟨by have:=(h.steps x a).1;omega,(h.steps x a).2⟩⟩
def Az:∀(l:List (List At))(a:List (List Hf)),a.length<=256->(mi l a).1.length<=256
 |[],a,h=>by
  have b:=(vA (left:=gI a) (gI a) 0).1;have c:=CN a;show(tS a).length<=256
  unfold tS;omega
 |x::t,a,h=>by
  unfold mi;cases hb:(bif !(dc x [[]]).2 then true else decide (((a++(dc x [[]]).1).length:Int)>256))
  .refine Az t _ ?_
   cases hc : !(dc x [[]]).2<;>rw[hc]at hb
   .have:=bI (show decide (((a++(dc x [[]]).1).length:Int)>256)=false from hb)
    omega
   .simp at hb
  .simp
def r6(c:Cn):(cA c).1.length<=256:=by
 unfold cA;cases(fQ c).2 !=0
 .exact Az _ _ (by simp)
 .simp
def Vc(h:l.length<=n/\∀x∈l,x.cl.length<=256)(d:s.cl.length<=256):(mI l s).length<=n+1/\∀x∈mI l s,x.cl.length<=256:=by
 have a:(l++[s]).length<=n+1/\∀x∈l++[s],x.cl.length<=256:=by
  refine⟨by simp;omega,fun x c=>?_⟩
  rcases bp.1 c with c|c
  .exact h.2 x c
  .rw[cP.1 c];exact d
 have b:l.length<=n+1/\∀x∈l,x.cl.length<=256:=⟨by omega,h.2⟩
 unfold mI;cases(s.cl.length:Int)==0
 .cases decide ((l.length:Int)>0)
  .exact a
  .cases oj (l.getLastD ⟨[],⟨0,0⟩⟩).cl
   .exact a
   .exact b
 .exact b
def l5(h:gF l k=some x):x∈l/\k=x.1:=by
 unfold gF at h;exact⟨mB h,by have:=qT h;exact bZ this⟩
def step_ok{b:Bd}(h:Zb n m):Zb (n+1) (pe (b.nr,mI (((gF m b.nr).map (·.2)).getD []) ⟨(cA b.cond).1,b.act⟩) m):=by
 have a:(((gF m b.nr).map (·.2)).getD []).length<=n/\∀x∈((gF m b.nr).map (·.2)).getD [],x.cl.length<=256:=by
  cases a:gF m b.nr with
  |none=>exact⟨by simp,by simp⟩
  |some x=>exact h.steps x (l5 a).1
 refine⟨tU h.nodup,?_,fun x c=>?_⟩
 .have:=Ay (b.nr,mI (((gF m b.nr).map (·.2)).getD []) ⟨(cA b.cond).1,b.act⟩) m
  have:=h.len;omega
 .rcases l4 c with rfl|c
  .exact Vc a (r6 _)
  .have:=h.steps x c
   exact⟨by omega,this.2⟩
def sY:∀(l:List Int)(k:Int),k∈gx l<->k∈l:=by
 have b:∀(n:Int)(l:List Int)(k:Int),k∈nR n l<->k=n\/k∈l:=by
  intro n l;induction l with
  |nil=>intro k;simp[nR]
  |cons m l a=>
   intro k;unfold nR;cases decide (n<=m)
   .simp only[af,aY,a]
    constructor
    .rintro(h|h|h)<;>simp[h]
    .rintro(h|h|h)<;>simp[h]
   .simp
 intro l;induction l with
 |nil=>intro k;simp[gx]
 |cons n l a=>intro k;rw[gx,b,a];simp
def wZ:∀(l:List Int),(gx l).length=l.length:=by
 have b:∀(n:Int)(l:List Int),(nR n l).length=l.length+1:=by
  intro n l;induction l with
  |nil=>rfl
  |cons m l a=>unfold nR;cases decide (n<=m)<;>simp[a]
 intro l;induction l with
 |nil=>rfl
 |cons n l a=>rw[gx,b,a];simp
def C80(l:List Bd)(Z:l.length<=2^20)(K:∀b∈l,ew b.cond<=2^38)(J:∀b∈l,0<=b.nr/\b.nr<4294967296):ak 80 [vL 9 (l.map Bd.row)] [] (chV (qp l)) []:=by
 have Q:∀(m:List Mk),Zb (2^20) m->∀(t:List Int)(i:Nat)(n:List Ch),(gx (m.map (·.1))).drop i=t->n.length<=i ->
   Lp f80 1 (H5 (n.map Ch.row) ((gx (m.map (·.1))).map fun k=>[W k]) (gx (m.map (·.1))).length i (Vb m)) 0 [.own 0 0 2 ((n++t.map fun k=>(⟨k,((gF m k).map (·.2)).getD []⟩:Ch)).map Ch.row),vN 0] []:=by
  intro m c t;have D:=c.len;have X:=wZ (m.map (·.1))
  rw[al]at X;induction t with
  |nil=>intro i n g _;apply WI;exact aQ (l:=gx (m.map (·.1))) rfl g (aZ (by simp))
  |cons k t j=>
   intro i n g F;obtain⟨o,s,E⟩:=bM g;have v:k∈m.map (·.1):=(sY _ _).1 (aK o)
   have d:∃x,gF m k=some x:=by
    cases d:gF m k with
    |some x=>exact⟨x,rfl⟩
    |none=>
     obtain⟨y,h,H⟩:=bh.1 v;have:=List.find?_eq_none.1 d y h;simp[H]at this
   obtain⟨x,a⟩:=d;apply WI;refine aL (l:=gx (m.map (·.1))) rfl g ⟨k,by omega,aP (f:=fun k=>[W k]) o,.inr ⟨x.2.map Sp.row,by rw[yI,a];rfl,by simp;omega,au,?_⟩⟩
   have:=j (i+1) (n++[⟨k,x.2⟩]) s (by simp;omega)
   rw[bN (l₁:=n) (l₂:=[_]),bq]at this;rw[bG,a];exact this
 have M:∀(t:List Bd)(i:Nat)(m:List Mk),l.drop i=t->i+t.length=l.length->Zb i m->(∀x∈m,0<=x.1/\x.1<4294967296)->Lp f80 0 (H4 (l.map Bd.row) l.length i (Vb m)) 0 (chR (match cE t m with|.error e=>.error e|.ok m=>.ok (bO m))) []:=by
  intro t;induction t with
  |nil=>
   intro i m g r c z;simp only[cS]at r;have c:=c.mono (m:=2^20) (by omega)
   have D:=c.len;apply WH;have Y:=aeG (Vb m) (m.map (·.1)) (by simp[Vb,Function.comp_def]) c.nodup (fun k v=>by obtain⟨x,a,rfl⟩:=bh.1 v;exact z x a) (by simpa using D)
   refine aQ (l:=l) rfl g ⟨aeF _,_,Y,?_⟩;have:=Q m c (gx (m.map (·.1))) 0 [] rfl (by simp)
   rw[al];exact this
  |cons b t j=>
   intro i m g r c z;simp only[aD]at r;obtain⟨o,s,E⟩:=bM g;have G:=K b (aK o);have T:=step_ok (b:=b) c;apply WH;rw[cE];refine aL (l:=l) rfl g ⟨b.nr,b.act.kind,b.act.data,b.cond.kind,b.cond.arg,b.cond.op,b.cond.mask,b.cond.value,da b.cond.kids,by omega,(aP o).trans (by rw[Bd.row,Cn.cu]),_,_,U1 b.act,ad (fun q=>aZ (by rw[q];rfl)) fun q=>
    ⟨_,_,ahA b.cond G,ad (fun u=>aZ (by rw[q,u];rfl)) fun u=>?_⟩⟩
   rw[q,u];have j:=j (i+1) _ s (by omega) T fun x a=>(l4 a).elim (fun e=>e▸J b (aK o)) fun a=>z x a
   have I:=Mx (b.nr,mI (((gF m b.nr).map (·.2)).getD []) ⟨(cA b.cond).1,b.act⟩) m
   rw[<-I]at j;cases d:gF m b.nr with
   |none=>
    rw[d]at j;exact .inl ⟨by rw[yI,d];rfl,_,abX [] ⟨(cA b.cond).1,b.act⟩ (by simp) (by simp),au,j⟩
   |some x=>
    have a:=c.steps x (l5 d).1;rw[d]at j;exact .inr ⟨x.2.map Sp.row,by rw[yI,d];rfl,_,abX x.2 ⟨(cA b.cond).1,b.act⟩ (by omega) (fun y h=>by have:=a.2 y h;omega),au,by rw[My];exact j⟩
 have w:ak 80 [vL 9 (l.map Bd.row)] [] (chR (qp l)) []:=by
  apply W80;rw[al];exact M l 0 [] rfl (by simp) ⟨by simp,by simp,by simp⟩ (fun x a=>by simp at a)
 cases ht:qp l with
 |error p=>rw[ht]at w;exact w
 |ok p=>rw[ht]at w;exact Go.Ac.ak.soft w rfl
abbrev H6(a:Int)(b:Rw)(c d e f:Int)(g:Rw)r h:=Lp f83 0 ⟨aO 51 [(3,.az 0 0),(5,.bA 1),(6,vN a),(10,vL 2 b),(11,vN c),(12,vN d)],[],[.aH [vN e,vN f],.bn 5 g]⟩ 0 r h
def A83:df:={an:=[(5,1,ah),(10,8,aX),(11,3,ah),(11,4,aX),(15,5,aX)],mod:=[(10,8,[(0,[999])]),(11,4,[(0,[999])]),(15,5,[(0,[999])])],cut:=[(4,{bl:=[3,5,6,10,11,12],iV:=[(5,5)]})],rf:=true}
def W83(H:H6 0 a (a.length:Int) 0 b c [] r h):
  ak 83 [vL 2 a,.agg [N b,N c]] [] r h:=.of func83 A83 H
def WJ(f:Rw)(H:bP (b<i) (aag g b fun a y=>bP ((wrap .i64 a)<e) (Fi r h [.own 0 0 5 []] [])
 (bP ((wrap .i64 a)>e) (∃j,ak 117 [.bA 0,.agg [W (wrap .u32 e),W (wrap .u32 (a-1)),L 3 [],N c,N d]] [.bn 5 f] [.bA 1] [.dead,.bn 5 j]/\∃k l m n o,ak 118 [.agg [W a,L 3 y],.agg [N c,N d]] [] [.agg [W k,W l,L 3 m,N n,N o]] []/\∃p,ak 117 [.bA 0,.agg [W k,W l,L 3 m,N n,N o]] [.bn 5 j] [.bA 1] [.dead,.bn 5 p]/\aq ((wrap .i64 a)+1)/\aq (b+1)/\H6 ((wrap .i64 a)+1) g i (b+1) c d p r h)
 (∃q s t u v,ak 118 [.agg [W a,L 3 y],.agg [N c,N d]] [] [.agg [W q,W s,L 3 t,N u,N v]] []/\∃w,ak 117 [.bA 0,.agg [W q,W s,L 3 t,N u,N v]] [.bn 5 f] [.bA 1] [.dead,.bn 5 w]/\aq ((wrap .i64 a)+1)/\aq (b+1)/\H6 ((wrap .i64 a)+1) g i (b+1) c d w r h)))
 (bP (e<=4294967295) (∃x,ak 117 [.bA 0,.agg [W (wrap .u32 e),W 4294967295,L 3 [],N c,N d]] [.bn 5 f] [.bA 1] [.dead,.bn 5 x]/\Fi r h [vL 5 x] [])
 (Fi r h [vL 5 f] []))):
  H6 e g i b c d f r h:=.of A83 H
def ahB(H:aq ((a.length:Int)-1)/\bP (((a.length:Int)-1)>=0) ((0<=((a.length:Int)-1)/\((a.length:Int)-1)<(a.length:Int))/\Ql a ((a.length:Int)-1) fun g i j k l=>cb 168 [.agg [W g,W i,L 3 j,N k,N l],.agg [W c,W b,L 3 d,N e,N f]] [] fun m=>aI m ((0<=((a.length:Int)-1)/\((a.length:Int)-1)<(a.length:Int))/\1+1<=5/\Fi r h [.bA 1] [.dead,.bn 5 (cF a (toNat ((a.length:Int)-1)) 1 [W b])])
 ((a++([[W c,W b,L 3 d,N e,N f]]:Rw)).length*48<=2^47/\Fi r h [.bA 1] [.dead,.bn 5 (a++([[W c,W b,L 3 d,N e,N f]]:Rw))])) ((a++([[W c,W b,L 3 d,N e,N f]]:Rw)).length*48<=2^47/\Fi r h [.bA 1] [.dead,.bn 5 (a++([[W c,W b,L 3 d,N e,N f]]:Rw))])):
  ak 117 [.bA 0,.agg [W c,W b,L 3 d,N e,N f]] [.bn 5 a] r h:=.of func117 {an:=[(1,1,aX),(2,5,aX),(2,8,ah),(3,4,aX),(5,3,aX)]} H
def ahC(H:∃a,ak 169 [vL 3 e] [] [vL 3 a] []/\aq ((a.length:Int)-1)/\bP (((a.length:Int)-1)>=0) (rK a ((a.length:Int)-1) fun f g i=>cb 162 [.agg [L 1 f,N g,N i]] [] fun j=>aI j (rK a ((a.length:Int)-1) fun m k l=>(0<=(0:Int)/\(0:Int)<=((a.length:Int)-1)/\((a.length:Int)-1)<=(a.length:Int))/\Fi r h [.agg [W b,W b,L 3 (drop 0 (take (toNat ((a.length:Int)-1)) a)),N k,N l]] [])
 (Fi r h [.agg [W b,W b,L 3 a,N c,N d]] [])) (Fi r h [.agg [W b,W b,L 3 a,N c,N d]] [])):
  ak 118 [.agg [W b,L 3 e],.agg [N c,N d]] [] r h:=.of func118 {an:=[(1,1,fv),(1,3,fv),(1,5,fv),(1,6,ah),(1,7,eP),(1,10,{fb:=some [3]}),(3,7,ah),(3,8,ah),(4,5,ah)]} H
def ahD(H:aI ((true&&(b==e))&&(c==f)) (cb 237 [vL 3 a,vL 3 d,.fn (.func 238) [] []] [] fun l=>Fi r h [vB l] []) (Fi r h [vB false] [])):
  ak 168 [.agg [W g,W i,L 3 a,N b,N c],.agg [W j,W k,L 3 d,N e,N f]] [] r h:=.of func168 {} H
abbrev FB(a b:Rw)(c d:Int)r h:=Lp f169 0 ⟨aO 39 [(3,.own 0 0 3 a),(9,vL 3 b),(10,vN c),(11,vN d)],[some 0],[]⟩ 0 r h
abbrev FC(a b:Rw)(c d:Int)(e:Rw)(f g:Int)(i:Rw)(j k:Int)r h:=Lp f169 1 ⟨aO 39 [(3,.own 0 0 3 a),(6,.az 0 0),(9,vL 3 b),(10,vN c),(11,vN d),(19,vL 1 e),(20,vN f),(21,vN g)],[some 0],[.aH [O 1 i,vN j,vN k]]⟩ 0 r h
def Zc:df:={an:=[(4,1,ah),(8,1,ah),(9,1,{take:=true}),(9,3,ah),(9,7,{take:=true})],cut:=[(3,{bl:=[3,9,10,11],cN:=[(3,3)],owns:=[3]}),(7,{bl:=[3,6,9,10,11,19,20,21],cN:=[(3,3)],owns:=[3]})]}
def ahE(H:FB [] a (a.length:Int) 0 r h):
  ak 169 [vL 3 a] [] r h:=.of func169 Zc H
def SF(H:bP (a<d) (rK c a fun e f g=>FC b c d a e (e.length:Int) 0 [] f g r h)
 (Fi r h [.own 0 0 3 b] [])):
  FB b c d a r h:=.of Zc H
def SG(b:Rw)(H:bP (a<k) (wA j a fun m=>Kf 239 [vL 5 m] [] fun l=>(b++([[L 5 l]]:Rw)).length*24<=2^47/\aq (a+1)/\FC c g i d j k (a+1) (b++([[L 5 l]]:Rw)) e f r h)
 ((c++([[L 1 b,N e,N f]]:Rw)).length*40<=2^47/\aq (d+1)/\FB (c++([[L 1 b,N e,N f]]:Rw)) g i (d+1) r h)):
  FC c g i d j k a b e f r h:=.of Zc H
def ahF(H:aI ((true&&(b==e))&&(c==f)) (cb 309 [vL 1 a,vL 1 d,.fn (.func 310) [] []] [] fun g=>Fi r h [vB g] []) (Fi r h [vB false] [])):
  ak 238 [.agg [L 1 a,N b,N c],.agg [L 1 d,N e,N f]] [] r h:=.of func238 {} H
def ahG(H:cb 311 [vL 5 a,vL 5 b] [] fun c=>Fi r h [vB c] []):
  ak 310 [vL 5 a,vL 5 b] [] r h:=.of func310 {an:=[(1,2,ah)]} H
def H7{α:Type}(f:α->α->Bool):List α->List α->Bool
 |x::s,y::t=>bif !f x y then false else H7 f s t
 |_,_=>true
def Jr{α:Type}(f:α->α->Bool)(a b:List α):Bool:=bif(a.length:Int) !=(b.length:Int)then false else H7 f a b
def FD{Hd:Int->St}{f:α->α->Bool}{a b:List α}(G:a.length=b.length)(w:a.length<=2^40)(step:∀(i:Nat)(r:List AV)(h:List Bx),(∀x y,a[i]?=some x->b[i]?=some y->aI (!f x y) (Fi r h [vB false] e) (aq ((i:Int)+1)/\mN fn j (Hd ((i:Int)+1)) g r h))->(a[i]?=none->Fi r h [vB true] e)->mN fn j (Hd i) g r h):
  mN fn j (Hd 0) g [vB (H7 f a b)] e:=by
 have key:∀(s:List α)(i:Nat)(t:List α),a.drop i=s->b.drop i=t->mN fn j (Hd i) g [vB (H7 f s t)] e:=by
  intro s;induction s with
  |nil=>
   intro i t k c;have:=lj k;exact step i _ _ (fun x y d _=>by rw[eJ this]at d;simp at d) fun _=>aZ (by cases t<;>rfl)
  |cons x s p=>
   intro i t k c;obtain⟨l,o,v⟩:=bM k;match t,c with
   |[],c=>have:=lj c;omega
   |y::t,c=>
    obtain⟨q,u,z⟩:=bM c;refine step i _ _ (fun D E d n=>?_) fun m=>by rw[l]at m;simp at m
    rw[l]at d;rw[q]at n;obtain rfl:=ax d;obtain rfl:=ax n;refine ad (fun h=>aZ (by rw[H7,h];rfl)) fun h=>⟨au,?_⟩
    rw[H7,h];exact p (i+1) t o u
 exact key a 0 b rfl rfl
def ahH(a b:List Hf)(g:a.length<=2^40):ak 311 [vL 5 (a.map Hf.row),vL 5 (b.map Hf.row)] [] [vB (Jr tQ a b)] []:=by
 apply aeh;rw[al,al];refine ad (fun h=>aZ (by rw[Jr,h];rfl)) fun h=>?_
 have k:a.length=b.length:=by simp at h;omega
 rw[Jr,h];exact FD (Hd:=fun i=>EV _ _ _ i) k g fun i r m e f=>Yz _ _ _ _ (fg (l:=a) rfl (fun x c=>by
  have j:i<b.length:=by have:=(aE.1 c).1;omega
  have d:=bo j;exact⟨_,_,_,_,_,by omega,aP c,_,_,_,_,_,by omega,aP d,e x _ c d⟩) f)
def ahI(a b:List Hf)(c:a.length<=2^40):ak 310 [vL 5 (a.map Hf.row),vL 5 (b.map Hf.row)] [] [vB (Jr tQ a b)] []:=by apply ahG;exact⟨_,ahH a b c,fi⟩
def H8(s:Sp):Prop:=s.cl.length<=2^40/\∀l∈s.cl,l.length<=2^40
def ahJ(a b:List (List Hf))(g:a.length<=2^40)(m:∀l∈a,l.length<=2^40):ak 309 [vL 1 (cL a),vL 1 (cL b),.fn (.func 310) [] []] [] [vB (Jr (Jr tQ) a b)] []:=by
 have n:(cL a).length=a.length:=al ..;have lb:(cL b).length=b.length:=al ..;apply Q0;rw[n,lb];refine ad (fun h=>aZ (by rw[Jr,h];rfl)) fun h=>?_
 have k:a.length=b.length:=by simp at h;omega
 rw[Jr,h];exact FD (Hd:=fun i=>p7 _ _ _ i) k g fun i r o e f=>Kz _ _ _ _ (fg (l:=a) rfl (fun x c=>by
  have j:i<b.length:=by have:=(aE.1 c).1;omega
  have d:=bo j;exact⟨_,by omega,aP c,_,by omega,aP d,_,ahI x _ (m x (aK c)),e x _ c d⟩) f)
def AA(a b:Sp):Bool:=bif((true&&(a.act.kind==b.act.kind))&&(a.act.data==b.act.data))then Jr (Jr tQ) a.cl b.cl else false
def ahK(a b:Sp)(c:H8 a):ak 238 [ZX a,ZX b] [] [vB (AA a b)] []:=by
 apply ahF;exact ad (fun h=>⟨_,ahJ a.cl b.cl c.1 c.2,aZ (by rw[AA,h];rfl)⟩) fun h=>aZ (by rw[AA,h];rfl)
def ahL(a b:List Sp)(g:a.length<=2^40)(m:∀s∈a,H8 s):ak 237 [vL 3 (a.map Sp.row),vL 3 (b.map Sp.row),.fn (.func 238) [] []] [] [vB (Jr AA a b)] []:=by
 apply QJ;rw[al,al];refine ad (fun h=>aZ (by rw[Jr,h];rfl)) fun h=>?_
 have k:a.length=b.length:=by simp at h;omega
 rw[Jr,h];exact FD (Hd:=fun i=>pU _ _ _ i) k g fun i r n e f=>Ko _ _ _ _ (fg (l:=a) rfl (fun x c=>by
  have j:i<b.length:=by have:=(aE.1 c).1;omega
  have d:=bo j;exact⟨_,_,_,by omega,aP c,_,_,_,by omega,aP d,_,ahK x _ (m x (aK c)),e x _ c d⟩) f)
structure Sn where
 lo:Int
 hi:Int
 steps:List Sp
 act:Act
def Sn.row(s:Sn):List PV:=[W s.lo,W s.hi,L 3 (s.steps.map Sp.row),N s.act.kind,N s.act.data]
abbrev ZY(s:Sn):AV:=.agg [W s.lo,W s.hi,L 3 (s.steps.map Sp.row),N s.act.kind,N s.act.data]
def w5(s:Sn):Prop:=s.steps.length<=2^40/\∀x∈s.steps,H8 x
def oG(a b:Sn):Bool:=bif((true&&(a.act.kind==b.act.kind))&&(a.act.data==b.act.data))then Jr AA a.steps b.steps else false
def ahM(a b:Sn)(c:w5 a):ak 168 [ZY a,ZY b] [] [vB (oG a b)] []:=by
 apply ahD;exact ad (fun h=>⟨_,ahL a.steps b.steps c.1 c.2,aZ (by rw[oG,h];rfl)⟩) fun h=>aZ (by rw[oG,h];rfl)
def hH:Sn:=⟨0,0,[],⟨0,0⟩⟩
def addN(l:List Sn)(x:Sn):List Sn:=bif decide ((l.length:Int)-1>=0)then(bif oG (l.getLastD hH) x then l.dropLast++[{l.getLastD hH with hi:=x.hi}]else l++[x])else l++[x]
def xI(f:α->α)(v:α):∀(u:List α),(u++[v]).modify u.length f=u++[f v]
 |[]=>rfl
 |a::u=>by
  have:=xI f v u;show(a::(u++[v])).modify (u.length+1) f=a::(u++[f v])
  rw[List.modify_succ_cons,this]
def modify_last(a:l≠[])(n:Int):cF (l.map Sn.row) (l.length-1) 1 [W n]=(l.dropLast++[{l.getLastD hH with hi:=n}]).map Sn.row:=by
 obtain⟨i,y,rfl⟩:∃i y,l=i++[y]:=⟨l.dropLast,l.getLast a,(yP a).symm⟩;have b:(i++[y]).getLastD hH=y:=by simp[kq]
 rw[b,List.dropLast_concat,bN,bN];unfold cF;rw[show(i++[y]).length-1=(i.map Sn.row).length by simp,bG,oM,xI]
 rfl
def Vd(l:List Sn)(x:Sn)(k:l.length<=2^40)(i:∀s∈l,w5 s):ak 117 [.bA 0,ZY x] [.bn 5 (l.map Sn.row)] [.bA 1] [.dead,.bn 5 ((addN l x).map Sn.row)]:=by
 have j:(l.map Sn.row).length=l.length:=al ..;have e:l.map Sn.row++([[W x.lo,W x.hi,L 3 (x.steps.map Sp.row),N x.act.kind,N x.act.data]]:Rw)=(l++[x]).map Sn.row:=by simp[Sn.row]
 apply ahB;rw[e,j];refine⟨au,ad (fun h=>?_) fun h=>⟨by simp;omega,bE rfl (by rw[addN,h];rfl)⟩⟩
 have c:=aU h;have b:l≠[]:=by intro f;rw[f]at c;simp at c
 have d:l.getLast?=some (l.getLastD hH):=by rw[jH b,kq,jH b];rfl
 have g:(l.map Sn.row)[toNat ((l.length:Int)-1)]?=some [W (l.getLastD hH).lo,W (l.getLastD hH).hi,L 3 ((l.getLastD hH).steps.map Sp.row),N (l.getLastD hH).act.kind,N (l.getLastD hH).act.data]:=by
  rw[show toNat ((l.length:Int)-1)=l.length-1 by omega,bu,<-yr,d]
  rfl
 refine⟨⟨by omega,by omega⟩,_,_,_,_,_,g,_,ahM (l.getLastD hH) x (i _ (uD d)),ad (fun a=>⟨⟨by omega,by omega⟩,by omega,bE rfl ?_⟩) fun a=>⟨by simp;omega,bE rfl (by rw[addN,h,a];rfl)⟩⟩
 rw[addN,h,a,show toNat ((l.length:Int)-1)=l.length-1 by omega,modify_last b]
 rfl
def om(a : -9223372036854775808<=n)(b:n<=9223372036854775807):wrap .i64 n=n:=ra (au a b)
def vD(a:0<=n)(b:n<4294967296):wrap .u32 n=n:=by simp[wrap,IntKind.signed,IntKind.bits];omega
def ahN(l:List Sp)(h:l.length<=2^40)(m:∀s∈l,H8 s):ak 169 [vL 3 (l.map Sp.row)] [] [vL 3 (l.map Sp.row)] []:=by
 have key:∀(t:List Sp)(i:Nat)(a:List Sp),l.drop i=t->a=l.take i->FB (a.map Sp.row) (l.map Sp.row) l.length i [.own 0 0 3 (l.map Sp.row)] []:=by
  intro t;induction t with
  |nil=>
   intro i a b d;rw[dE (lj b)]at d;rw[d];apply SF;exact aQ (l:=l) rfl b fi
  |cons x t n=>
   intro i a b d;obtain⟨f,k,w⟩:=bM b;obtain⟨E,q⟩:=m x (aK f);have G:a.length<=i:=by rw[d];simp;omega
   have inner:∀(s:List (List Hf))(j:Nat)(z:List (List Hf)),x.cl.drop j=s->z=x.cl.take j->FC (a.map Sp.row) (l.map Sp.row) l.length i (cL x.cl) x.cl.length j (cL z) x.act.kind x.act.data [.own 0 0 3 (l.map Sp.row)] []:=by
    intro s;induction s with
    |nil=>
     intro j z c e;rw[dE (lj c)]at e;subst e;apply SG;refine aQ (l:=x.cl) rfl c ⟨by simp;omega,au,?_⟩
     have:=n (i+1) (a++[x]) k (by rw[d,eE,f];rfl)
     rw[bN (l₁:=a) (l₂:=[x])]at this;exact this
    |cons y s v=>
     intro j z c e;obtain⟨g,o,D⟩:=bM c;have u:=q y (aK g);have H:z.length<=j:=by rw[e];simp;omega
     apply SG;refine aL (l:=x.cl) rfl c ⟨y.map Hf.row,by omega,aP g,_,Go.Ac.ak.soft (ad2 (y.map Hf.row) (by simpa using u)) rfl,by simp[cL];omega,au,?_⟩
     have:=v (j+1) (z++[y]) o (by rw[e,eE,g];rfl)
     rw[show cL (z++[y])=cL z++[[L 5 (y.map Hf.row)]] by simp[cL,hfR]]at this
     exact this
   apply SF;refine aL (l:=l) rfl b ⟨cL x.cl,x.act.kind,x.act.data,by omega,aP f,?_⟩
   have p:(cL x.cl).length=x.cl.length:=al ..;simp only[p];exact inner x.cl 0 [] rfl rfl
 refine Go.Ac.ak.soft (r:=[.own 0 0 3 _]) ?_ rfl;apply ahE;rw[al];exact key l 0 [] rfl rfl
def tV:Sp:=⟨[],⟨0,0⟩⟩
def ie(c:Ch)(d:Act):Sn:=bif decide ((c.steps.length:Int)-1>=0)then(bif oj (c.steps.getLastD tV).cl then⟨c.nr,c.nr,c.steps.dropLast,(c.steps.getLastD tV).act⟩else⟨c.nr,c.nr,c.steps,d⟩)else⟨c.nr,c.nr,c.steps,d⟩
def Ve(c:Ch):Prop:=c.steps.length<=2^40/\∀s∈c.steps,H8 s
def ahO(c:Ch)(d:Act)(j:Ve c):ak 118 [.agg [W c.nr,L 3 (c.steps.map Sp.row)],zX d] [] [ZY (ie c d)] []:=by
 obtain⟨l,f⟩:=j;apply ahC;refine⟨_,ahN c.steps l f,?_⟩;rw[al];refine⟨au,ad (fun h=>?_) fun h=>aZ (by rw[ie,h];rfl)⟩
 have b:=aU h;have g:c.steps≠[]:=by intro k;rw[k]at b;simp at b
 have i:c.steps.getLast?=some (c.steps.getLastD tV):=by rw[jH g,kq,jH g];rfl
 have e:(c.steps.map Sp.row)[toNat ((c.steps.length:Int)-1)]?=some [L 1 (cL (c.steps.getLastD tV).cl),N (c.steps.getLastD tV).act.kind,N (c.steps.getLastD tV).act.data]:=by
  rw[show toNat ((c.steps.length:Int)-1)=c.steps.length-1 by omega,bu,<-yr,i]
  rfl
 refine⟨_,_,_,by omega,e,_,abW _ (f _ (uD i)).1,ad (fun a=>⟨_,_,_,by omega,e,⟨by omega,by omega,by omega⟩,aZ ?_⟩) fun a=>aZ (by rw[ie,h];simp only[ai,a,af])⟩
 rw[ie,h];simp only[ai,a];rw[fK,show toNat ((c.steps.length:Int)-1)=c.steps.length-1 by omega,<-iD,<-DY]
def La:Int->List Ch->Prop
 |n,[]=>0<=n/\n<=4294967296
 |n,c::t=>0<=n/\n<=c.nr/\c.nr<4294967296/\La (c.nr+1) t
def x6(d:Act):List Ch->Int->List Sn->List Sn
 |[],n,a=>bif decide (n<=4294967295)then addN a ⟨n,4294967295,[],d⟩else a
 |c::t,n,a=>bif decide (c.nr>n)then x6 d t (c.nr+1) (addN (addN a ⟨n,c.nr-1,[],d⟩) (ie c d))else x6 d t (c.nr+1) (addN a (ie c d))
def cC(l:List Ch)(d:Act):List Sn:=x6 d l 0 []
def FE(h:∀s∈l,w5 s)(f:w5 x):(addN l x).length<=l.length+1/\∀s∈addN l x,w5 s:=by
 have a:(l++[x]).length<=l.length+1/\∀s∈l++[x],w5 s:=by
  refine⟨by simp,fun s b=>?_⟩
  rcases bp.1 b with b|b
  .exact h s b
  .rw[cP.1 b];exact f
 unfold addN;cases hd:decide ((l.length:Int)-1>=0)
 .exact a
 .have c:=aU hd
  have d:l≠[]:=by intro e;rw[e]at c;simp at c
  have g:l.getLast?=some (l.getLastD hH):=by rw[jH d,kq,jH d];rfl
  cases oG (l.getLastD hH) x
  .exact a
  .refine⟨by simp,fun s b=>?_⟩
   rcases bp.1 (show s∈l.dropLast++[{l.getLastD hH with hi:=x.hi}]from b)with b|b
   .exact h s (uC l b)
   .rw[cP.1 b]
    have:=h _ (uD g);exact this
def Mz(h:Ve c):w5 (ie c d):=by
 unfold ie;cases decide ((c.steps.length:Int)-1>=0)
 .exact h
 .cases oj (c.steps.getLastD tV).cl
  .exact h
  .exact⟨by have:=h.1;show c.steps.dropLast.length<=_;simp;omega,fun s a=>h.2 s (uC _ a)⟩
def C83(l:List Ch)(d:Act)(X:l.length<=2^30)(H:∀c∈l,Ve c)(G:La 0 l):ak 83 [vL 2 (l.map Ch.row),zX d] [] [vL 5 ((cC l d).map Sn.row)] []:=by
 have M:∀a b,w5 ⟨a,b,[],d⟩:=fun a b=>⟨by simp,by simp⟩
 have key:∀(t:List Ch)(i:Nat)(n:Int)(e:List Sn),l.drop i=t->i+t.length=l.length->La n t->e.length<=2*i->(∀s∈e,w5 s)->
   H6 n (l.map Ch.row) l.length i d.kind d.data (e.map Sn.row) [vL 5 ((x6 d t n e).map Sn.row)] []:=by
  intro t;induction t with
  |nil=>
   intro i n e g o k I f;simp only[cS]at o;apply WJ;refine aQ (l:=l) rfl g (ad (fun h=>?_) fun h=>aZ (by rw[x6,h];rfl))
   have j:=aU h;have K:=k.1;have c:=Vd e ⟨n,4294967295,[],d⟩ (by omega) f
   rw[vD K (by omega)]
   exact⟨_,c,aZ (by rw[x6,h];rfl)⟩
  |cons c t u=>
   intro i n e g o k I f;simp only[aD]at o;obtain⟨j,q,Q⟩:=bM g;obtain⟨J,Y,Z,v⟩:=k;have m:=H c (aK j);have w:=ahO c d m;have p:=FE (x:=⟨n,c.nr-1,[],d⟩) f (M _ _);have y:=FE (x:=ie c d) f (Mz m);have z:=FE (x:=ie c d) p.2 (Mz m);have r:=Vd e ⟨n,c.nr-1,[],d⟩ (by omega) f
   have D:=Vd e (ie c d) (by omega) f
   have E:=Vd (addN e ⟨n,c.nr-1,[],d⟩) (ie c d) (by omega) p.2
   apply WJ;refine aL (l:=l) rfl g ⟨c.nr,c.steps.map Sp.row,by omega,aP j,?_⟩
   simp only;rw[om (n:=c.nr) (by omega) (by omega),vD (n:=n) J (by omega)]
   refine aw (bB (by omega)) (ad (fun h=>?_) fun h=>⟨_,_,_,_,_,w,_,D,au,au,?_⟩)
   .have T:=aU h
    rw[vD (n:=c.nr-1) (by omega) (by omega)]
    refine⟨_,r,_,_,_,_,_,w,_,E,au,au,?_⟩;rw[x6,h];exact u (i+1) _ _ q (by omega) v (by omega) z.2
   .rw[x6,h]
    exact u (i+1) _ _ q (by omega) v (by omega) y.2
 apply W83;rw[al];exact key l 0 0 [] rfl (by simp) G (by simp) (by simp)
def W82(H:cb 111 [vL 5 b] [] fun t=>aI (!t) (Fi r h [vL 5 [],vN 1] [])
 (∃c a,ak 112 [.az 0 0] [.aH [O 5 [],vN 0,vN 0]] [vN c] [.aH [O 5 [],vN a,vN 0]]/\∃e f,ak 113 [.az 0 0,.agg [N 0,N 0,N 0,N 32,W 4]] [.aH [O 5 [],vN a,vN 0]] [] [.aH [O 5 e,vN a,vN f]]/\∃g i,ak 113 [.az 0 0,.agg [N 0,N c,N 0,N 21,W d]] [.aH [O 5 e,vN a,vN f]] [] [.aH [O 5 g,vN a,vN i]]/\∃j k,ak 114 [.az 0 0,.agg [N 1,N 0]] [.aH [O 5 g,vN a,vN i]] [] [.aH [O 5 j,vN a,vN k]]/\∃l m,ak 115 [.az 0 0,vN c] [.aH [O 5 j,vN a,vN k]] [] [.aH [O 5 l,vN a,vN m]]/\∃n o,ak 113 [.az 0 0,.agg [N 0,N 0,N 0,N 32,W 0]] [.aH [O 5 l,vN a,vN m]] [] [.aH [O 5 n,vN a,vN o]]/\∃p q s,ak 116 [.az 0 0,vL 5 b] [.aH [O 5 n,vN a,vN o]] [] [.aH [O 5 p,vN q,vN s]]/\Fi r h [vL 5 p,vN 0] [])):
  ak 82 [vW d,vL 5 b] [] r h:=.of func82 {an:=[(1,1,ah)],mod:=[(4,1,[(0,[1])]),(5,2,[(0,[0,2])]),(6,4,[(0,[0,2])]),(7,2,[(0,[0,2])]),(8,2,[(0,[0,2])]),(9,2,[(0,[0,2])]),(10,2,[(0,[0,1,2])])]} H
abbrev FF(a:Int)(b:Rw)(c d:Int)r h:=Lp f111 0 ⟨aO 36 [(3,vN a),(6,vL 5 b),(7,vN c),(8,vN d)],[],[]⟩ 0 r h
def abY:df:={an:=[(4,1,ah),(5,6,aa),(5,7,aa),(5,8,aa),(5,9,aa),(5,10,aa),(5,14,ah)],cut:=[(3,{bl:=[3,6,7,8]})]}
def ahP(H:FF 0 a (a.length:Int) 0 r h):
  ak 111 [vL 5 a] [] r h:=.of func111 abY H
def SH(H:bP (a<e) (zA d a fun f b g i j=>aI (bif((wrap .i64 f) !=c)then true else(decide (b<f))) (Fi r h [vB false] []) (cb 166 [.agg [W f,W b,L 3 g,N i,N j]] [] fun k=>aI (!k) (Fi r h [vB false] [])
 (aq ((wrap .i64 b)+1)/\aq (a+1)/\FF ((wrap .i64 b)+1) d e (a+1) r h)))
 (Fi r h [vB (c==4294967296)] [])):
  FF c d e a r h:=.of abY H
def ahQ(H:aq (a+1)/\Fi r h [vN (a+1)] [.aH [O 5 b,vN (a+1),vN c]]):
  ak 112 [.az 0 0] [.aH [O 5 b,vN a,vN c]] r h:=.of func112 {} H
def ahR(a:Rw)(H:(a++([[N b,N c,N d,N e,W f]]:Rw)).length*40<=2^47/\Fi r h [] [.aH [O 5 (a++([[N b,N c,N d,N e,W f]]:Rw)),vN g,vN 0]]):
  ak 113 [.az 0 0,.agg [N i,N c,N d,N e,W f]] [.aH [O 5 a,vN g,vN b]] r h:=.of func113 {an:=[(2,4,jj),(2,5,eP),(2,10,jj)]} H
def ahS(H:Jq 106 [.agg [N d,N e]] [] fun i j=>∃f g,ak 113 [.az 0 0,.agg [N 0,N 0,N 0,N 6,W i]] [.aH [O 5 b,vN a,vN c]] [] [.aH [O 5 f,vN a,vN g]]/\Fi r h [] [.aH [O 5 f,vN a,vN g]]):
  ak 114 [.az 0 0,.agg [N d,N e]] [.aH [O 5 b,vN a,vN c]] r h:=.of func114 {an:=[(1,1,ah)],mod:=[(2,3,[(0,[0,2])])]} H
def ahT(H:aI (c !=0) (∃e f,ak 113 [.az 0 0,.agg [N 0,N 0,N 0,N 135,W 0]] [.aH [O 5 b,vN a,vN c]] [] [.aH [O 5 e,vN a,vN f]]/\Fi r h [] [.aH [O 5 e,vN a,vN d]])
 (Fi r h [] [.aH [O 5 b,vN a,vN d]])):
  ak 115 [.az 0 0,vN d] [.aH [O 5 b,vN a,vN c]] r h:=.of func115 {mod:=[(1,2,[(0,[0,2])])]} H
def ahU(H:aI ((a.length:Int)==1) (zA a 0 fun v w x y z=>∃i j k,ak 167 [.az 0 0,.agg [W v,W w,L 3 x,N y,N z]] [.aH [O 5 b,vN f,vN c]] [] [.aH [O 5 i,vN j,vN k]]/\Fi r h [] [.aH [O 5 i,vN j,vN k]])
 ((2:Int)≠0/\∃g d,ak 112 [.az 0 0] [.aH [O 5 b,vN f,vN c]] [vN g] [.aH [O 5 b,vN d,vN c]]/\zA a (wrap .i64 (tdiv (a.length:Int) 2)) fun D E G I J=>∃l m,ak 113 [.az 0 0,.agg [N 0,N g,N 0,N 53,W D]] [.aH [O 5 b,vN d,vN c]] [] [.aH [O 5 l,vN d,vN m]]/\(0<=(0:Int)/\(0:Int)<=(wrap .i64 (tdiv (a.length:Int) 2))/\(wrap .i64 (tdiv (a.length:Int) 2))<=(a.length:Int))/\∃n e o,ak 116 [.az 0 0,vL 5 (drop 0 (take (toNat (wrap .i64 (tdiv (a.length:Int) 2))) a))] [.aH [O 5 l,vN d,vN m]] [] [.aH [O 5 n,vN e,vN o]]/\∃p q,ak 115 [.az 0 0,vN g] [.aH [O 5 n,vN e,vN o]] [] [.aH [O 5 p,vN e,vN q]]/\(0<=(wrap .i64 (tdiv (a.length:Int) 2))/\(wrap .i64 (tdiv (a.length:Int) 2))<=(a.length:Int)/\(a.length:Int)<=(a.length:Int))/\∃s t u,ak 116 [.az 0 0,vL 5 (drop (toNat (wrap .i64 (tdiv (a.length:Int) 2))) (take a.length a))] [.aH [O 5 p,vN e,vN q]] [] [.aH [O 5 s,vN t,vN u]]/\Fi r h [] [.aH [O 5 s,vN t,vN u]])):
  ak 116 [.az 0 0,vL 5 a] [.aH [O 5 b,vN f,vN c]] r h:=.of func116 {an:=[(1,3,ah),(4,5,ah)],mod:=[(1,4,[(0,[0,1,2])]),(3,1,[(0,[1])]),(4,8,[(0,[0,2])]),(5,4,[(0,[0,1,2])]),(6,2,[(0,[0,2])]),(7,4,[(0,[0,1,2])])]} H
abbrev FG(a:Rw)(b c d e:Int)(f:Rw)(g i:Int)r h:=Lp f166 0 ⟨aO 19 [(1,.az 0 0),(6,vL 3 a),(7,vN b),(8,vN c)],[],[.aH [vW d,vW e,vL 3 f,vN g,vN i]]⟩ 0 r h
def abZ:df:={an:=[(3,1,ah),(4,1,ah),(7,2,ah)],cut:=[(2,{bl:=[1,6,7,8]})]}
def ahV(H:FG a (a.length:Int) 0 b c a d e r h):
  ak 166 [.agg [W b,W c,L 3 a,N d,N e]] [] r h:=.of func166 abZ H
def SI(H:bP (a<c) (rK b a fun j k l=>cb 234 [.agg [L 1 j,N k,N l]] [] fun m=>aI (!m) (Fi r h [vB false] [])
 (aq (a+1)/\FG b c (a+1) f g i d e r h))
 (cb 235 [.agg [N d,N e]] [] fun n=>Fi r h [vB n] [])):
  FG b c a f g i d e r h:=.of abZ H
abbrev FH(a:Rw)(b c:Int)(d:Rw)(e f g i:Int)(j:Rw)(k l:Int)r h:=Lp f167 0 ⟨aO 21 [(0,.az 0 0),(3,.az 1 0),(7,vL 3 a),(8,vN b),(9,vN c)],[],[.aH [O 5 d,vN e,vN f],.aH [vW g,vW i,vL 3 j,vN k,vN l]]⟩ 1 r h
def ab0:df:={an:=[(3,1,ah)],mod:=[(4,2,[(0,[0,1,2])]),(6,3,[(0,[0,2])])],cut:=[(2,{bl:=[0,3,7,8,9]})]}
def ahW(H:FH a (a.length:Int) 0 b c d e f a g i r h):
  ak 167 [.az 0 0,.agg [W e,W f,L 3 a,N g,N i]] [.aH [O 5 b,vN c,vN d]] r h:=.of func167 ab0 H
def SJ(H:bP (a<d) (rK c a fun s t u=>∃m n o,ak 236 [.az 0 0,.agg [L 1 s,N t,N u]] [.aH [O 5 e,vN b,vN f]] [] [.aH [O 5 m,vN n,vN o]]/\aq (a+1)/\FH c d (a+1) m n o j k l g i r h)
 (∃p q,ak 114 [.az 0 0,.agg [N g,N i]] [.aH [O 5 e,vN b,vN f]] [] [.aH [O 5 p,vN b,vN q]]/\Fi r h [] [.aH [O 5 p,vN b,vN q]])):
  FH c d a e b f j k l g i r h:=.of ab0 H
abbrev FI(a:Rw)(b c:Int)(d:Rw)(e f:Int)r h:=Lp f234 0 ⟨aO 28 [(1,.az 0 0),(8,vL 1 a),(9,vN b),(10,vN c)],[],[.aH [vL 1 d,vN e,vN f]]⟩ 0 r h
abbrev FJ(a:Rw)(b c:Int)(d:Rw)(e f:Int)(g:Rw)(i j:Int)r h:=Lp f234 1 ⟨aO 28 [(1,.az 0 0),(8,vL 1 a),(9,vN b),(10,vN c),(14,vL 5 d),(15,vN e),(16,vN f)],[],[.aH [vL 1 g,vN i,vN j]]⟩ 0 r h
def Zd:df:={an:=[(3,1,ah),(6,1,ah),(7,1,ah),(11,2,ah)],cut:=[(2,{bl:=[1,8,9,10]}),(5,{bl:=[1,8,9,10,14,15,16]})]}
def ahX(H:FI a (a.length:Int) 0 a b c r h):
  ak 234 [.agg [L 1 a,N b,N c]] [] r h:=.of func234 Zd H
def SK(H:bP (a<c) (wA b a fun g=>FJ b c a g (g.length:Int) 0 f d e r h)
 (cb 235 [.agg [N d,N e]] [] fun i=>Fi r h [vB i] [])):
  FI b c a f d e r h:=.of Zd H
def SL(H:bP (a<f) (n5 e a fun k l m n o=>cb 307 [.agg [N k,N l,B m,W n,W o]] [] fun p=>aI (!p) (Fi r h [vB false] [])
 (aq (a+1)/\FJ c d b e f (a+1) g i j r h))
 (aq (b+1)/\FI c d (b+1) g i j r h)):
  FJ c d b e f a g i j r h:=.of Zd H
def ahY(H:Jq 106 [.agg [N a,N b]] [] fun d c=>Fi r h [vB c] []):
  ak 235 [.agg [N a,N b]] [] r h:=.of func235 {an:=[(1,1,ah)]} H
abbrev FK(a b:Int)(c:Rw)(d e:Int)(f:Rw)(g i:Int)(j:Rw)(k l:Int)r h:=Lp f236 0 ⟨aO 57 [(0,.az 0 0),(3,.az 1 0),(4,vN a),(5,vN b),(14,vL 1 c),(15,vN d),(16,vN e)],[],[.aH [O 5 f,vN g,vN i],.aH [vL 1 j,vN k,vN l]]⟩ 1 r h
def ab1:df:={an:=[(4,2,ah)],mod:=[(1,1,[(0,[1])]),(1,3,[(0,[1])]),(5,1,[(0,[1])]),(7,3,[(0,[0,2])]),(8,5,[(0,[0,2])]),(9,2,[(0,[0,2])]),(12,2,[(0,[0,2])]),(13,3,[(0,[0,2])]),(14,2,[(0,[0,2])])],cut:=[(3,{bl:=[0,3,4,5,14,15,16]})]}
def ahZ(H:∃g i,ak 112 [.az 0 0] [.aH [O 5 a,vN d,vN b]] [vN g] [.aH [O 5 a,vN i,vN b]]/\∃j k,ak 112 [.az 0 0] [.aH [O 5 a,vN i,vN b]] [vN j] [.aH [O 5 a,vN k,vN b]]/\FK g j c (c.length:Int) 0 a k b c e f r h):
  ak 236 [.az 0 0,.agg [L 1 c,N e,N f]] [.aH [O 5 a,vN d,vN b]] r h:=.of func236 ab1 H
def SM(H:bP (f<n) (wA m f fun Z=>∃l a,ak 112 [.az 0 0] [.aH [O 5 d,vN b,vN e]] [vN l] [.aH [O 5 d,vN a,vN e]]/\aq ((g.length:Int)-1)/\aI (f==((g.length:Int)-1)) (∃o p,ak 308 [.az 0 0,vL 5 Z,vN 0,vN c,vN 0] [.aH [O 5 d,vN a,vN e]] [] [.aH [O 5 o,vN a,vN p]]/\bP ((g.length:Int)>0) (∃q s,ak 115 [.az 0 0,vN i] [.aH [O 5 o,vN a,vN p]] [] [.aH [O 5 q,vN a,vN s]]/\∃t u,ak 114 [.az 0 0,.agg [N j,N k]] [.aH [O 5 q,vN a,vN s]] [] [.aH [O 5 t,vN a,vN u]]/\∃v w,ak 115 [.az 0 0,vN c] [.aH [O 5 t,vN a,vN u]] [] [.aH [O 5 v,vN a,vN w]]/\Fi r h [] [.aH [O 5 v,vN a,vN w]])
 (∃x y,ak 115 [.az 0 0,vN c] [.aH [O 5 o,vN a,vN p]] [] [.aH [O 5 x,vN a,vN y]]/\Fi r h [] [.aH [O 5 x,vN a,vN y]]))
 (∃z D,ak 308 [.az 0 0,vL 5 Z,vN i,vN l,vN l] [.aH [O 5 d,vN a,vN e]] [] [.aH [O 5 z,vN a,vN D]]/\∃E G,ak 115 [.az 0 0,vN l] [.aH [O 5 z,vN a,vN D]] [] [.aH [O 5 E,vN a,vN G]]/\aq (f+1)/\FK i c m n (f+1) E a G g j k r h))
 (bP ((g.length:Int)>0) (∃I J,ak 115 [.az 0 0,vN i] [.aH [O 5 d,vN b,vN e]] [] [.aH [O 5 I,vN b,vN J]]/\∃K M,ak 114 [.az 0 0,.agg [N j,N k]] [.aH [O 5 I,vN b,vN J]] [] [.aH [O 5 K,vN b,vN M]]/\∃Q T,ak 115 [.az 0 0,vN c] [.aH [O 5 K,vN b,vN M]] [] [.aH [O 5 Q,vN b,vN T]]/\Fi r h [] [.aH [O 5 Q,vN b,vN T]])
 (∃X Y,ak 115 [.az 0 0,vN c] [.aH [O 5 d,vN b,vN e]] [] [.aH [O 5 X,vN b,vN Y]]/\Fi r h [] [.aH [O 5 X,vN b,vN Y]]))):
  FK i c m n f d b e g j k r h:=.of ab1 H
abbrev tW(a:Rw)(b c d:Int)(e:Rw)(f g:Int)(i:Rw)(j k:Int)r h:=Lp f308 0 ⟨aO 54 [(0,.az 0 0),(1,vL 5 a),(2,vN b),(3,vN c),(4,vN d),(23,vL 5 e),(24,vN f),(25,vN g)],[],[.aH [O 5 i,vN j,vN k]]⟩ 1 r h
def ab2:df:={an:=[(0,4,aa),(0,5,aa),(4,2,ah)],mod:=[(1,3,[(0,[0,2])]),(5,4,[(0,[0,2])]),(7,3,[(0,[0,2])]),(9,3,[(0,[0,2])])],cut:=[(3,{bl:=[0,1,2,3,4,23,24,25]})]}
def ah0(H:aI (bif((a.length:Int)==0)then(c !=0)else false) (∃i j,ak 113 [.az 0 0,.agg [N 0,N c,N 0,N 5,W 0]] [.aH [O 5 d,vN b,vN e]] [] [.aH [O 5 i,vN b,vN j]]/\tW a c f g a (a.length:Int) 0 i b j r h)
 (tW a c f g a (a.length:Int) 0 d b e r h)):
  ak 308 [.az 0 0,vL 5 a,vN c,vN f,vN g] [.aH [O 5 d,vN b,vN e]] r h:=.of func308 ab2 H
def SN(H:bP (b<i) (n5 g b fun l m n o p=>aq ((d.length:Int)-1)/\bP (b<((d.length:Int)-1)) (∃q s,ak 350 [.az 0 0,.agg [N l,N m,B n,W o,W p],vN 0,vN c] [.aH [O 5 j,vN a,vN k]] [] [.aH [O 5 q,vN a,vN s]]/\aq (b+1)/\tW d e c f g i (b+1) q a s r h)
 (aI (c==f) (∃t u,ak 350 [.az 0 0,.agg [N l,N m,B n,W o,W p],vN e,vN 0] [.aH [O 5 j,vN a,vN k]] [] [.aH [O 5 t,vN a,vN u]]/\aq (b+1)/\tW d e c f g i (b+1) t a u r h)
 (∃v w,ak 350 [.az 0 0,.agg [N l,N m,B n,W o,W p],vN e,vN c] [.aH [O 5 j,vN a,vN k]] [] [.aH [O 5 v,vN a,vN w]]/\aq (b+1)/\tW d e c f g i (b+1) v a w r h)))
 (Fi r h [] [.aH [O 5 j,vN a,vN k]])):
  tW d e c f g i b j a k r h:=.of ab2 H
abbrev FL(a b c:Int)(d:Rw)(e f g i:Int)(j:Bool)(k l:Int)r h:=Rp f350 4 ⟨aO 69 [(0,.az 0 0),(2,vN a),(3,vN b),(5,.az 1 0),(8,vN c)],[],[.aH [O 5 d,vN e,vN f],.aH [vN g,vN i,vB j,vW k,vW l]]⟩ 1 r h
abbrev FM(a b:Int)(c:Rw)(d e f g:Int)(i:Bool)(j k:Int)r h:=Rp f350 7 ⟨aO 69 [(0,.az 0 0),(2,vN a),(3,vN b),(5,.az 1 0)],[],[.aH [O 5 c,vN d,vN e],.aH [vN f,vN g,vB i,vW j,vW k]]⟩ 1 r h
abbrev qq(a:Rw)(b c d e:Int)(f:Bool)(g i j k l m n:Int)r h:=Rp f350 16 ⟨aO 69 [(0,.az 0 0),(5,.az 1 0),(9,.az 2 0)],[],[.aH [O 5 a,vN b,vN c],.aH [vN d,vN e,vB f,vW g,vW i],.aH [vN j,vN k,vN l,vN m,vW n]]⟩ 1 r h
def Vf:df:={an:=[(16,4,aa),(16,5,aa),(16,6,aa),(16,9,aa),(16,10,aa),(16,11,aa)],mod:=[(4,4,[(0,[0,2])]),(6,4,[(0,[0,2])]),(18,2,[(0,[0,2])])],join:=[(16,{bl:=[0,5,9]}),(4,{bl:=[0,2,3,5,8]}),(7,{bl:=[0,2,3,5]})]}
def ah1(H:aq ((8:Int)*a)/\aq ((16:Int)+((8:Int)*a))/\aI b (aq (((16:Int)+((8:Int)*a))+4)/\FL j k (((16:Int)+((8:Int)*a))+4) c d e a f b g i r h)
 (FL j k ((16:Int)+((8:Int)*a)) c d e a f b g i r h)):
  ak 350 [.az 0 0,.agg [N a,N f,B b,W g,W i],vN j,vN k] [.aH [O 5 c,vN d,vN e]] r h:=.of func350 Vf H
def Ze(H:∃j k,ak 113 [.az 0 0,.agg [N 0,N 0,N 0,N 32,W (wrap .u32 l)]] [.aH [O 5 m,vN a,vN n]] [] [.aH [O 5 j,vN a,vN k]]/\aI (b !=4294967295) (∃o p,ak 113 [.az 0 0,.agg [N 0,N 0,N 0,N 84,W b]] [.aH [O 5 j,vN a,vN k]] [] [.aH [O 5 o,vN a,vN p]]/\FM c d o a p e f g b i r h)
 (FM c d j a k e f g b i r h)):
  FL c d l m a n e f g b i r h:=x7.of Vf H
def Zf(H:aI (b==1) (qq e f g i b j k a 0 c d 21 a r h)
 (aI (b==2) (qq e f g i b j k a 0 c d 21 a r h)
 (aI (b==5) (qq e f g i b j k a 0 c d 37 a r h)
 (aI (b==4) (qq e f g i b j k a 0 c d 37 a r h)
 (qq e f g i b j k a 0 c d 53 a r h))))):
  FM c d e f g i b j k a r h:=x7.of Vf H
def Vg(H:aI (bif(bif(b==2)then true else(b==4))then true else(b==3)) (∃k l,ak 113 [.az 0 0,.agg [N e,N g,N f,N i,W j]] [.aH [O 5 c,vN a,vN d]] [] [.aH [O 5 k,vN a,vN l]]/\Fi r h [] [.aH [O 5 k,vN a,vN l]])
 (∃m n,ak 113 [.az 0 0,.agg [N e,N f,N g,N i,W j]] [.aH [O 5 c,vN a,vN d]] [] [.aH [O 5 m,vN a,vN n]]/\Fi r h [] [.aH [O 5 m,vN a,vN n]])):
  qq c a d o b p q s e f g i j r h:=x7.of Vf H
section
def vE(l:List Hf):Bool:=l.all fun h=>vx h.arg h.op
def CO(s:Sp):Bool:=bif s.cl.all vE then(cg s.act).2 else false
def CP(x:Sn):Bool:=bif x.steps.all CO then(cg x.act).2 else false
def gp:List Sn->Int->Bool
 |[],n=>n==4294967296
 |x::t,n=>bif(bif x.lo !=n then true else decide (x.hi<x.lo))then false else bif !CP x then false else gp t (x.hi+1)
def ab3(a:Act):ak 235 [zX a] [] [vB (cg a).2] []:=by apply ahY;exact⟨_,_,U1 a,fi⟩
def ah2(s:Sp)(h:H8 s):ak 234 [ZX s] [] [vB (CO s)] []:=by
 obtain⟨q,f⟩:=h;have key:∀(t:List (List Hf))(i:Nat),s.cl.drop i=t->FI (cL s.cl) s.cl.length i (cL s.cl) s.act.kind s.act.data [vB (bif t.all vE then(cg s.act).2 else false)] []:=by
  intro t;induction t with
  |nil=>intro i a;apply SK;exact aQ (l:=s.cl) rfl a ⟨_,ab3 s.act,fi⟩
  |cons x t g=>
   intro i a;obtain⟨d,e,p⟩:=bM a;have z:=f x (aK d);have inner:∀(u:List Hf)(j:Nat),x.drop j=u->FJ (cL s.cl) s.cl.length i (x.map Hf.row) x.length j (cL s.cl) s.act.kind s.act.data [vB (bif vE u&&t.all vE then(cg s.act).2 else false)] []:=by
    intro u;induction u with
    |nil=>intro j b;apply SL;exact aQ (l:=x) rfl b ⟨au,g (i+1) e⟩
    |cons y u o=>
     intro j b;obtain⟨k,m,v⟩:=bM b;apply SL;refine aL (l:=x) rfl b ⟨_,_,_,_,_,by omega,aP k,_,Za y,ad (fun c=>aZ ?_) fun c=>⟨au,?_⟩⟩
     .rw[show vE (y::u)=(vx y.arg y.op&&vE u)from rfl,show vx y.arg y.op=false by simpa using c];rfl
     .rw[show vE (y::u)=(vx y.arg y.op&&vE u)from rfl,show vx y.arg y.op=true by simpa using c]
      exact o (j+1) m
   apply SK;refine aL (l:=s.cl) rfl a ⟨x.map Hf.row,by omega,aP d,?_⟩
   simp only[al];exact inner x 0 rfl
 apply ahX;rw[show(cL s.cl).length=s.cl.length from al ..]
 exact key s.cl 0 rfl
def ah3(x:Sn)(h:w5 x):ak 166 [ZY x] [] [vB (CP x)] []:=by
 obtain⟨j,e⟩:=h;have key:∀(t:List Sp)(i:Nat),x.steps.drop i=t->FG (x.steps.map Sp.row) x.steps.length i x.lo x.hi (x.steps.map Sp.row) x.act.kind x.act.data [vB (bif t.all CO then(cg x.act).2 else false)] []:=by
  intro t;induction t with
  |nil=>intro i a;apply SI;exact aQ (l:=x.steps) rfl a ⟨_,ab3 x.act,fi⟩
  |cons s t f=>
   intro i a;obtain⟨c,d,g⟩:=bM a;apply SI;refine aL (l:=x.steps) rfl a ⟨cL s.cl,s.act.kind,s.act.data,by omega,aP c,_,ah2 s (e s (aK c)),ad (fun b=>aZ ?_) fun b=>⟨au,?_⟩⟩
   .rw[bJ,show CO s=false by simpa using b];rfl
   .rw[bJ,show CO s=true by simpa using b]
    exact f (i+1) d
 apply ahV;rw[al];exact key x.steps 0 rfl
def ah4(l:List Sn)(o:l.length<=2^40)(j:∀x∈l,w5 x)(g:∀x∈l,0<=x.lo/\x.lo<4294967296/\0<=x.hi/\x.hi<4294967296):ak 111 [vL 5 (l.map Sn.row)] [] [vB (gp l 0)] []:=by
 have key:∀(t:List Sn)(i:Nat)(n:Int),l.drop i=t->FF n (l.map Sn.row) l.length i [vB (gp t n)] []:=by
  intro t;induction t with
  |nil=>intro i n b;apply SH;exact aQ (l:=l) rfl b fi
  |cons x t k=>
   intro i n b;obtain⟨d,f,m⟩:=bM b;have e:=aK d;obtain⟨p,q,s,u⟩:=g x e;apply SH;refine aL (l:=l) rfl b ⟨x.lo,x.hi,x.steps.map Sp.row,x.act.kind,x.act.data,by omega,aP d,?_⟩
   simp only;rw[om (n:=x.lo) (by omega) (by omega),om (n:=x.hi) (by omega) (by omega)]
   exact ad (fun a=>aZ (by rw[gp,a];rfl)) fun a=>⟨_,ah3 x (j x e),ad (fun c=>aZ (by rw[gp,a,c];rfl)) fun c=>⟨au,au,by rw[gp,a,c];exact k (i+1) _ f⟩⟩
 apply ahP;rw[al];exact key l 0 0 rfl
structure Sy where
 label:Int
 t:Int
 f:Int
 code:Int
 k:Int
def Sy.row(s:Sy):List PV:=[N s.label,N s.t,N s.f,N s.code,W s.k]
structure Wr where
 l:List Sy
 aC:Int
 label:Int
abbrev wb(w:Wr):Bx:=.aH [O 5 (w.l.map Sy.row),vN w.aC,vN w.label]
def fy(w:Wr)(t f code k:Int):Wr:={w with l:=w.l++[⟨w.label,t,f,code,k⟩],label:=0}
def dK(w:Wr):Wr:={w with aC:=w.aC+1}
def cJ(w:Wr)(ct:Int):Wr:={(bif w.label !=0 then fy w 0 0 135 0 else w)with label:=ct}
def nT(w:Wr)(a:Act):Wr:=fy w 0 0 6 (cg a).1
def AB(h:Hf):Int:=bif h.high then 16+8*h.arg+4 else 16+8*h.arg
def jw(w:Wr)(h:Hf):Wr:=bif h.mask !=4294967295 then fy (fy w 0 0 32 (wrap .u32 (AB h))) 0 0 84 h.mask else fy w 0 0 32 (wrap .u32 (AB h))
def iO(op:Int):Int:=bif op==1 then 21 else bif op==2 then 21 else bif op==5 then 37 else bif op==4 then 37 else 53
def qI(op:Int):Bool:=bif(bif(op==2)then true else(op==4))then true else(op==3)
def testW(w:Wr)(h:Hf)(yes no:Int):Wr:=bif qI h.op then fy (jw w h) no yes (iO h.op) h.value else fy (jw w h) yes no (iO h.op) h.value
def tX(n yes no next:Int):List Hf->Int->Wr->Wr
 |[],_,w=>w
 |h::t,i,w=>tX n yes no next t (i+1) (bif decide (i<n-1)then testW w h 0 no else bif no==next then testW w h yes 0 else testW w h yes no)
def dG(w:Wr)(l:List Hf)(yes no next:Int):Wr:=
 tX l.length yes no next l 0 (bif(bif(l.length:Int)==0 then yes !=0 else false)then fy w yes 0 5 0 else w)
def AD(s:Sp)(b a:Int)(w:Wr):Wr:=bif decide ((s.cl.length:Int)>0)then cJ (nT (cJ w b) s.act) a else cJ w a
def w6(s:Sp)(b a:Int):List (List Hf)->Int->Wr->Wr
 |[],_,w=>AD s b a w
 |x::t,i,w=>bif i==(s.cl.length:Int)-1 then AD s b a (dG (dK w) x 0 a 0)else
  w6 s b a t (i+1) (cJ (dG (dK w) x b (w.aC+1) (w.aC+1)) (w.aC+1))
def CQ(w:Wr)(s:Sp):Wr:=w6 s (w.aC+1) (w.aC+1+1) s.cl 0 (dK (dK w))
def r7(a:Act):List Sp->Wr->Wr
 |[],w=>nT w a
 |s::t,w=>r7 a t (CQ w s)
def WK(w:Wr)(x:Sn):Wr:=r7 x.act x.steps w
def fE:Nat->List Sn->Wr->Wr
 |0,_,w=>w
 |n+1,l,w=>bif(l.length:Int)==1 then WK w (l.getD 0 hH)else
  fE n (l.drop (l.length/2)) (cJ (fE n (l.take (l.length/2)) (fy (dK w) (w.aC+1) 0 53 (l.getD (l.length/2) hH).lo)) (w.aC+1))
def fH(ao:Int)(l:List Sn):List Sy×Int:=bif !gp l 0 then([],1)else
 ((fE l.length l (fy (cJ (nT (fy (fy (dK ⟨[],0,0⟩) 0 0 32 4) 1 0 21 ao) ⟨1,0⟩) 1) 0 0 32 0)).l,0)
structure WB (w:Wr) (n:Nat):Prop where
 l:w.l.length<=n
 lo:0<=w.aC
 hi:w.aC<=n
variable {w:Wr} {n:Nat}
def WB.mono(h:WB w n)(a:n<=m):WB w m:=⟨by have:=h.l;omega,h.lo,by have:=h.hi;omega⟩
def jQ(h:WB w n)(t f c k:Int):WB (fy w t f c k) (n+1):=⟨by have:=h.l;simp[fy];omega,h.lo,by have:=h.hi;simp only[fy];omega⟩
def jR(h:WB w n):WB (dK w) (n+1):=⟨by have:=h.l;simp only[dK];omega,by have:=h.lo;simp only[dK];omega,by have:=h.hi;simp only[dK];omega⟩
def lJ(h:WB w n)(ct:Int):WB (cJ w ct) (n+1):=by
 unfold cJ;cases w.label !=0
 .exact⟨(h.mono (jn n)).l,h.lo,(h.mono (jn n)).hi⟩
 .exact⟨(jQ h 0 0 135 0).l,h.lo,(h.mono (jn n)).hi⟩
def FN(h:WB w n)(a:Act):WB (nT w a) (n+1):=jQ h _ _ _ _
def yJ(h:WB w n)(x:Hf):WB (jw w x) (n+2):=by
 unfold jw;cases x.mask !=4294967295
 .exact(jQ h _ _ _ _).mono (by omega)
 .exact jQ (jQ h _ _ _ _) _ _ _ _
def sZ(h:WB w n)(x:Hf)(y z:Int):WB (testW w x y z) (n+3):=by
 unfold testW;cases qI x.op
 .exact jQ (yJ h x) _ _ _ _
 .exact jQ (yJ h x) _ _ _ _
def SO(m yes no next:Int):∀(t:List Hf)(i:Int)(w:Wr)(n:Nat),WB w n->WB (tX m yes no next t i w) (n+3*t.length)
 |[],i,w,n,h=>h
 |x::t,i,w,n,h=>by
  unfold tX;have e:n+3*(x::t).length=n+3+3*t.length:=by simp;omega
  rw[e];refine SO m yes no next t _ _ _ ?_;cases decide (i<m-1)
  .cases no==next
   .exact sZ h _ _ _
   .exact sZ h _ _ _
  .exact sZ h _ _ _
def s0(h:WB w n)(l:List Hf)(yes no next:Int):WB (dG w l yes no next) (n+(3*l.length+1)):=by
 unfold dG;rw[show n+(3*l.length+1)=n+1+3*l.length by omega]
 refine SO _ _ _ _ _ _ _ _ ?_;cases(bif(l.length:Int)==0 then yes !=0 else false)
 .exact h.mono (jn n)
 .exact jQ h _ _ _ _
def SP(h:WB w n)(s:Sp)(a e:Int):WB (AD s a e w) (n+3):=by
 unfold AD;cases decide ((s.cl.length:Int)>0)
 .exact(lJ h _).mono (by omega)
 .exact lJ (FN (lJ h _) _) _
def nz:List (List Hf)->Nat
 |[]=>0
 |x::t=>3*x.length+3+nz t
def SQ(s:Sp)(a e:Int):∀(t:List (List Hf))(i:Int)(w:Wr)(n:Nat),WB w n->WB (w6 s a e t i w) (n+nz t+3)
 |[],i,w,n,h=>SP h s a e
 |x::t,i,w,n,h=>by
  unfold w6;have b:=s0 (jR h) x 0 e 0;have c:=s0 (jR h) x a (w.aC+1) (w.aC+1);cases i==(s.cl.length:Int)-1
  .exact(SQ s a e t _ _ _ (lJ c _)).mono (by simp only[nz];omega)
  .exact(SP b s a e).mono (by simp only[nz];omega)
def MA(h:WB w n)(s:Sp):WB (CQ w s) (n+(nz s.cl+5)):=(SQ s _ _ s.cl 0 _ _ (jR (jR h))).mono (by omega)
def gJ:List Sp->Nat
 |[]=>1
 |s::t=>nz s.cl+5+gJ t
def H9(a:Act):∀(t:List Sp)(w:Wr)(n:Nat),WB w n->WB (r7 a t w) (n+gJ t)
 |[],w,n,h=>FN h a
 |s::t,w,n,h=>by
  unfold r7;exact(H9 a t _ _ (MA h s)).mono (by simp only[gJ];omega)
def iy:List Sn->Nat
 |[]=>0
 |x::t=>gJ x.steps+3+iy t
def mQ:∀(a b:List Sn),iy (a++b)=iy a+iy b
 |[],b=>by simp[iy]
 |x::a,b=>by simp only[dt,iy];rw[mQ a b];omega
def s4:∀(m:Nat)(l:List Sn)(w:Wr)(n:Nat),l.length<=m->1<=l.length->WB w n->WB (fE m l w) (n+iy l+3*(l.length-1))
 |0,l,w,n,h,c,_=>by omega
 |m+1,l,w,n,g,c,h=>by
  unfold fE;cases hd:(l.length:Int)==1
  .have i:=gV hd
   have d:(l.drop (l.length/2)).length=l.length-l.length/2:=gY ..;have f:(l.take (l.length/2)).length=l.length/2:=by simp;omega
   have e:=mQ (l.take (l.length/2)) (l.drop (l.length/2));rw[uF]at e;have a:=s4 m (l.take (l.length/2)) _ _ (by omega) (by omega) (jQ (jR h) (w.aC+1) 0 53 (l.getD (l.length/2) hH).lo)
   have b:=s4 m (l.drop (l.length/2)) _ _ (by omega) (by omega) (lJ a (w.aC+1))
   exact b.mono (by omega)
  .match l,bZ hd with
   |[x],_=>exact(H9 x.act x.steps w n h).mono (by simp only[iy,aD,cS];omega)
end
def SR(w:Wr)(n:Nat)(h:WB w n)(a:n<=2^40):ak 112 [.az 0 0] [wb w] [vN (w.aC+1)] [wb (dK w)]:=by
 have:=h.lo;have:=h.hi;apply ahQ;exact⟨au,fi⟩
def AE(w:Wr)(n:Nat)(h:WB w n)(a:n<=2^40)(z t f c k:Int):ak 113 [.az 0 0,.agg [N z,N t,N f,N c,W k]] [wb w] [] [wb (fy w t f c k)]:=by
 have:=h.l;apply ahR;exact⟨by simp;omega,bE rfl (by simp[fy,Sy.row])⟩
def OM(w:Wr)(n:Nat)(h:WB w n)(a:n<=2^40)(ct:Int):ak 115 [.az 0 0,vN ct] [wb w] [] [wb (cJ w ct)]:=by
 apply ahT;exact ad (fun e=>⟨_,_,AE w n h a 0 0 0 135 0,bE rfl (by rw[cJ,e];rfl)⟩) fun e=>bE rfl (by rw[cJ,e];rfl)
def Zg(w:Wr)(n:Nat)(h:WB w n)(b:n<=2^40)(a:Act):ak 114 [.az 0 0,zX a] [wb w] [] [wb (nT w a)]:=by
 apply ahS;exact⟨_,_,U1 a,_,_,AE w n h b 0 0 0 6 _,fi⟩
def ah5(w:Wr)(n:Nat)(c:WB w n)(l:n+3<=2^40)(h:Hf)(yes no:Int)(k:0<=h.arg/\h.arg<=5):ak 350 [.az 0 0,U8 h,vN yes,vN no] [wb w] [] [wb (testW w h yes no)]:=by
 have a:qq ((jw w h).l.map Sy.row) (jw w h).aC (jw w h).label h.arg h.op h.high h.mask h.value 0 yes no (iO h.op) h.value [] [wb (testW w h yes no)]:=by
  apply Vg;exact ad (fun e=>⟨_,_,AE (jw w h) _ (yJ c h) (by omega) 0 no yes (iO h.op) h.value,bE rfl (by rw[testW,show qI h.op=true from e];rfl)⟩)
   fun e=>⟨_,_,AE (jw w h) _ (yJ c h) (by omega) 0 yes no (iO h.op) h.value,bE rfl (by rw[testW,show qI h.op=false from e];rfl)⟩
 have f:FM yes no ((jw w h).l.map Sy.row) (jw w h).aC (jw w h).label h.arg h.op h.high h.mask h.value [] [wb (testW w h yes no)]:=by
  apply Zf;refine ad (fun e=>?_) fun b=>ad (fun e=>?_) fun g=>ad (fun e=>?_) fun i=>ad (fun e=>?_) fun e=>?_
  .rw[show iO h.op=21 by rw[iO,e];rfl]at a;exact a
  .rw[show iO h.op=21 by rw[iO,b,e];rfl]at a;exact a
  .rw[show iO h.op=37 by rw[iO,b,g,e];rfl]at a;exact a
  .rw[show iO h.op=37 by rw[iO,b,g,i,e];rfl]at a;exact a
  .rw[show iO h.op=53 by rw[iO,b,g,i,e];rfl]at a;exact a
 have d:FL yes no (AB h) (w.l.map Sy.row) w.aC w.label h.arg h.op h.high h.mask h.value [] [wb (testW w h yes no)]:=by
  apply Ze;have j:=jQ c 0 0 32 (wrap .u32 (AB h));refine⟨_,_,AE w n c (by omega) 0 0 0 32 _,ad (fun e=>⟨_,_,AE _ _ j (by omega) 0 0 0 84 h.mask,?_⟩) fun e=>?_⟩
  .rw[show jw w h=fy (fy w 0 0 32 (wrap .u32 (AB h))) 0 0 84 h.mask by rw[jw,e];rfl]at f;exact f
  .rw[show jw w h=fy w 0 0 32 (wrap .u32 (AB h)) by rw[jw,e];rfl]at f;exact f
 apply ah1;refine⟨au,au,ad (fun e=>⟨au,?_⟩) fun e=>?_⟩
 .rw[show AB h=16+8*h.arg+4 by rw[AB,e];rfl]at d;exact d
 .rw[show AB h=16+8*h.arg by rw[AB,e];rfl]at d;exact d
def s5(w:Wr)(h:Hf)(a b:Int):(testW w h a b).aC=w.aC:=by
 unfold testW jw;cases qI h.op<;>cases h.mask !=4294967295<;>rfl
abbrev wbL(w:Wr)(n:Int):Bx:=.aH [O 5 (w.l.map Sy.row),vN n,vN w.label]
def WL(h:w.aC=n):wb w=wbL w n:=by rw[<-h]
def SS(w:Wr)(n:Nat)(b:WB w n)(c:n+3<=2^40)(h:Hf)(yes no:Int)(a:0<=h.arg/\h.arg<=5):ak 350 [.az 0 0,U8 h,vN yes,vN no] [wb w] [] [wbL (testW w h yes no) w.aC]:=by
 rw[<-WL (s5 w h yes no)];exact ah5 w n b c h yes no a
def Vh{h:Hf}(d:vx h.arg h.op=true):0<=h.arg/\h.arg<=5:=by
 obtain⟨a,-⟩:=cn (b:=(bif(bif(decide (h.arg>=0))then(decide (h.arg<=5))else false)then(decide (h.op>=1))else false)) d;obtain⟨a,-⟩:=cn a;obtain⟨a,c⟩:=cn a;exact⟨aU a,aU c⟩
def ab4(w:Wr)(n:Nat)(j:WB w n)(l:List Hf)(yes no next:Int)(o:n+(3*l.length+1)<=2^40)(p:vE l=true):
  ak 308 [.az 0 0,vL 5 (l.map Hf.row),vN yes,vN no,vN next] [wb w] [] [wb (dG w l yes no next)]:=by
 have hlen:(l.map Hf.row).length=l.length:=al ..;have key:∀(t:List Hf)(i:Nat)(w:Wr)(n:Nat),l.drop i=t->WB w n->n+3*t.length<=2^40->tW (l.map Hf.row) yes no next (l.map Hf.row) l.length i (w.l.map Sy.row) w.aC w.label [] [wb (tX l.length yes no next t i w)]:=by
  intro t;induction t with
  |nil=>intro i w n d _ _;apply SN;exact aQ (l:=l) rfl d fi
  |cons x t k=>
   intro i w n d b o;obtain⟨m,e,q⟩:=bM d;have g:=Vh (bf.1 p x (aK m));simp only[aD]at o;apply SN;refine aL (l:=l) rfl d ⟨x.arg,x.op,x.high,x.mask,x.value,by omega,aP m,?_⟩
   rw[hlen];refine⟨au,ad (fun c=>⟨_,_,SS w n b (by omega) x 0 no g,au,?_⟩) fun c=>ad (fun f=>⟨_,_,SS w n b (by omega) x yes 0 g,au,?_⟩) fun f=>⟨_,_,SS w n b (by omega) x yes no g,au,?_⟩⟩
   .have a:=k (i+1) _ _ e (sZ b x 0 no) (by omega);rw[s5]at a;rw[tX,c];exact a
   .have a:=k (i+1) _ _ e (sZ b x yes 0) (by omega);rw[s5]at a;rw[tX,c,f];exact a
   .have a:=k (i+1) _ _ e (sZ b x yes no) (by omega);rw[s5]at a;rw[tX,c,f];exact a
 apply ah0;rw[hlen];refine ad (fun h=>⟨_,_,AE w n j (by omega) 0 yes 0 5 0,?_⟩) fun h=>?_
 .rw[dG,h];exact key l 0 _ _ rfl (jQ j yes 0 5 0) (by omega)
 .rw[dG,h];exact key l 0 _ _ rfl j (by omega)
def ah6(w:Wr)(n:Nat)(y:WB w n)(s:Sp)(k:n+(nz s.cl+5)<=2^40)(R:s.cl.all vE=true):ak 236 [.az 0 0,ZX s] [wb w] [] [wb (CQ w s)]:=by
 have hlen:(cL s.cl).length=s.cl.length:=al ..;have a0:∀l:List (List Hf),l.length<=nz l:=by
  intro l;induction l with
  |nil=>simp
  |cons x l q=>simp only[nz,aD];omega
 have a1:=a0 s.cl;have fin:∀(a e:Int)(w:Wr)(n:Nat),WB w n->n+3<=2^40->aI (decide (((cL s.cl).length:Int)>0)) (∃M T,ak 115 [.az 0 0,vN a] [.aH [O 5 (w.l.map Sy.row),vN w.aC,vN w.label]] [] [.aH [O 5 M,vN w.aC,vN T]]/\∃K Q,ak 114 [.az 0 0,.agg [N s.act.kind,N s.act.data]] [.aH [O 5 M,vN w.aC,vN T]] [] [.aH [O 5 K,vN w.aC,vN Q]]/\∃X Y,ak 115 [.az 0 0,vN e] [.aH [O 5 K,vN w.aC,vN Q]] [] [.aH [O 5 X,vN w.aC,vN Y]]/\Fi [] [wb (AD s a e w)] [] [.aH [O 5 X,vN w.aC,vN Y]])
   (∃Z F,ak 115 [.az 0 0,vN e] [.aH [O 5 (w.l.map Sy.row),vN w.aC,vN w.label]] [] [.aH [O 5 Z,vN w.aC,vN F]]/\Fi [] [wb (AD s a e w)] [] [.aH [O 5 Z,vN w.aC,vN F]]):=by
  intro a e w n d k;rw[hlen];have ct:∀(w:Wr)(x:Int),(cJ w x).aC=w.aC:=by intro w x;unfold cJ;cases w.label !=0<;>rfl
  refine ad (fun h=>?_) fun h=>?_
  .have g:=OM w n d (by omega) a
   have j:=Zg (cJ w a) _ (lJ d a) (by omega) s.act
   have u:=OM (nT (cJ w a) s.act) _ (FN (lJ d a) s.act) (by omega) e
   have o:(nT (cJ w a) s.act).aC=w.aC:=ct w a;have I:(cJ (nT (cJ w a) s.act) e).aC=w.aC:=(ct _ _).trans o;rw[show wb (cJ w a)=.aH [O 5 ((cJ w a).l.map Sy.row),vN w.aC,vN (cJ w a).label] by rw[<-ct w a]]at g j
   rw[show wb (nT (cJ w a) s.act)=.aH [O 5 ((nT (cJ w a) s.act).l.map Sy.row),vN w.aC,vN (nT (cJ w a) s.act).label] by rw[<-o]]at j u
   rw[show wb (cJ (nT (cJ w a) s.act) e)=.aH [O 5 ((cJ (nT (cJ w a) s.act) e).l.map Sy.row),vN w.aC,vN (cJ (nT (cJ w a) s.act) e).label] by rw[<-I]]at u
   exact⟨_,_,g,_,_,j,_,_,u,bE rfl (by rw[AD,h];simp only[ai,wb];rw[I])⟩
  .have g:=OM w n d (by omega) e
   rw[show wb (cJ w e)=.aH [O 5 ((cJ w e).l.map Sy.row),vN w.aC,vN (cJ w e).label] by rw[<-ct w e]]at g
   exact⟨_,_,g,bE rfl (by rw[AD,h];simp only[af,wb];rw[ct])⟩
 have z:∀(w:Wr)(l:List Hf)(a b c:Int),(dG w l a b c).aC=w.aC:=by
  intro w l a b c;have J:∀(w:Wr)(h:Hf)(a b:Int),(testW w h a b).aC=w.aC:=by
   intro w h a b;unfold testW jw;cases qI h.op<;>cases h.mask !=4294967295<;>rfl
  have t2:∀(t:List Hf)(m i:Int)(w:Wr),(tX m a b c t i w).aC=w.aC:=by
   intro t;induction t with
   |nil=>intro m i w;rfl
   |cons x t q=>
    intro m i w;rw[tX,q];cases decide (i<m-1)
    .cases b==c<;>exact J _ _ _ _
    .exact J _ _ _ _
  rw[dG,t2];cases(bif(l.length:Int)==0 then a !=0 else false)<;>rfl
 have ct:∀(w:Wr)(x:Int),(cJ w x).aC=w.aC:=by intro w x;unfold cJ;cases w.label !=0<;>rfl
 have key:∀(a e:Int)(t:List (List Hf))(i:Nat)(w:Wr)(n:Nat),s.cl.drop i=t->WB w n->n+nz t+3<=2^40->FK a e (cL s.cl) s.cl.length i (w.l.map Sy.row) w.aC w.label (cL s.cl) s.act.kind s.act.data [] [wb (w6 s a e t i w)]:=by
  intro a e t;induction t with
  |nil=>intro i w n p d k;apply SM;exact aQ (l:=s.cl) rfl p (fin a e w n d (by simp only[nz]at k;omega))
  |cons x t q=>
   intro i w n p d k;obtain⟨D,A,h3⟩:=bM p;have E:=bf.1 R x (aK D);simp only[nz]at k;apply SM;refine aL (l:=s.cl) rfl p ⟨x.map Hf.row,by omega,aP D,_,_,SR w n d (by omega),?_⟩
   rw[hlen];refine⟨au,ad (fun v=>?_) fun v=>?_⟩
   .have g:=ab4 (dK w) _ (jR d) x 0 e 0 (by omega) E
    have f:=fin a e (dG (dK w) x 0 e 0) _ (s0 (jR d) x 0 e 0) (by omega)
    rw[z,hlen]at f;rw[show wb (dG (dK w) x 0 e 0)=.aH [O 5 ((dG (dK w) x 0 e 0).l.map Sy.row),vN (dK w).aC,vN (dG (dK w) x 0 e 0).label] by rw[<-z (dK w) x 0 e 0]]at g
    rw[w6,v];exact⟨_,_,g,f⟩
   .have g:=ab4 (dK w) _ (jR d) x a (w.aC+1) (w.aC+1) (by omega) E
    have r:=s0 (jR d) x a (w.aC+1) (w.aC+1);have j:=OM (dG (dK w) x a (w.aC+1) (w.aC+1)) _ r (by omega) (w.aC+1)
    have G:=q (i+1) _ _ A (lJ r (w.aC+1)) (by omega)
    have H:=z (dK w) x a (w.aC+1) (w.aC+1);have o:=(ct (dG (dK w) x a (w.aC+1) (w.aC+1)) (w.aC+1)).trans H;rw[show wb (dG (dK w) x a (w.aC+1) (w.aC+1))=.aH [O 5 ((dG (dK w) x a (w.aC+1) (w.aC+1)).l.map Sy.row),vN (dK w).aC,vN (dG (dK w) x a (w.aC+1) (w.aC+1)).label] by rw[<-H]]at g j
    rw[show wb (cJ (dG (dK w) x a (w.aC+1) (w.aC+1)) (w.aC+1))=.aH [O 5 ((cJ (dG (dK w) x a (w.aC+1) (w.aC+1)) (w.aC+1)).l.map Sy.row),vN (dK w).aC,vN (cJ (dG (dK w) x a (w.aC+1) (w.aC+1)) (w.aC+1)).label] by rw[<-o]]at j
    rw[o]at G;rw[w6,v];exact⟨_,_,g,_,_,j,au,G⟩
 apply ahZ;rw[hlen];exact⟨_,_,SR w n y (by omega),_,_,SR (dK w) _ (jR y) (by omega),key _ _ s.cl 0 _ _ rfl (jR (jR y)) (by omega)⟩
def ah7(w:Wr)(n:Nat)(g:WB w n)(x:Sn)(b:n+gJ x.steps<=2^40)(j:∀s∈x.steps,s.cl.all vE=true):ak 167 [.az 0 0,ZY x] [wb w] [] [wb (WK w x)]:=by
 have k:∀l:List Sp,l.length<=gJ l:=by
  intro l;induction l with
  |nil=>simp
  |cons x l e=>simp only[gJ,aD];omega
 have o:=k x.steps;have key:∀(t:List Sp)(i:Nat)(w:Wr)(n:Nat),x.steps.drop i=t->WB w n->n+gJ t<=2^40->FH (x.steps.map Sp.row) x.steps.length i (w.l.map Sy.row) w.aC w.label x.lo x.hi (x.steps.map Sp.row) x.act.kind x.act.data [] [wb (r7 x.act t w)]:=by
  intro t;induction t with
  |nil=>intro i w n a c b;apply SJ;exact aQ (l:=x.steps) rfl a ⟨_,_,Zg w n c (by omega) x.act,fi⟩
  |cons s t e=>
   intro i w n a c b;obtain⟨d,f,m⟩:=bM a;simp only[gJ]at b;apply SJ;refine aL (l:=x.steps) rfl a ⟨cL s.cl,s.act.kind,s.act.data,by omega,aP d,_,_,_,ah6 w n c s (by omega) (j s (aK d)),au,?_⟩
   exact e (i+1) _ _ f (MA c s) (by omega)
 apply ahW;rw[al];exact key x.steps 0 w n rfl g b
def Zh:∀(m:Nat)(l:List Sn)(w:Wr)(n:Nat),l.length<=m->1<=l.length->WB w n->n+iy l+3*l.length<=2^40->(∀x∈l,∀s∈x.steps,s.cl.all vE=true)->ak 116 [.az 0 0,vL 5 (l.map Sn.row)] [wb w] [] [wb (fE m l w)]
 |0,l,w,n,h,q,_,_,_=>by omega
 |m+1,l,w,n,E,q,a,t,d=>by
  have hlen:(l.map Sn.row).length=l.length:=al ..;have z:wrap .i64 (tdiv (l.length:Int) 2)=((l.length/2:Nat):Int):=by
   rw[show tdiv (l.length:Int) 2=((l.length/2:Nat):Int) by rw[yv (by omega)];omega]
   exact om (by omega) (by omega)
  apply ahU;rw[hlen];refine ad (fun h=>?_) fun h=>?_
  .match l,bZ h with
   |[x],_=>
    simp only[iy,aD,cS]at t;refine⟨x.lo,x.hi,x.steps.map Sp.row,x.act.kind,x.act.data,by omega,rfl,_,_,_,ah7 w n a x (by omega) (d x aW),bE rfl (by rw[fE,h];rfl)⟩
  .have G:=gV h
   have r:(l.drop (l.length/2)).length=l.length-l.length/2:=gY ..;have D:(l.take (l.length/2)).length=l.length/2:=by simp;omega
   have e:=mQ (l.take (l.length/2)) (l.drop (l.length/2));rw[uF]at e;have y:l.length/2<l.length:=by omega
   have k:=bo y;have o:l.getD (l.length/2) hH=l[l.length/2]:=by rw[bR,k];rfl
   have pb:=jQ (jR a) (w.aC+1) 0 53 (l.getD (l.length/2) hH).lo;have j:=Zh m (l.take (l.length/2)) _ _ (by omega) (by omega) pb (by omega) fun x f=>d x (sC f)
   have g:=s4 m (l.take (l.length/2)) _ _ (by omega) (by omega) pb
   have b:=OM _ _ g (by omega) (w.aC+1)
   have p:=lJ g (w.aC+1);have c:=Zh m (l.drop (l.length/2)) _ _ (by omega) (by omega) p (by omega) fun x f=>d x (uE f)
   have ct:∀(w:Wr)(x:Int),(cJ w x).aC=w.aC:=by intro w x;unfold cJ;cases w.label !=0<;>rfl
   have u:=ct (fE m (l.take (l.length/2)) (fy (dK w) (w.aC+1) 0 53 (l.getD (l.length/2) hH).lo)) (w.aC+1);rw[show wb (cJ (fE m (l.take (l.length/2)) (fy (dK w) (w.aC+1) 0 53 (l.getD (l.length/2) hH).lo)) (w.aC+1))=.aH [O 5 ((cJ (fE m (l.take (l.length/2)) (fy (dK w) (w.aC+1) 0 53 (l.getD (l.length/2) hH).lo)) (w.aC+1)).l.map Sy.row),vN (fE m (l.take (l.length/2)) (fy (dK w) (w.aC+1) 0 53 (l.getD (l.length/2) hH).lo)).aC,vN (cJ (fE m (l.take (l.length/2)) (fy (dK w) (w.aC+1) 0 53 (l.getD (l.length/2) hH).lo)) (w.aC+1)).label] by rw[<-u]]at b c
   rw[z];have v:drop 0 (take (toNat ((l.length/2:Nat):Int)) (l.map Sn.row))=(l.take (l.length/2)).map Sn.row:=by rw[fK,toNat_cast,iD]
   have t2:drop (toNat ((l.length/2:Nat):Int)) (take l.length (l.map Sn.row))=(l.drop (l.length/2)).map Sn.row:=by rw[toNat_cast,dE (by omega),mV]
   rw[v,t2];have i:=AE (dK w) _ (jR a) (by omega) 0 (w.aC+1) 0 53 (l.getD (l.length/2) hH).lo
   rw[o]at i j b c;refine⟨by omega,_,_,SR w n a (by omega),l[l.length/2].lo,l[l.length/2].hi,l[l.length/2].steps.map Sp.row,l[l.length/2].act.kind,l[l.length/2].act.data,by omega,by rw[toNat_cast,bu,k];rfl,_,_,i,⟨by omega,by omega,by omega⟩,_,_,_,j,_,_,b,⟨by omega,by omega,by omega⟩,_,_,_,c,bE rfl ?_⟩
   rw[fE,h,o];rfl
def AF:∀(l:List Sn)(n:Int),gp l n=true->∀x∈l,CP x=true
 |[],_,_,x,a=>by simp at a
 |y::t,n,h,x,a=>by
  unfold gp at h;cases h1:(bif y.lo !=n then true else decide (y.hi<y.lo))<;>rw[h1]at h
  .cases h2:CP y<;>rw[h2]at h
   .simp at h
   .rcases aY.1 a with rfl|a
    .exact h2
    .exact AF t _ h x a
  .simp at h
def SU(h:CP x=true):∀s∈x.steps,s.cl.all vE=true:=fun s a=>(cn (b:=s.cl.all vE) (bf.1 (cn (b:=x.steps.all CO) h).1 s a)).1
def C82(ao:Int)(l:List Sn)(m:l.length<=2^40)(a:∀x∈l,w5 x)(n:∀x∈l,0<=x.lo/\x.lo<4294967296/\0<=x.hi/\x.hi<4294967296)(p:iy l+3*l.length+20<=2^40):
  ak 82 [vW ao,vL 5 (l.map Sn.row)] [] [vL 5 ((fH ao l).1.map Sy.row),vN (fH ao l).2] []:=by
 apply W82;refine⟨_,ah4 l m a n,ad (fun h=>aZ (by rw[fH,h];rfl)) fun h=>?_⟩
 have j:gp l 0=true:=by simpa using h
 have o:1<=l.length:=by
  cases l with
  |nil=>simp[gp]at j
  |cons=>simp
 have b:WB (⟨[],0,0⟩:Wr) 0:=⟨by simp,by simp,by simp⟩
 have c:=jR b;have d:=jQ c 0 0 32 4;have e:=jQ d 1 0 21 ao;have f:=FN e ⟨1,0⟩;have g:=lJ f 1;have k:=jQ g 0 0 32 0;have i:=OM (nT (fy (fy (dK ⟨[],0,0⟩) 0 0 32 4) 1 0 21 ao) ⟨1,0⟩) _ f (by omega) 1
 rw[WL (show(cJ (nT (fy (fy (dK ⟨[],0,0⟩) 0 0 32 4) 1 0 21 ao) ⟨1,0⟩) 1).aC=(dK ⟨[],0,0⟩).aC from rfl)]at i
 exact⟨_,_,SR ⟨[],0,0⟩ 0 b (by omega),_,_,AE _ _ c (by omega) 0 0 0 32 4,_,_,AE _ _ d (by omega) 0 1 0 21 ao,_,_,Zg _ _ e (by omega) ⟨1,0⟩,_,_,i,_,_,AE _ _ g (by omega) 0 0 0 32 0,
  _,_,_,Zh l.length l _ _ (ar _) o k (by omega) (fun x a=>SU (AF l 0 j x a)),aZ (by rw[fH,h];rfl)⟩
def MB(a b:Rw)(c:List (PV×AV))(d e:Rw):St:=⟨aO 40 [(0,vL 5 a),(4,.az 0 0)],[],[.aH [vL 5 b,.mp 1,.bA 2,.bA 3],.map 239 c,.bn 1 d,.bn 2 e]⟩
def MC(a:Rw)(b c:Int)(d:Rw)(e:List (PV×AV))(f g:Rw):St:=⟨aO 40 [(4,.az 0 0),(5,.own 0 0 4 a),(26,vN b),(27,vN c)],[some 0],[.aH [vL 5 d,.mp 1,.bA 2,.bA 3],.map 239 e,.bn 1 f,.bn 2 g]⟩
def A84:df:={mod:=[(2,1,[(1,[])]),(6,1,[(2,[]),(3,[])])],cut:=[(6,{bl:=[0,4]}),(9,{bl:=[4,5,26,27],cN:=[(5,4)],owns:=[5]})]}
def W84(H:(a.length:Int)=(a.length:Int)/\0<=(a.length:Int)/\(a.length:Int)*(8:Nat)<=2^47/\(a.length:Int)=(a.length:Int)/\0<=(a.length:Int)/\(a.length:Int)*(2:Nat)<=2^47/\∃b c,ak 119 [.az 0 0] [.aH [vL 5 a,.mp 1,.bA 2,.bA 3],.map 239 [],.bn 1 (replicate (toNat (a.length:Int)) [N 0]:Rw),.bn 2 (replicate (toNat (a.length:Int)) [B false,B false]:Rw)] [vB b] [.aH [vL 5 a,.mp 1,.bA 2,.bA 3],.map 239 c,.bn 1 (replicate (toNat (a.length:Int)) [N 0]:Rw),.bn 2 (replicate (toNat (a.length:Int)) [B false,B false]:Rw)]/\aI (!b) (Fi r h [vL 4 [],vN 1] [])
 (bP ((a.length:Int)>4096) (Fi r h [vL 4 [],vN 9] [])
 (Lp f84 0 (MB a a c (replicate (toNat (a.length:Int)) [N 0]:Rw) (replicate (toNat (a.length:Int)) [B false,B false]:Rw)) 0 r h))):
  ak 84 [vL 5 a] [] r h:=.of func84 A84 H
def ab5(b:List (PV×AV))(f g:Rw)(H:∃i d e,ak 120 [.az 0 0] [.aH [vL 5 a,.mp 1,.bA 2,.bA 3],.map 239 b,.bn 1 f,.bn 2 g] [vB i] [.aH [vL 5 a,.mp 1,.bA 2,.bA 3],.map 239 b,.bn 1 d,.bn 2 e]/\aI i (Lp f84 0 (MB c a b d e) 0 r h)
 (Lp f84 1 (MC [] (c.length:Int) 0 a b d e) 0 r h)):
  Lp f84 0 (MB c a b f g) 0 r h:=.of A84 H
def WM(d:List (PV×AV))(e f:Rw)(H:bP (b<g) (∃i,ak 121 [.az 0 0,vN b] [.aH [vL 5 c,.mp 1,.bA 2,.bA 3],.map 239 d,.bn 1 e,.bn 2 f] [vL 4 i] [.aH [vL 5 c,.mp 1,.bA 2,.bA 3],.map 239 d,.bn 1 e,.bn 2 f]/\(a++i).length*32<=2^47/\aq (b+1)/\Lp f84 1 (MC (a++i) g (b+1) c d e f) 0 r h)
 (bP ((a.length:Int)>4096) (Fi r h [vL 4 [],vN 9] [])
 (Fi r h [.own 0 0 4 a,vN 0] []))):
  Lp f84 1 (MC a g b c d e f) 0 r h:=.of A84 H
def tY(a:Rw)(b c:Int)(d:Rw)(e:List (PV×AV))(f g:Rw):St:=⟨aO 64 [(0,.az 0 0),(11,vL 5 a),(12,vN b),(13,vN c)],[],[.aH [vL 5 d,.mp 1,.bA 2,.bA 3],.map 239 e,.bn 1 f,.bn 2 g]⟩
def FO(a b:Int)(c:Rw)(d:List (PV×AV))(e f:Rw):St:=⟨aO 64 [(0,.az 0 0),(49,vN a),(50,vN b)],[],[.aH [vL 5 c,.mp 1,.bA 2,.bA 3],.map 239 d,.bn 1 e,.bn 2 f]⟩
def Zi:df:={an:=[(3,2,ah),(5,4,aa)],cut:=[(11,{bl:=[0,49,50]}),(2,{bl:=[0,11,12,13]})]}
def ah9(b:List (PV×AV))(H:Lp f119 0 (tY a (a.length:Int) 0 a b c d) 4 r h):
  ak 119 [.az 0 0] [.aH [vL 5 a,.mp 1,.bA 2,.bA 3],.map 239 b,.bn 1 c,.bn 2 d] r h:=.of func119 Zi H
def SV(b:List (PV×AV))(d e:Rw)(H:bP (a<i) (pQ g a fun f k l m n=>((cK b (N f)=none/\aI (bif(decide (f<0))then true else false) (Fi r h [vB false] [.aH [vL 5 c,.mp 1,.bA 2,.bA 3],.map 239 b,.bn 1 d,.bn 2 e])
 (bP (f>0) (aq (a+1)/\Lp f119 0 (tY g i (a+1) c (cB b (N f) (vN a)) d e) 4 r h)
 (aq (a+1)/\Lp f119 0 (tY g i (a+1) c b d e) 4 r h)))\/(∃j,cK b (N f)=some (vN j)/\aI (bif(decide (f<0))then true else true) (Fi r h [vB false] [.aH [vL 5 c,.mp 1,.bA 2,.bA 3],.map 239 b,.bn 1 d,.bn 2 e])
 (bP (f>0) (aq (a+1)/\Lp f119 0 (tY g i (a+1) c (cB b (N f) (vN a)) d e) 4 r h)
 (aq (a+1)/\Lp f119 0 (tY g i (a+1) c b d e) 4 r h)))))
 (Lp f119 1 (FO (c.length:Int) 0 c b d e) 4 r h)):
  Lp f119 0 (tY g i a c b d e) 4 r h:=.of Zi H
def SW(c:List (PV×AV))(d e:Rw)(H:bP (b<f) (cb 170 [.az 0 0,vN b] [.aH [vL 5 a,.mp 1,.bA 2,.bA 3],.map 239 c,.bn 1 d,.bn 2 e] fun g=>aI (!g) (Fi r h [vB false] [.aH [vL 5 a,.mp 1,.bA 2,.bA 3],.map 239 c,.bn 1 d,.bn 2 e])
 (aq (b+1)/\Lp f119 1 (FO f (b+1) a c d e) 4 r h))
 (Fi r h [vB (decide ((a.length:Int)>0))] [.aH [vL 5 a,.mp 1,.bA 2,.bA 3],.map 239 c,.bn 1 d,.bn 2 e])):
  Lp f119 1 (FO f b a c d e) 4 r h:=.of Zi H
def AG(a:Bool)(b:Rw)(c d:Int)(e:Rw)(f:List (PV×AV))(g i:Rw):St:=⟨aO 65 [(0,.az 0 0),(3,vB a),(13,vL 5 b),(14,vN c),(15,vN d)],[],[.aH [vL 5 e,.mp 1,.bA 2,.bA 3],.map 239 f,.bn 1 g,.bn 2 i]⟩
def tZ(a:Bool)(b:Int)(c:Rw)(d e f g i:Int)(j:Rw)(k:List (PV×AV))(l m:Rw):St:=⟨aO 65 [(0,.az 0 0),(3,vB a),(4,vN b),(13,vL 5 c),(14,vN d),(15,vN e),(26,.agg [N f,N g]),(27,vN i)],[],[.aH [vL 5 j,.mp 1,.bA 2,.bA 3],.map 239 k,.bn 1 l,.bn 2 m]⟩
def Zj:df:={an:=[(5,2,ah),(6,2,ah),(10,6,aX),(10,17,aX),(11,6,aX)],mod:=[(2,1,[(2,[])])],cut:=[(4,{bl:=[0,3,13,14,15]}),(8,{bl:=[0,3,4,13,14,15,26,27]})]}
def aia(b:List (PV×AV))(d c:Rw)(H:∃e,ak 171 [.az 0 0] [.aH [vL 5 a,.mp 1,.bA 2,.bA 3],.map 239 b,.bn 1 d,.bn 2 c] [] [.aH [vL 5 a,.mp 1,.bA 2,.bA 3],.map 239 b,.bn 1 e,.bn 2 c]/\Lp f120 0 (AG false a (a.length:Int) 0 a b e c) 4 r h):
  ak 120 [.az 0 0] [.aH [vL 5 a,.mp 1,.bA 2,.bA 3],.map 239 b,.bn 1 d,.bn 2 c] r h:=.of func120 Zj H
def SX(c:List (PV×AV))(H:bP (a<i) (pQ g a fun n o p j q=>cb 125 [vN j] [] fun k=>aI (!k) (aq (a+1)/\Lp f120 0 (AG f g i (a+1) b c d e) 4 r h)
 (Ou 172 [.az 0 0,vN a] [.aH [vL 5 b,.mp 1,.bA 2,.bA 3],.map 239 c,.bn 1 d,.bn 2 e] fun l m=>Lp f120 1 (tZ f a g i a l m 0 b c d e) 4 r h))
 (Fi r h [vB f] [.aH [vL 5 b,.mp 1,.bA 2,.bA 3],.map 239 c,.bn 1 d,.bn 2 e])):
  Lp f120 0 (AG f g i a b c d e) 4 r h:=.of Zj H
def SY(l:List (PV×AV))(d c:Rw)(H:bP (a<2) (∃n,(0<=a/\a<2)/\([N i,N j]:List PV)[toNat a]?=some (N n)/\(0<=b/\b<(c.length:Int))/\(0<=a/\a<2)/\∃p,(c[toNat b]?).bind (·[(0+toNat a*1)]?)=some (B p)/\aI (!p) ((0<=b/\b<(d.length:Int))/\∃o,(d[toNat b]?).bind (·[0]?)=some (N o)/\aq (n-o)/\aq ((n-o)-1)/\bP (((n-o)-1)>255) ((0<=b/\b<(c.length:Int))/\(0<=a/\a<2)/\(0+toNat a*1)+1<=2/\aq (a+1)/\Lp f120 1 (tZ true b f g e i j (a+1) k l d (cF c (toNat b) (0+toNat a*1) [B true])) 4 r h)
 (aq (a+1)/\Lp f120 1 (tZ m b f g e i j (a+1) k l d c) 4 r h)) (aq (a+1)/\Lp f120 1 (tZ m b f g e i j (a+1) k l d c) 4 r h))
 (aq (e+1)/\Lp f120 0 (AG m f g (e+1) k l d c) 4 r h)):
  Lp f120 1 (tZ m b f g e i j a k l d c) 4 r h:=.of Zj H
def aib(d:List (PV×AV))(a e:Rw)(H:pQ c b fun E G I o q=>cb 125 [vN o] [] fun s=>aI s (∃p,ak 173 [.az 0 0,vN b] [.aH [vL 5 c,.mp 1,.bA 2,.bA 3],.map 239 d,.bn 1 a,.bn 2 e] [vL 4 p] [.aH [vL 5 c,.mp 1,.bA 2,.bA 3],.map 239 d,.bn 1 a,.bn 2 e]/\Fi r h [vL 4 p] [.aH [vL 5 c,.mp 1,.bA 2,.bA 3],.map 239 d,.bn 1 a,.bn 2 e])
 (aI (o==5) ((Ou 172 [.az 0 0,vN b] [.aH [vL 5 c,.mp 1,.bA 2,.bA 3],.map 239 d,.bn 1 a,.bn 2 e] fun t u=>∃f,(0<=(0:Int)/\(0:Int)<2)/\([N t,N u]:List PV)[toNat 0]?=some (N f)/\(0<=b/\b<(a.length:Int))/\∃g,(a[toNat b]?).bind (·[0]?)=some (N g)/\aq (f-g)/\aq ((f-g)-1)/\Fi r h [vL 4 [[N 5,N 0,N 0,W (wrap .u32 ((f-g)-1))]]] [.aH [vL 5 c,.mp 1,.bA 2,.bA 3],.map 239 d,.bn 1 a,.bn 2 e])/\((Ou 172 [.az 0 0,vN b] [.aH [vL 5 c,.mp 1,.bA 2,.bA 3],.map 239 d,.bn 1 a,.bn 2 e] fun v w=>∃i,(0<=(0:Int)/\(0:Int)<2)/\([N v,N w]:List PV)[toNat 0]?=some (N i)/\(0<=b/\b<(a.length:Int))/\∃j,(a[toNat b]?).bind (·[0]?)=some (N j)/\aq (i-j)/\aq ((i-j)-1)/\Fi r h [vL 4 [[N 5,N 0,N 0,W (wrap .u32 ((i-j)-1))]]] [.aH [vL 5 c,.mp 1,.bA 2,.bA 3],.map 239 d,.bn 1 a,.bn 2 e])/\((0<=b/\b<(a.length:Int))/\(Ou 172 [.az 0 0,vN b] [.aH [vL 5 c,.mp 1,.bA 2,.bA 3],.map 239 d,.bn 1 a,.bn 2 e] fun x y=>∃k,(0<=(0:Int)/\(0:Int)<2)/\([N x,N y]:List PV)[toNat 0]?=some (N k)/\∃l,(a[toNat b]?).bind (·[0]?)=some (N l)/\aq (k-l)/\aq ((k-l)-1)/\Fi r h [vL 4 [[N 5,N 0,N 0,W (wrap .u32 ((k-l)-1))]]] [.aH [vL 5 c,.mp 1,.bA 2,.bA 3],.map 239 d,.bn 1 a,.bn 2 e])/\(∃m,(a[toNat b]?).bind (·[0]?)=some (N m)/\Ou 172 [.az 0 0,vN b] [.aH [vL 5 c,.mp 1,.bA 2,.bA 3],.map 239 d,.bn 1 a,.bn 2 e] fun z D=>∃n,(0<=(0:Int)/\(0:Int)<2)/\([N z,N D]:List PV)[toNat 0]?=some (N n)/\aq (n-m)/\aq ((n-m)-1)/\Fi r h [vL 4 [[N 5,N 0,N 0,W (wrap .u32 ((n-m)-1))]]] [.aH [vL 5 c,.mp 1,.bA 2,.bA 3],.map 239 d,.bn 1 a,.bn 2 e]))))
 (Fi r h [vL 4 [[N o,N 0,N 0,W q]]] [.aH [vL 5 c,.mp 1,.bA 2,.bA 3],.map 239 d,.bn 1 a,.bn 2 e]))):
  ak 121 [.az 0 0,vN b] [.aH [vL 5 c,.mp 1,.bA 2,.bA 3],.map 239 d,.bn 1 a,.bn 2 e] r h:=.of func121 {an:=[(1,6,ah),(2,2,ah),(5,2,{fb:=some [0,1,2,3]}),(5,7,fv),(5,9,{vec:=true,fb:=some [2]}),(5,10,gw)]} H
def aic(b:List (PV×AV))(c d:Rw)(H:pQ a e fun s g i f t=>Wi 122 [vN f] [] fun u l=>aI (!l) (Fi r h [vB false] [.aH [vL 5 a,.mp 1,.bA 2,.bA 3],.map 239 b,.bn 1 c,.bn 2 d]) (aq ((a.length:Int)-1)/\aI (e==((a.length:Int)-1)) (cb 124 [vN f] [] fun m=>aI (!m) (Fi r h [vB false] [.aH [vL 5 a,.mp 1,.bA 2,.bA 3],.map 239 b,.bn 1 c,.bn 2 d])
 (LY 240 [.az 0 0,vN e,vN g] [.aH [vL 5 a,.mp 1,.bA 2,.bA 3],.map 239 b,.bn 1 c,.bn 2 d] fun v j=>LY 240 [.az 0 0,vN e,vN i] [.aH [vL 5 a,.mp 1,.bA 2,.bA 3],.map 239 b,.bn 1 c,.bn 2 d] fun w n=>aI (f==5) (Fi r h [vB (bif(g !=0)then j else false)] [.aH [vL 5 a,.mp 1,.bA 2,.bA 3],.map 239 b,.bn 1 c,.bn 2 d])
 (cb 125 [vN f] [] fun o=>aI o (Fi r h [vB (bif j then n else false)] [.aH [vL 5 a,.mp 1,.bA 2,.bA 3],.map 239 b,.bn 1 c,.bn 2 d])
 (Fi r h [vB true] [.aH [vL 5 a,.mp 1,.bA 2,.bA 3],.map 239 b,.bn 1 c,.bn 2 d])))) (LY 240 [.az 0 0,vN e,vN g] [.aH [vL 5 a,.mp 1,.bA 2,.bA 3],.map 239 b,.bn 1 c,.bn 2 d] fun x k=>LY 240 [.az 0 0,vN e,vN i] [.aH [vL 5 a,.mp 1,.bA 2,.bA 3],.map 239 b,.bn 1 c,.bn 2 d] fun y p=>aI (f==5) (Fi r h [vB (bif(g !=0)then k else false)] [.aH [vL 5 a,.mp 1,.bA 2,.bA 3],.map 239 b,.bn 1 c,.bn 2 d])
 (cb 125 [vN f] [] fun q=>aI q (Fi r h [vB (bif k then p else false)] [.aH [vL 5 a,.mp 1,.bA 2,.bA 3],.map 239 b,.bn 1 c,.bn 2 d])
 (Fi r h [vB true] [.aH [vL 5 a,.mp 1,.bA 2,.bA 3],.map 239 b,.bn 1 c,.bn 2 d]))))):
  ak 170 [.az 0 0,vN e] [.aH [vL 5 a,.mp 1,.bA 2,.bA 3],.map 239 b,.bn 1 c,.bn 2 d] r h:=.of func170 {an:=[(1,6,ah),(2,2,ah),(3,14,ah),(8,4,aa),(9,2,ah),(10,2,aa)]} H
def FP(a b c:Int)(d:Rw)(e:List (PV×AV))(f g:Rw):St:=⟨aO 25 [(0,.az 0 0),(2,vN a),(8,vN b),(9,vN c)],[],[.aH [vL 5 d,.mp 1,.bA 2,.bA 3],.map 239 e,.bn 1 f,.bn 2 g]⟩
def ab6:df:={an:=[(4,6,aX)],cut:=[(2,{bl:=[0,2,8,9]})]}
def aid(b:List (PV×AV))(H:Lp f171 0 (FP 0 (a.length:Int) 0 a b c d) 4 r h):
  ak 171 [.az 0 0] [.aH [vL 5 a,.mp 1,.bA 2,.bA 3],.map 239 b,.bn 1 c,.bn 2 d] r h:=.of func171 ab6 H
def SZ(e:List (PV×AV))(c f:Rw)(H:bP (a<g) ((0<=a/\a<(c.length:Int))/\0+1<=1/\kQ 241 [.az 0 0,vN a] [.aH [vL 5 d,.mp 1,.bA 2,.bA 3],.map 239 e,.bn 1 (cF c (toNat a) 0 [N b]),.bn 2 f] fun i=>aq (b+i)/\aq (a+1)/\Lp f171 0 (FP (b+i) g (a+1) d e (cF c (toNat a) 0 [N b]) f) 4 r h)
 (Fi r h [] [.aH [vL 5 d,.mp 1,.bA 2,.bA 3],.map 239 e,.bn 1 c,.bn 2 f])):
  Lp f171 0 (FP b g a d e c f) 4 r h:=.of ab6 H
def aie(d:List (PV×AV))(a e:Rw)(H:pQ b c fun m k n o p=>LY 240 [.az 0 0,vN c,vN k] [.aH [vL 5 b,.mp 1,.bA 2,.bA 3],.map 239 d,.bn 1 a,.bn 2 e] fun f q=>pQ b c fun s t l u v=>LY 240 [.az 0 0,vN c,vN l] [.aH [vL 5 b,.mp 1,.bA 2,.bA 3],.map 239 d,.bn 1 a,.bn 2 e] fun g w=>(0<=f/\f<(a.length:Int))/\∃i,(a[toNat f]?).bind (·[0]?)=some (N i)/\(0<=g/\g<(a.length:Int))/\∃j,(a[toNat g]?).bind (·[0]?)=some (N j)/\Fi r h [.agg [N i,N j]] [.aH [vL 5 b,.mp 1,.bA 2,.bA 3],.map 239 d,.bn 1 a,.bn 2 e]):
  ak 172 [.az 0 0,vN c] [.aH [vL 5 b,.mp 1,.bA 2,.bA 3],.map 239 d,.bn 1 a,.bn 2 e] r h:=.of func172 {an:=[(1,9,ah),(2,9,ah),(3,5,aX),(3,12,aX)]} H
def AH(a b c d e:Int)(f:Rw)(g:List (PV×AV))(i j k:Rw)(l m:Int):St:=⟨aO 82 [(0,.az 0 0),(1,vN a),(6,vN b),(7,.bA 4),(8,.az 5 0),(33,.agg [N c,N d]),(34,vN e)],[],[.aH [vL 5 f,.mp 1,.bA 2,.bA 3],.map 239 g,.bn 1 i,.bn 2 j,.bn 4 k,.aH [vN l,vN m]]⟩
def ab7:df:={an:=[(1,6,ah),(2,5,aX),(3,5,aX),(9,6,aX),(10,2,aX),(11,5,aX),(11,11,aX),(13,2,{fb:=some [5]}),(13,3,{fb:=some [5]}),(13,4,{fb:=some [5]}),(13,5,{fb:=some [5]}),(13,6,{vec:=true,fb:=some [4]}),(13,8,{fb:=some [4]}),(13,9,{vec:=true,fb:=some [4]}),(13,11,{fb:=some [4]})],cut:=[(6,{bl:=[0,1,6,7,8,33,34],iV:=[(7,4)]})],rf:=true}
def aif(d:List (PV×AV))(b e:Rw)(H:pQ c a fun l m n g i=>(0<=a/\a<(b.length:Int))/\∃f,(b[toNat a]?).bind (·[0]?)=some (N f)/\Ou 172 [.az 0 0,vN a] [.aH [vL 5 c,.mp 1,.bA 2,.bA 3],.map 239 d,.bn 1 b,.bn 2 e] fun j k=>Lp f173 0 (AH a f j k 0 c d b e [[N g,N 0,N 0,W i]] 0 0) 4 r h):
  ak 173 [.az 0 0,vN a] [.aH [vL 5 c,.mp 1,.bA 2,.bA 3],.map 239 d,.bn 1 b,.bn 2 e] r h:=.of func173 ab7 H
def ua(k:List (PV×AV))(l f b:Rw)(H:bP (a<2) (∃d,(0<=a/\a<2)/\([N g,N i]:List PV)[toNat a]?=some (N d)/\aq (d-c)/\aq ((d-c)-1)/\(0<=a/\a<2)/\∃o p,0<1/\putAt ([vN m,vN n]:List AV) (0+toNat a*1+0) [vN ((d-c)-1)]=[vN o,vN p]/\(0<=e/\e<(f.length:Int))/\(0<=a/\a<2)/\∃s,(f[toNat e]?).bind (·[(0+toNat a*1)]?)=some (B s)/\aI s (aq ((b.length:Int)-1)/\(0<=a/\a<2)/\∃t u,0<1/\putAt ([vN o,vN p]:List AV) (0+toNat a*1+0) [vN ((b.length:Int)-1)]=[vN t,vN u]/\aq (d-c)/\aq ((d-c)-(b.length:Int))/\aq (((d-c)-(b.length:Int))-1)/\(b++([[N 5,N 0,N 0,W (wrap .u32 (((d-c)-(b.length:Int))-1))]]:Rw)).length*32<=2^47/\aq (a+1)/\Lp f173 0 (AH e c g i (a+1) j k l f (b++([[N 5,N 0,N 0,W (wrap .u32 (((d-c)-(b.length:Int))-1))]]:Rw)) t u) 4 r h)
 (aq (a+1)/\Lp f173 0 (AH e c g i (a+1) j k l f b o p) 4 r h))
 ((0<=(0:Int)/\(0:Int)<2)/\∃q,([vN m,vN n]:List AV)[0+toNat 0*1+0]?=some (.v (N q))/\(0<=(1:Int)/\(1:Int)<2)/\∃w,([vN m,vN n]:List AV)[0+toNat 1*1+0]?=some (.v (N w))/\(0<=(0:Int)/\0<(b.length:Int))/\1+1<=4/\(0<=(0:Int)/\0<((cF b (toNat 0) 1 [N q]).length:Int))/\2+1<=4/\Fi r h [vL 4 (cF (cF b (toNat 0) 1 [N q]) (toNat 0) 2 [N w])] [.aH [vL 5 j,.mp 1,.bA 2,.bA 3],.map 239 k,.bn 1 l,.bn 2 f])):
  Lp f173 0 (AH e c g i a j k l f b m n) 4 r h:=.of ab7 H
def aih(a:List (PV×AV))(d e:Rw)(H:aI (f==0) (aq (b+1)/\Fi r h [vN (b+1),vB true] [.aH [vL 5 c,.mp 1,.bA 2,.bA 3],.map 239 a,.bn 1 d,.bn 2 e])
 (((cK a (N f)=none/\Fi r h [vN 0,vB (bif false then(decide ((0:Int)>b))else false)] [.aH [vL 5 c,.mp 1,.bA 2,.bA 3],.map 239 a,.bn 1 d,.bn 2 e])\/(∃g,cK a (N f)=some (vN g)/\Fi r h [vN g,vB (bif true then(decide (g>b))else false)] [.aH [vL 5 c,.mp 1,.bA 2,.bA 3],.map 239 a,.bn 1 d,.bn 2 e])))):
  ak 240 [.az 0 0,vN b,vN f] [.aH [vL 5 c,.mp 1,.bA 2,.bA 3],.map 239 a,.bn 1 d,.bn 2 e] r h:=.of func240 {an:=[(4,3,aa),(4,4,aa),(4,5,aa)]} H
def FQ(a:Int)(b c:Bool)(d:Int)(e:Rw)(f:List (PV×AV))(g i:Rw):St:=⟨aO 23 [(5,vN a),(14,.agg [B b,B c]),(15,vN d)],[],[.aH [vL 5 e,.mp 1,.bA 2,.bA 3],.map 239 f,.bn 1 g,.bn 2 i]⟩
def ab8:df:={an:=[(2,5,aX)],cut:=[(3,{bl:=[5,14,15]})]}
def aii(d:List (PV×AV))(H:(0<=b/\b<(a.length:Int))/\adn a b fun f g=>Lp f241 0 (FQ 1 f g 0 c d e a) 4 r h):
  ak 241 [.az 0 0,vN b] [.aH [vL 5 c,.mp 1,.bA 2,.bA 3],.map 239 d,.bn 1 e,.bn 2 a] r h:=.of func241 ab8 H
def ub(f:List (PV×AV))(H:bP (a<2) (∃j,(0<=a/\a<2)/\([B c,B d]:List PV)[toNat a]?=some (B j)/\aI j (aq (b+1)/\aq (a+1)/\Lp f241 0 (FQ (b+1) c d (a+1) e f g i) 4 r h)
 (aq (a+1)/\Lp f241 0 (FQ b c d (a+1) e f g i) 4 r h))
 (Fi r h [vN b] [.aH [vL 5 e,.mp 1,.bA 2,.bA 3],.map 239 f,.bn 1 g,.bn 2 i])):
  Lp f241 0 (FQ b c d a e f g i) 4 r h:=.of ab8 H
def aij(b:Int)(H:∃a,ak 174 [] [] [vL 2 a] []/\kQ 175 [vL 2 a,.fn (.func 176) [] [.az 0 0]] [.aH [vN b]] fun c=>bP (c<0) (Fi r h [vS [],vB false] [])
 (aah a c fun e d=>Fi r h [vS d,vB true] [])):
  ak 122 [vN b] [] r h:=.of func122 {an:=[(1,0,ah),(5,4,ah)]} H
def aik(H:Fi r h [vL 2 [[N 0,S [108,100,105,109,109]],[N 1,S [108,100,120,105,109,109]],[N 2,S [115,116]],[N 3,S [115,116,120]],[N 4,S [97,100,100,107]],[N 5,S [106,97]],[N 6,S [114,101,116,107]],[N 7,S [116,97,120]],[N 12,S [97,100,100,120]],[N 20,S [115,117,98,107]],[N 21,S [106,101,113,107]],[N 22,S [114,101,116,97]],[N 28,S [115,117,98,120]],[N 29,S [106,101,113,120]],[N 32,S [108,100,97,98,115]],[N 36,S [109,117,108,107]],[N 37,S [106,103,116,107]],[N 44,S [109,117,108,120]],[N 45,S [106,103,116,120]],[N 52,S [100,105,118,107]],[N 53,S [106,103,101,107]],[N 60,S [100,105,118,120]],[N 61,S [106,103,101,120]],[N 68,S [111,114,107]],[N 69,S [106,115,101,116,107]],[N 76,S [111,114,120]],[N 77,S [106,115,101,116,120]],[N 84,S [97,110,100,107]],[N 92,S [97,110,100,120]],[N 96,S [108,100,109,101,109]],[N 97,S [108,100,120,109,101,109]],[N 100,S [108,115,104,107]],[N 108,S [108,115,104,120]],[N 116,S [114,115,104,107]],[N 124,S [114,115,104,120]],[N 128,S [108,100,108,101,110]],[N 129,S [108,100,120,108,101,110]],[N 132,S [110,101,103]],[N 135,S [116,120,97]],[N 164,S [120,111,114,107]],[N 172,S [120,111,114,120]]]] []):
  ak 174 [] [] r h:=.of func174 {} H
def ail(b:Int)(c:By)(a:Int)(H:Fi r h [vB (b==a)] [.aH [vN a]]):
  ak 176 [.agg [N b,S c],.az 0 0] [.aH [vN a]] r h:=.of func176 {} H
def W35(H:cb 59 [vL 4 a] [] fun d=>aI d (Fi r h [vN 0,vB false] [])
 (∃b c,ak 60 [vL 4 a,vB true] [] [vN b,vL 1 c] []/\Fi r h [vN b,vB (b==(-1))] [])):
  ak 35 [vL 4 a] [] r h:=.of func35 {an:=[(1,1,ah),(3,1,ah)]} H
def W59(H:Fi r h [vB (bif((a.length:Int)==0)then true else(decide ((a.length:Int)>4096)))] []):
  ak 59 [vL 4 a] [] r h:=.of func59 {an:=[(1,4,aa),(1,5,aa),(1,6,aa)]} H
abbrev MD(a:Rw)(b:Bool)(c d:Int)(e:Rw)r h:=Lp f60 0 ⟨aO 80 [(0,vL 4 a),(1,vB b),(6,.bA 0),(16,vN c),(17,vN d)],[],[.bn 1 e]⟩ 0 r h
abbrev Ia(a:Rw)(b:Bool)(c:Rw)(d e:Int)(f:Rw)r h:=Lp f60 1 ⟨aO 80 [(0,vL 4 a),(1,vB b),(6,.bA 0),(26,vL 4 c),(27,vN d),(28,vN e)],[],[.bn 1 f]⟩ 0 r h
abbrev AI(a:Rw)(b:Bool)(c:Int)(d:Rw)(e f:Int)(g:Rw)(i j:Int)(k:Rw)(l m n o:Int)r h:=Lp f60 2 ⟨aO 80 [(0,vL 4 a),(1,vB b),(6,.bA 0),(8,vN c),(9,.az 1 0),(26,vL 4 d),(27,vN e),(28,vN f),(59,vL 1 g),(60,vN i),(61,vN j)],[],[.bn 1 k,.aH [vN l,vN m,vN n,vW o]]⟩ 0 r h
def A60:df:={an:=[(2,1,aX),(5,2,aX),(7,1,aX),(10,2,ah),(11,2,ah),(11,9,ah),(11,14,aX),(13,2,ah),(15,1,ah),(16,2,aX),(16,7,aX),(16,9,ah),(16,11,aX)],cut:=[(14,{bl:=[0,1,6,8,9,26,27,28,59,60,61],iV:=[(6,1)]}),(3,{bl:=[0,1,6,16,17],iV:=[(6,1)]}),(9,{bl:=[0,1,6,26,27,28],iV:=[(6,1)]})],rf:=true}
def W60(H:(a.length:Int)=(a.length:Int)/\0<=(a.length:Int)/\(a.length:Int)*(8:Nat)<=2^47/\MD a b ((replicate (toNat (a.length:Int)) [N 0]:Rw).length:Int) 0 (replicate (toNat (a.length:Int)) [N 0]:Rw) r h):
  ak 60 [vL 4 a,vB b] [] r h:=.of func60 A60 H
def WN(c:Rw)(H:bP (a<e) ((0<=a/\a<(c.length:Int))/\0+1<=1/\aq (a+1)/\MD b d e (a+1) (cF c (toNat a) 0 [N 65535]) r h)
 ((0<=(0:Int)/\0<(c.length:Int))/\0+1<=1/\Ia b d b (b.length:Int) 0 (cF c (toNat 0) 0 [N 0]) r h)):
  MD b d e a c r h:=.of A60 H
def ME(H:bP (a<k) (zz j a fun d e f b=>cb 85 [vL 4 g,vN a] [] fun p=>aI (!p) (Fi r h [vN a,.own 0 0 1 []] []) (aI i (cb 86 [vN d] [] fun q=>aI q ((0<=a/\a<(c.length:Int))/\∃l,(c[toNat a]?).bind (·[0]?)=some (N l)/\0<=b/\aI ((cf .and .i64 (fdiv l (2^(min (toNat b) (IntKind.bits .i64)))) 1)==0) (Fi r h [vN a,.own 0 0 1 []] [])
 (Hb 87 [.agg [N d,N e,N f,W b],vN a] [] fun m=>AI g i a j k a m (m.length:Int) 0 c d e f b r h)) (Hb 87 [.agg [N d,N e,N f,W b],vN a] [] fun n=>AI g i a j k a n (n.length:Int) 0 c d e f b r h)) (Hb 87 [.agg [N d,N e,N f,W b],vN a] [] fun o=>AI g i a j k a o (o.length:Int) 0 c d e f b r h)))
 (Fi r h [vN (-1),vL 1 c] [])):
  Ia g i j k a c r h:=.of A60 H
def WO(a:Rw)(H:bP (d<l) (Rdn k d fun b=>(0<=b/\b<(a.length:Int))/\∃q,(a[toNat b]?).bind (·[0]?)=some (N q)/\(0<=c/\c<(a.length:Int))/\∃s,(a[toNat c]?).bind (·[0]?)=some (N s)/\kQ 88 [.agg [N m,N n,N o,W p],vN s] [] fun t=>(0<=b/\b<(a.length:Int))/\0+1<=1/\aq (d+1)/\AI f g c i j e k l (d+1) (cF a (toNat b) 0 [N (cf .and .i64 q t)]) m n o p r h)
 (aq (e+1)/\Ia f g i j (e+1) a r h)):
  AI f g c i j e k l d a m n o p r h:=.of A60 H
abbrev Ib(a b:Rw)(c d:Int)r h:=Lp f85 0 ⟨aO 58 [(0,vL 4 a),(47,vL 1 b),(48,vN c),(49,vN d)],[],[]⟩ 0 r h
def A85:df:={an:=[(1,3,ah),(2,2,ah),(3,4,ah),(3,9,ah),(3,21,ah),(5,2,ah),(7,1,ah)],cut:=[(6,{bl:=[0,47,48,49]})]}
def W85(H:zz a c fun b d e f=>Wi 122 [vN b] [] fun n j=>aI (!j) (Fi r h [vB false] []) (cb 57 [.agg [N b,N d,N e,W f]] [] fun k=>aI (!k) (Fi r h [vB false] []) (cb 123 [.agg [N b,N d,N e,W f]] [] fun l=>aI (!l) (Fi r h [vB false] []) (aq ((a.length:Int)-1)/\aI (c==((a.length:Int)-1)) (cb 124 [vN b] [] fun m=>aI (!m) (Fi r h [vB false] [])
 (Hb 87 [.agg [N b,N d,N e,W f],vN c] [] fun g=>Ib a g (g.length:Int) 0 r h)) (Hb 87 [.agg [N b,N d,N e,W f],vN c] [] fun i=>Ib a i (i.length:Int) 0 r h))))):
  ak 85 [vL 4 a,vN c] [] r h:=.of func85 A85 H
def WQ(H:bP (a<d) (Rdn c a fun e=>bP (e>=(b.length:Int)) (Fi r h [vB false] [])
 (aq (a+1)/\Ib b c d (a+1) r h))
 (Fi r h [vB true] [])):
  Ib b c d a r h:=.of A85 H
def W86(a:Int)(H:Fi r h [vB (bif(a==96)then true else(a==97))] []):
  ak 86 [vN a] [] r h:=.of func86 {an:=[(1,3,aa),(1,4,aa)]} H
def W87(H:cb 124 [vN b] [] fun f=>aI f (Fi r h [vL 1 []] [])
 (aI (b==5) (aq (a+1)/\aq ((a+1)+(wrap .i64 e))/\Fi r h [vL 1 [[N ((a+1)+(wrap .i64 e))]]] [])
 (cb 125 [vN b] [] fun g=>aI g (aq (a+1)/\aq ((a+1)+c)/\aq (a+1)/\aq ((a+1)+d)/\Fi r h [vL 1 [[N ((a+1)+c)],[N ((a+1)+d)]]] [])
 (aq (a+1)/\Fi r h [vL 1 [[N (a+1)]]] [])))):
  ak 87 [.agg [N b,N c,N d,W e],vN a] [] r h:=.of func87 {an:=[(1,2,ah),(5,2,ah)]} H
def W88(H:cb 126 [vN c] [] fun f=>aI f (0<=a/\Fi r h [vN (cf .or .i64 b (wrap .i64 ((1:Int)*2^(min (toNat a) (IntKind.bits .i64)))))] [])
 (Fi r h [vN b] [])):
  ak 88 [.agg [N c,N d,N e,W a],vN b] [] r h:=.of func88 {an:=[(1,2,ah)]} H
def aim(a c d b:Int)(H:aI (a==32) ((4:Int)≠0/\Fi r h [vB (bif((tmod b 4)==0)then(decide (b<=60))else false)] [])
 (cb 126 [vN a] [] fun e=>aI e (Fi r h [vB (decide (b<16))] []) (cb 86 [vN a] [] fun f=>aI f (Fi r h [vB (decide (b<16))] [])
 (aI (a==52) (Fi r h [vB (b !=0)] [])
 (aI (bif(a==100)then true else(a==116)) (Fi r h [vB (decide (b<32))] [])
 (Fi r h [vB true] [])))))):
  ak 123 [.agg [N a,N c,N d,W b]] [] r h:=.of func123 {an:=[(2,5,aa),(2,6,aa),(2,7,aa),(3,2,ah),(3,6,ah),(7,4,aa),(7,5,aa),(7,6,aa)]} H
def ain(a:Int)(H:Fi r h [vB (bif(a==6)then true else(a==22))] []):
  ak 124 [vN a] [] r h:=.of func124 {an:=[(1,3,aa),(1,4,aa)]} H
def aio(a:Int)(H:aI (a==21) (Fi r h [vB true] [])
 (aI (a==37) (Fi r h [vB true] [])
 (aI (a==53) (Fi r h [vB true] [])
 (aI (a==69) (Fi r h [vB true] [])
 (aI (a==29) (Fi r h [vB true] [])
 (aI (a==45) (Fi r h [vB true] [])
 (aI (a==61) (Fi r h [vB true] [])
 (aI (a==77) (Fi r h [vB true] [])
 (Fi r h [vB false] []))))))))):
  ak 125 [vN a] [] r h:=.of func125 {} H
def aip(a:Int)(H:Fi r h [vB (bif(a==2)then true else(a==3))] []):
  ak 126 [vN a] [] r h:=.of func126 {an:=[(1,3,aa),(1,4,aa)]} H
structure Nm where
 code:Int
 name:By
def Nm.row(n:Nm):List PV:=[N n.code,S n.name]
def Ic:List Nm:=[⟨0,[108,100,105,109,109]⟩,⟨1,[108,100,120,105,109,109]⟩,⟨2,[115,116]⟩,⟨3,[115,116,120]⟩,⟨4,[97,100,100,107]⟩,⟨5,[106,97]⟩,⟨6,[114,101,116,107]⟩,⟨7,[116,97,120]⟩,⟨12,[97,100,100,120]⟩,⟨20,[115,117,98,107]⟩,⟨21,[106,101,113,107]⟩,
 ⟨22,[114,101,116,97]⟩,⟨28,[115,117,98,120]⟩,⟨29,[106,101,113,120]⟩,⟨32,[108,100,97,98,115]⟩,⟨36,[109,117,108,107]⟩,⟨37,[106,103,116,107]⟩,⟨44,[109,117,108,120]⟩,⟨45,[106,103,116,120]⟩,⟨52,[100,105,118,107]⟩,⟨53,[106,103,101,107]⟩,⟨60,[100,105,118,120]⟩,
 ⟨61,[106,103,101,120]⟩,⟨68,[111,114,107]⟩,⟨69,[106,115,101,116,107]⟩,⟨76,[111,114,120]⟩,⟨77,[106,115,101,116,120]⟩,⟨84,[97,110,100,107]⟩,⟨92,[97,110,100,120]⟩,⟨96,[108,100,109,101,109]⟩,⟨97,[108,100,120,109,101,109]⟩,⟨100,[108,115,104,107]⟩,⟨108,[108,115,104,120]⟩,
 ⟨116,[114,115,104,107]⟩,⟨124,[114,115,104,120]⟩,⟨128,[108,100,108,101,110]⟩,⟨129,[108,100,120,108,101,110]⟩,⟨132,[110,101,103]⟩,⟨135,[116,120,97]⟩,⟨164,[120,111,114,107]⟩,⟨172,[120,111,114,120]⟩]
def aiq:ak 174 [] [] [vL 2 (Ic.map Nm.row)] []:=aik fi
def r8(c:Int):Option Nm:=Ic.find? fun n=>n.code==c
def ab9(c:Int):ak 122 [vN c] [] [vS (((r8 c).map (·.name)).getD []),vB (r8 c).isSome] []:=by
 refine aij c ⟨_,aiq,_,QA _ _ (eZ (p:=fun n=>n.code==c) (l:=Ic) (Hd:=fun i=>pS _ _ i c) (by decide) fun i r h b d=>Kl _ _ _ _ (fg (l:=Ic) (by simp) (fun x a=>⟨x.code,x.name,by omega,aP a,_,ail _ _ _ fi,b x a⟩) d)),ad (fun h=>?_) fun h=>?_⟩
 .exact aZ (by rw[r8,zB (aU h)];rfl)
 .have h:=bI h
  obtain⟨x,e,-,f⟩:=ve (p:=fun n=>n.code==c) (l:=Ic) (by omega)
  exact⟨x.code,x.name,by omega,by rw[bu,e];rfl,aZ (by rw[r8,f];rfl)⟩
def qJ(c:Int):Bool:=bif(c==6)then true else(c==22)
def Zk(c:Int):ak 124 [vN c] [] [vB (qJ c)] []:=ain c fi
def cT(c:Int):Bool:=bif c==21 then true else bif c==37 then true else bif c==53 then true else bif c==69 then true else bif c==29 then true else bif c==45 then true else bif c==61 then true else bif c==77 then true else false
def S0(c:Int):ak 125 [vN c] [] [vB (cT c)] []:=
 aio c (ad (fun h=>aZ (by rw[cT,h];rfl)) fun a=>ad (fun h=>aZ (by rw[cT,a,h];rfl)) fun b=>ad (fun h=>aZ (by rw[cT,a,b,h];rfl)) fun d=>ad (fun h=>aZ (by rw[cT,a,b,d,h];rfl)) fun e=>
  ad (fun h=>aZ (by rw[cT,a,b,d,e,h];rfl)) fun f=>ad (fun h=>aZ (by rw[cT,a,b,d,e,f,h];rfl)) fun g=>ad (fun h=>aZ (by rw[cT,a,b,d,e,f,g,h];rfl)) fun i=>
  ad (fun h=>aZ (by rw[cT,a,b,d,e,f,g,i,h];rfl)) fun h=>aZ (by rw[cT,a,b,d,e,f,g,i,h];rfl))
abbrev Lb:=Int×Int
def Lc(l:List Lb):List (PV×AV):=l.map fun x=>(N x.1,vN x.2)
def mJ(l:List Lb)(k:Int):Option Lb:=l.find? fun x=>k==x.1
def AJ(x:Lb):List Lb->List Lb
 |[]=>[x]
 |y::l=>bif x.1==y.1 then x::l else y::AJ x l
def S1(a b:Int):l9 (N a) (N b)=(a==b):=rfl
def vF(k:Int):∀(l:List Lb),cK (Lc l) (N k)=(mJ l k).map fun x=>vN x.2
 |[]=>rfl
 |x::l=>by
  have a:=vF k l;unfold Lc mJ at a⊢;rw[bG,cK,S1,cp];cases k==x.1
  .exact a
  .rfl
def MF(x:Lb):∀(l:List Lb),cB (Lc l) (N x.1) (vN x.2)=Lc (AJ x l)
 |[]=>rfl
 |y::l=>by
  have a:=MF x l;unfold Lc at a⊢;rw[bG,cB,S1,AJ];cases x.1==y.1
  .rw[aN (by decide),a];rfl
  .rfl
structure Lk where
 l:List Sy
 qP:List Lb
 place:List Int
 cG:List (Bool×Bool)
def mu(l:List Int):Rw:=l.map fun n=>[N n]
def kR(l:List (Bool×Bool)):Rw:=l.map fun p=>[B p.1,B p.2]
abbrev lb(k:Lk):List Bx:=[.aH [vL 5 (k.l.map Sy.row),.mp 1,.bA 2,.bA 3],.map 239 (Lc k.qP),.bn 1 (mu k.place),.bn 2 (kR k.cG)]
def iz(m:List Lb)(i ct:Int):Int×Bool:=bif ct==0 then(i+1,true)else match mJ m ct with
 |none=>(0,false)
 |some x=>(x.2,decide (x.2>i))
def Vi(k:Lk)(i ct:Int)(a:0<=i/\i<=2^40):ak 240 [.az 0 0,vN i,vN ct] (lb k) [vN (iz k.qP i ct).1,vB (iz k.qP i ct).2] (lb k):=by
 apply aih;refine ad (fun h=>⟨au,aZ (by rw[iz,h];rfl)⟩) fun h=>?_
 cases hg:mJ k.qP ct with
 |none=>exact .inl ⟨by rw[vF,hg];rfl,aZ (by rw[iz,h,hg];rfl)⟩
 |some x=>exact .inr ⟨x.2,by rw[vF,hg];rfl,aZ (by rw[iz,h,hg];rfl)⟩
def countP(p:Bool×Bool):Int:=bif p.2 then(bif p.1 then 1+1+1 else 1+1)else bif p.1 then 1+1 else 1
def air(k:Lk)(i:Nat)(p:Bool×Bool)(e:k.cG[i]?=some p):ak 241 [.az 0 0,vN i] (lb k) [vN (countP p)] (lb k):=by
 have g:i<k.cG.length:=(aE.1 e).1;have f:(kR k.cG)[toNat (i:Int)]?=some [B p.1,B p.2]:=by rw[kR,toNat_cast,bu,e];rfl
 obtain⟨a,b⟩:=p;apply aii;refine⟨⟨by omega,by simp[kR];omega⟩,a,b,f,?_⟩
 apply ub;refine bj rfl ⟨a,⟨by omega,by omega⟩,rfl,ad (fun d=>⟨au,au,?_⟩) fun d=>⟨au,?_⟩⟩
 .apply ub
  refine bj rfl ⟨b,⟨by omega,by omega⟩,rfl,ad (fun c=>⟨au,au,?_⟩) fun c=>⟨au,?_⟩⟩
  .apply ub
   exact aw rfl (aZ (by subst d;subst c;rfl))
  .apply ub
   exact aw rfl (aZ (by subst d;subst c;rfl))
 .apply ub
  refine bj rfl ⟨b,⟨by omega,by omega⟩,rfl,ad (fun c=>⟨au,au,?_⟩) fun c=>⟨au,?_⟩⟩
  .apply ub
   exact aw rfl (aZ (by subst d;subst c;rfl))
  .apply ub
   exact aw rfl (aZ (by subst d;subst c;rfl))
def nA:List (Bool×Bool)->Int->List Int
 |[],_=>[]
 |p::t,n=>n::nA t (n+countP p)
def uc(f:α->α)(v:α)(t:List α):∀(u:List α),(u++v::t).modify u.length f=u++f v::t
 |[]=>rfl
 |a::u=>by
  have:=uc f v t u;show(a::(u++v::t)).modify (u.length+1) f=a::(u++f v::t)
  rw[List.modify_succ_cons,this]
def ON(z:List Int)(y n:Int)(t:List Int):cF (mu (z++y::t)) z.length 0 [N n]=mu (z++n::t):=by
 unfold cF mu;rw[bN,bG,bN,bG];have:=uc (fun r=>putAt r 0 [N n]) [N y] (t.map fun n=>[N n]) (z.map fun n=>[N n])
 rw[al]at this;exact this
def nB(p:Bool×Bool):1<=countP p/\countP p<=3:=by
 obtain⟨a,b⟩:=p;cases a<;>cases b<;>decide
def ais(k:Lk)(j:k.place.length=k.l.length)(m:k.cG.length=k.l.length)(q:k.l.length<=2^30):ak 171 [.az 0 0] (lb k) [] (lb {k with place:=nA k.cG 0}):=by
 have key:∀(t:List (Bool×Bool))(i:Nat)(n:Int)(z y:List Int),k.cG.drop i=t->z.length=i->y.length=t.length->0<=n->n<=3*i ->
   Lp f171 0 (FP n k.l.length i (k.l.map Sy.row) (Lc k.qP) (mu (z++y)) (kR k.cG)) 4 [] (lb {k with place:=z++nA t n}):=by
  intro t;induction t with
  |nil=>
   intro i n z y b d a _ _;apply SZ;have:y=[]:=ir.1 a;subst this;exact aQ (l:=k.cG) (by omega) b fi
  |cons p t e=>
   intro i n z y b d a v s;obtain⟨f,g,u⟩:=bM b;match y,a with
   |y0::y,a=>
    have o:=nB p;have c:=ON z y0 n y;rw[d]at c;apply SZ;refine aL (l:=k.cG) (by omega) b ⟨⟨by omega,by simp[mu];omega⟩,by omega,?_⟩
    rw[toNat_cast,c];refine⟨_,air {k with place:=z++n::y} i p f,au,au,?_⟩;have:=e (i+1) (n+countP p) (z++[n]) y g (by simp;omega) (by simpa using a) (by omega) (by omega)
    rw[bq,bq]at this;exact this
 apply aid;rw[al];exact key k.cG 0 0 [] k.place rfl rfl (by omega) (by omega) (by omega)
def kh(k:Lk)(i ct:Int):Int:=k.place.getD (iz k.qP i ct).1.toNat 0
def MG(k:Lk)(i ct:Int):Prop:=0<=(iz k.qP i ct).1/\(iz k.qP i ct).1<(k.place.length:Int)
def MH(h:MG k i ct):((mu k.place)[toNat (iz k.qP i ct).1]?).bind (·[0]?)=some (N (kh k i ct)):=by
 obtain⟨b,c⟩:=h;have a:(iz k.qP i ct).1.toNat<k.place.length:=by omega
 rw[mu,bu,bo a,kh,bR,bo a];rfl
def Zl(k:Lk)(i:Nat)(x:Sy)(e:i<=2^40)(c:k.l[i]?=some x)(b:MG k i x.t)(a:MG k i x.f):ak 172 [.az 0 0,vN i] (lb k) [.agg [N (kh k i x.t),N (kh k i x.f)]] (lb k):=by
 have d:(mu k.place).length=k.place.length:=al ..;apply aie;rw[d];exact⟨x.label,x.t,x.f,x.code,x.k,by omega,aP c,_,_,Vi k i x.t ⟨by omega,by omega⟩,x.label,x.t,x.f,x.code,x.k,by omega,aP c,_,_,Vi k i x.f ⟨by omega,by omega⟩,⟨b.1,b.2⟩,_,MH b,⟨a.1,a.2⟩,_,MH a,fi⟩
def ud(n:Int)(m:List Lb)(i:Int)(x:Sy):Bool:=bif !(r8 x.code).isSome then false else bif(bif i==n-1 then !qJ x.code else false)then false else
 bif x.code==5 then(bif x.t !=0 then(iz m i x.t).2 else false)else bif cT x.code then(bif(iz m i x.t).2 then(iz m i x.f).2 else false)else true
def ait(k:Lk)(i:Nat)(x:Sy)(m:k.l.length<=2^40)(j:k.l[i]?=some x):ak 170 [.az 0 0,vN i] (lb k) [vB (ud k.l.length k.qP i x)] (lb k):=by
 have l:i<k.l.length:=(aE.1 j).1;have g:=Vi k i x.t ⟨by omega,by omega⟩
 have f:=Vi k i x.f ⟨by omega,by omega⟩
 apply aic;refine⟨x.label,x.t,x.f,x.code,x.k,by omega,aP j,_,_,ab9 x.code,ad (fun h=>aZ (by rw[ud,h];rfl)) fun c=>?_⟩
 rw[al];refine⟨au,ad (fun b=>⟨_,Zk x.code,ad (fun e=>aZ (by rw[ud,c,b,e];rfl)) fun e=>⟨_,_,g,_,_,f,ad (fun a=>aZ (by rw[ud,c,b,e,a];rfl)) fun a=>⟨_,S0 x.code,ad (fun d=>aZ (by rw[ud,c,b,e,a,d];rfl)) fun d=>aZ (by rw[ud,c,b,e,a,d];rfl)⟩⟩⟩)
  fun b=>⟨_,_,g,_,_,f,ad (fun a=>aZ (by rw[ud,c,b,a];rfl)) fun a=>⟨_,S0 x.code,ad (fun d=>aZ (by rw[ud,c,b,a,d];rfl)) fun d=>aZ (by rw[ud,c,b,a,d];rfl)⟩⟩⟩
def gD:List Sy->Int->List Lb->Bool×List Lb
 |[],_,m=>(true,m)
 |x::t,i,m=>bif(bif decide (x.label<0)then true else(mJ m x.label).isSome)then(false,m)else gD t (i+1) (bif decide (x.label>0)then AJ (x.label,i) m else m)
def tr(n:Int)(m:List Lb):List Sy->Int->Bool
 |[],_=>decide (n>0)
 |x::t,i=>bif !ud n m i x then false else tr n m t (i+1)
def dr(l:List Sy):Bool×List Lb:=(bif(gD l 0 []).1 then tr l.length (gD l 0 []).2 l 0 else false,(gD l 0 []).2)
def aiu(k:Lk)(n:k.l.length<=2^40)(o:k.qP=[]):ak 119 [.az 0 0] (lb k) [vB (dr k.l).1] (lb {k with qP:=(dr k.l).2}):=by
 have s:∀(m:List Lb)(t:List Sy)(i:Nat),k.l.drop i=t->Lp f119 1 (FO k.l.length i (k.l.map Sy.row) (Lc m) (mu k.place) (kR k.cG)) 4 [vB (tr k.l.length m t i)] (lb {k with qP:=m}):=by
  intro m t;induction t with
  |nil=>intro i b;apply SW;rw[al];exact aQ (l:=k.l) rfl b fi
  |cons x t d=>
   intro i b;obtain⟨e,c,j⟩:=bM b;apply SW;exact aL (l:=k.l) rfl b ⟨_,ait {k with qP:=m} i x n e,ad (fun a=>aZ (by rw[tr,a];rfl)) fun a=>⟨au,by rw[tr,a];exact d (i+1) c⟩⟩
 have q:∀(t:List Sy)(i:Nat)(m:List Lb),k.l.drop i=t->Lp f119 0 (tY (k.l.map Sy.row) k.l.length i (k.l.map Sy.row) (Lc m) (mu k.place) (kR k.cG)) 4 [vB (bif(gD t i m).1 then tr k.l.length (gD t i m).2 k.l 0 else false)] (lb {k with qP:=(gD t i m).2}):=by
  intro t;induction t with
  |nil=>
   intro i m b;apply SV;rw[al];exact aQ (l:=k.l) rfl b (s m k.l 0 rfl)
  |cons x t d=>
   intro i m b;obtain⟨e,c,j⟩:=bM b;have p:=MF (x.label,(i:Int)) m;apply SV;refine aL (l:=k.l) rfl b ⟨x.label,x.t,x.f,x.code,x.k,by omega,aP e,?_⟩
   rw[gD];cases hg:mJ m x.label with
   |none=>
    refine .inl ⟨by rw[vF,hg];rfl,ad (fun a=>?_) fun a=>ad (fun f=>⟨au,?_⟩) fun f=>⟨au,?_⟩⟩
    .have a:decide (x.label<0)=true:=(cn a).1
     exact bE (by rw[a];rfl) (by rw[a];rfl)
    .have a:decide (x.label<0)=false:=by cases hd:decide (x.label<0)<;>rw[hd]at a<;>simp at a⊢
     rw[a,f,p];exact d (i+1) _ c
    .have a:decide (x.label<0)=false:=by cases hd:decide (x.label<0)<;>rw[hd]at a<;>simp at a⊢
     rw[a,f];exact d (i+1) _ c
   |some y=>
    have g:(bif decide (x.label<0)then true else true)=true:=by cases decide (x.label<0)<;>rfl
    refine .inr ⟨y.2,by rw[vF,hg];rfl,bj g (bE ?_ ?_)⟩
    .rw[show(some y).isSome=true from rfl,g];rfl
    .rw[show(some y).isSome=true from rfl,g];rfl
 apply ah9;rw[al,o];exact q k.l 0 [] rfl
def w7:∀(l:List (Bool×Bool))(n:Int),(nA l n).length=l.length
 |[],_=>rfl
 |p::t,n=>by rw[nA,aD,w7 t,aD]
def AK:∀(l:List (Bool×Bool))(n:Int),∀v∈nA l n,n<=v/\v<=n+3*l.length
 |[],_,v,h=>by simp[nA]at h
 |p::t,n,v,h=>by
  have a:=nB p;rcases aY.1 (show v∈n::nA t (n+countP p)from h)with rfl|h
  .simp only[aD];omega
  .have:=AK t _ v h
   simp only[aD];omega
structure Vj (k:Lk):Prop where
 pl:k.place.length=k.l.length
 fl:k.cG.length=k.l.length
 len:k.l.length<=2^30
 bd:∀v∈k.place,0<=v/\v<=2^40
 jmp:∀(i:Nat)(x:Sy),k.l[i]?=some x->cT x.code=true->MG k i x.t/\MG k i x.f
def AL(h:Vj k)(b:MG k i ct):0<=kh k i ct/\kh k i ct<=2^40:=by
 obtain⟨c,d⟩:=b;have a:(iz k.qP i ct).1.toNat<k.place.length:=by omega
 rw[kh,bR,bo a];exact h.bd _ (fL a)
def yK(k:Lk)(i:Nat):Int:=k.place.getD i 0
def FR{k:Lk}(h:i<k.place.length):((mu k.place)[toNat (i:Int)]?).bind (·[0]?)=some (N (yK k i)):=by
 rw[mu,toNat_cast,bu,bo h,yK,bR,bo h];rfl
def Ld(h:Vj k)(a:i<k.place.length):0<=yK k i/\yK k i<=2^40:=by
 rw[yK,bR,bo a];exact h.bd _ (fL a)
def ig(k:Lk)(i:Nat)(a:Int)(b:Bool):Bool:=bif !b then decide (a-yK k i-1>255)else false
def mK(k:Lk):List Sy->List (Bool×Bool)->Nat->Bool->List (Bool×Bool)×Bool
 |x::t,p::q,i,more=>bif !cT x.code then(p::(mK k t q (i+1) more).1,(mK k t q (i+1) more).2)else
  ((bif ig k i (kh k i x.t) p.1 then true else p.1,bif ig k i (kh k i x.f) p.2 then true else p.2)::(mK k t q (i+1) (bif ig k i (kh k i x.f) p.2 then true else bif ig k i (kh k i x.t) p.1 then true else more)).1,
   (mK k t q (i+1) (bif ig k i (kh k i x.f) p.2 then true else bif ig k i (kh k i x.t) p.1 then true else more)).2)
 |_,q,_,more=>(q,more)
def Vk(z q:List (Bool×Bool))(p a:Bool×Bool)(s:Nat)(h:putAt [B p.1,B p.2] s [B true]=[B a.1,B a.2]):cF (kR (z++p::q)) z.length s [B true]=kR (z++a::q):=by
 unfold cF kR;rw[bN,bG,bN,bG];have:=uc (fun r=>putAt r s [B true]) [B p.1,B p.2] (q.map fun p=>[B p.1,B p.2]) (z.map fun p=>[B p.1,B p.2])
 rw[al]at this;rw[this,h]
def S2(k:Lk)(c:Vj k):∀(t:List Sy)(q:List (Bool×Bool))(i:Nat)(z:List (Bool×Bool))(more:Bool),k.l.drop i=t->z.length=i->q.length=t.length ->
  Lp f120 0 (AG more (k.l.map Sy.row) k.l.length i (k.l.map Sy.row) (Lc k.qP) (mu k.place) (kR (z++q))) 4 [vB (mK k t q i more).2] (lb {k with cG:=z++(mK k t q i more).1})
 |[],q,i,z,more,e,n,d=>by
  apply SX;exact aQ (l:=k.l) rfl e fi
 |x::t,[],i,z,more,e,n,d=>by simp at d
 |x::t,p::q,i,z,more,e,n,d=>by
  obtain⟨u,w,F⟩:=bM e;have hlen:=c.len;have a0:=c.pl;have d:q.length=t.length:=by simpa using d
  apply SX;refine aL (l:=k.l) rfl e ⟨x.label,x.t,x.f,x.code,x.k,by omega,aP u,_,S0 x.code,ad (fun g=>⟨au,?_⟩) fun g=>?_⟩
  .have:=S2 k c t q (i+1) (z++[p]) more w (by simp;omega) d
   rw[mK,g];rw[bq,bq]at this;exact this
  .obtain⟨y,D⟩:=c.jmp i x u (by simpa using g)
   have H:=AL c y;have G:=AL c D;have Z:=Ld c (i:=i) (by omega)
   have M:∀p:Bool×Bool,(kR (z++p::q)).length=k.l.length:=by intro p;have:=c.fl;have:=congrArg List.length e;simp[kR]at this⊢; omega
   have step:∀(s:Nat)(a:Int)(b:Bool)(m:Bool)(p f:Bool×Bool){r:List AV}{h:List Bx},s<2->([N (kh k i x.t),N (kh k i x.f)]:List PV)[s]?=some (N a)->([B p.1,B p.2]:List PV)[s]?=some (B b)->putAt [B p.1,B p.2] s [B true]=[B f.1,B f.2]->0<=a/\a<=2^40 ->
     Lp f120 1 (tZ (bif ig k i a b then true else m) i (k.l.map Sy.row) k.l.length i (kh k i x.t) (kh k i x.f) ((s:Int)+1) (k.l.map Sy.row) (Lc k.qP) (mu k.place) (kR (z++(bif ig k i a b then f else p)::q))) 4 r h ->
     Lp f120 1 (tZ m i (k.l.map Sy.row) k.l.length i (kh k i x.t) (kh k i x.f) s (k.l.map Sy.row) (Lc k.qP) (mu k.place) (kR (z++p::q))) 4 r h:=by
    intro s a b m p f r h A T Q X R K;have o:0+toNat (s:Int)*1=s:=by rw[toNat_cast];omega
    have Y:((kR (z++p::q))[toNat (i:Int)]?).bind (·[0+toNat (s:Int)*1]?)=some (B b):=by
     rw[o,toNat_cast,kR,bN,eN (by simp;omega),al,n,lM]
     exact Q
    have E:=Vk z q p f s X;rw[n]at E;apply SY;rw[M p];refine bj (bw (by omega)) ⟨a,⟨by omega,by omega⟩,by rw[toNat_cast];exact T,⟨by omega,by omega⟩,⟨by omega,by omega⟩,b,Y,ad (fun j=>⟨⟨by omega,by simp[mu];omega⟩,yK k i,FR (by omega),au,au,ad (fun v=>⟨⟨by omega,by omega⟩,⟨by omega,by omega⟩,by rw[o];omega,au,?_⟩) fun v=>⟨au,?_⟩⟩) fun j=>⟨au,?_⟩⟩
    .rw[show ig k i a b=true by rw[ig,j,v];rfl]at K
     rw[o,toNat_cast,E];exact K
    .rw[show ig k i a b=false by rw[ig,j,v];rfl]at K
     exact K
    .rw[show ig k i a b=false by rw[ig,j];rfl]at K
     exact K
   refine⟨_,_,Zl {k with cG:=z++p::q} i x (by omega) u y D,?_⟩
   refine step 0 (kh k i x.t) p.1 more p (true,p.2) (by omega) rfl rfl rfl H ?_
   have I:(bif ig k i (kh k i x.t) p.1 then((true,p.2):Bool×Bool)else p)=(bif ig k i (kh k i x.t) p.1 then true else p.1,p.2):=by cases ig k i (kh k i x.t) p.1<;>rfl
   rw[I];refine step 1 (kh k i x.f) p.2 _ _ (bif ig k i (kh k i x.t) p.1 then true else p.1,true) (by omega) rfl rfl rfl G ?_
   have J:(bif ig k i (kh k i x.f) p.2 then((bif ig k i (kh k i x.t) p.1 then true else p.1,true):Bool×Bool)else(bif ig k i (kh k i x.t) p.1 then true else p.1,p.2))=(bif ig k i (kh k i x.t) p.1 then true else p.1,bif ig k i (kh k i x.f) p.2 then true else p.2):=by cases ig k i (kh k i x.f) p.2<;>rfl
   rw[J];apply SY;refine aw rfl ⟨au,?_⟩;have:=S2 k c t q (i+1) (z++[(bif ig k i (kh k i x.t) p.1 then true else p.1,bif ig k i (kh k i x.f) p.2 then true else p.2)]) (bif ig k i (kh k i x.f) p.2 then true else bif ig k i (kh k i x.t) p.1 then true else more) w (by simp;omega) d
   rw[mK,g];rw[bq,bq]at this;exact this
def nC(k:Lk):Lk:={k with place:=nA k.cG 0}
def gq(k:Lk):Lk×Bool:=({nC k with cG:=(mK (nC k) k.l k.cG 0 false).1},(mK (nC k) k.l k.cG 0 false).2)
def aiv(k:Lk)(b:k.place.length=k.l.length)(a:k.cG.length=k.l.length)(d:k.l.length<=2^30)(c:Vj (nC k)):ak 120 [.az 0 0] (lb k) [vB (gq k).2] (lb (gq k).1):=by
 apply aia;refine⟨_,ais k b a d,?_⟩;rw[al];exact S2 (nC k) c k.l k.cG 0 [] false rfl rfl a
structure In where
 code:Int
 jt:Int
 jf:Int
 k:Int
def In.row(x:In):List PV:=[N x.code,N x.jt,N x.jf,W x.k]
def jaI(n:Int):In:=⟨5,0,0,wrap .u32 n⟩
def pf(k:Lk)(i:Nat)(x:Sy)(p:Bool×Bool):List In:=
 ⟨x.code,bif p.1 then 0 else kh k i x.t-yK k i-1,bif p.2 then(bif p.1 then 1 else 0)else kh k i x.f-yK k i-1,x.k⟩::
  ((bif p.1 then[jaI (kh k i x.t-yK k i-1-1)]else[])++(bif p.2 then[jaI (kh k i x.f-yK k i-(bif p.1 then 2 else 1)-1)]else[]))
def aiw(k:Lk)(f:Vj k)(i:Nat)(x:Sy)(m:k.l[i]?=some x)(w:cT x.code=true)(p:Bool×Bool)(z:k.cG[i]?=some p):
  ak 173 [.az 0 0,vN i] (lb k) [vL 4 ((pf k i x p).map In.row)] (lb k):=by
 have I:=f.len;have r:=f.pl;have h:=f.fl;have H:i<k.l.length:=(aE.1 m).1;obtain⟨t,v⟩:=f.jmp i x m w;have G:=AL f t;have D:=AL f v;have E:=Ld f (i:=i) (by omega)
 have s:(kR k.cG)[toNat (i:Int)]?=some [B p.1,B p.2]:=by rw[kR,toNat_cast,bu,z];rfl
 have g:(kR k.cG).length=k.l.length:=by simp[kR,h]
 have pl:(mu k.place).length=k.l.length:=by simp[mu,r]
 obtain⟨a,b⟩:=p;apply aif;rw[pl];refine⟨x.label,x.t,x.f,x.code,x.k,by omega,aP m,⟨by omega,by omega⟩,yK k i,FR (by omega),_,_,Zl k i x (by omega) m t v,?_⟩
 have r0:((kR k.cG)[toNat (i:Int)]?).bind (·[0+toNat 0*1]?)=some (B a):=by rw[s];rfl
 have n:((kR k.cG)[toNat (i:Int)]?).bind (·[0+toNat 1*1]?)=some (B b):=by rw[s];rfl
 generalize l:kh k i x.t=t0 at*;generalize j:kh k i x.f=t1 at*;generalize o:yK k i=q at*;have fin:∀(c:Rw)(y:List PV)(d e:Int)(u:Rw),c=y::u->putAt (putAt y 1 [N d]) 2 [N e]=[N x.code,N d,N e,W x.k]->Lp f173 0 (AH i q t0 t1 2 (k.l.map Sy.row) (Lc k.qP) (mu k.place) (kR k.cG) c d e) 4 [vL 4 ([N x.code,N d,N e,W x.k]::u)] (lb k):=by
  rintro _ y d e u rfl hy;apply ua;refine aw rfl ⟨⟨by omega,by omega⟩,d,rfl,⟨by omega,by omega⟩,e,rfl,⟨by omega,by simp<;>omega⟩,by omega,⟨by omega,by simp[cF]<;>omega⟩,by omega,aZ ?_⟩
  rw[show cF (cF (y::u) (toNat 0) 1 [N d]) (toNat 0) 2 [N e]=putAt (putAt y 1 [N d]) 2 [N e]::u from rfl,hy]
 cases a with
 |false=>
  apply ua;rw[g];refine bj rfl ⟨t0,⟨by omega,by omega⟩,rfl,au,au,⟨by omega,by omega⟩,t0-q-1,0,by omega,rfl,⟨by omega,by omega⟩,⟨by omega,by omega⟩,false,r0,aw rfl ⟨au,?_⟩⟩
  cases b with
  |false=>
   apply ua;rw[g];refine bj rfl ⟨t1,⟨by omega,by omega⟩,rfl,au,au,⟨by omega,by omega⟩,t0-q-1,t1-q-1,by omega,rfl,⟨by omega,by omega⟩,⟨by omega,by omega⟩,false,n,aw rfl ⟨au,?_⟩⟩
   have:=fin [[N x.code,N 0,N 0,W x.k]] _ (t0-q-1) (t1-q-1) [] rfl rfl;rw[show(pf k i x (false,false)).map In.row=[[N x.code,N (t0-q-1),N (t1-q-1),W x.k]] by rw[pf,l,j,o];rfl]
   exact this
  |true=>
   apply ua;rw[g];refine bj rfl ⟨t1,⟨by omega,by omega⟩,rfl,au,au,⟨by omega,by omega⟩,t0-q-1,t1-q-1,by omega,rfl,⟨by omega,by omega⟩,⟨by omega,by omega⟩,true,n,bj rfl ⟨au (by simp) (by simp),⟨by omega,by omega⟩,t0-q-1,0,by omega,rfl,au,au (by simp;omega) (by simp;omega),au (by simp;omega) (by simp;omega),by simp,au,?_⟩⟩
   have:=fin ([[N x.code,N 0,N 0,W x.k]]++[[N 5,N 0,N 0,W (wrap .u32 (t1-q-1-1))]]) _ (t0-q-1) 0 [[N 5,N 0,N 0,W (wrap .u32 (t1-q-1-1))]] rfl rfl;rw[show(pf k i x (false,true)).map In.row=[[N x.code,N (t0-q-1),N 0,W x.k],[N 5,N 0,N 0,W (wrap .u32 (t1-q-1-1))]] by rw[pf,l,j,o];rfl]
   exact this
 |true=>
  apply ua;rw[g];refine bj rfl ⟨t0,⟨by omega,by omega⟩,rfl,au,au,⟨by omega,by omega⟩,t0-q-1,0,by omega,rfl,⟨by omega,by omega⟩,⟨by omega,by omega⟩,true,r0,bj rfl ⟨au (by simp) (by simp),⟨by omega,by omega⟩,0,0,by omega,rfl,au,au (by simp;omega) (by simp;omega),au (by simp;omega) (by simp;omega),by simp,au,?_⟩⟩
  cases b with
  |false=>
   apply ua;rw[g];refine bj rfl ⟨t1,⟨by omega,by omega⟩,rfl,au,au,⟨by omega,by omega⟩,0,t1-q-1,by omega,rfl,⟨by omega,by omega⟩,⟨by omega,by omega⟩,false,n,aw rfl ⟨au,?_⟩⟩
   have:=fin ([[N x.code,N 0,N 0,W x.k]]++[[N 5,N 0,N 0,W (wrap .u32 (t0-q-1-1))]]) _ 0 (t1-q-1) [[N 5,N 0,N 0,W (wrap .u32 (t0-q-1-1))]] rfl rfl;rw[show(pf k i x (true,false)).map In.row=[[N x.code,N 0,N (t1-q-1),W x.k],[N 5,N 0,N 0,W (wrap .u32 (t0-q-1-1))]] by rw[pf,l,j,o];rfl]
   exact this
  |true=>
   apply ua;rw[g];refine bj rfl ⟨t1,⟨by omega,by omega⟩,rfl,au,au,⟨by omega,by omega⟩,0,t1-q-1,by omega,rfl,⟨by omega,by omega⟩,⟨by omega,by omega⟩,true,n,bj rfl ⟨au (by simp) (by simp),⟨by omega,by omega⟩,0,1,by omega,rfl,au,au (by simp;omega) (by simp;omega),au (by simp;omega) (by simp;omega),by simp,au,?_⟩⟩
   have:=fin ([[N x.code,N 0,N 0,W x.k]]++[[N 5,N 0,N 0,W (wrap .u32 (t0-q-1-1))]]++[[N 5,N 0,N 0,W (wrap .u32 (t1-q-2-1))]]) _ 0 1 [[N 5,N 0,N 0,W (wrap .u32 (t0-q-1-1))],[N 5,N 0,N 0,W (wrap .u32 (t1-q-2-1))]] rfl rfl;rw[show(pf k i x (true,true)).map In.row=[[N x.code,N 0,N 1,W x.k],[N 5,N 0,N 0,W (wrap .u32 (t0-q-1-1))],[N 5,N 0,N 0,W (wrap .u32 (t1-q-2-1))]] by rw[pf,l,j,o];rfl]
   exact this
def fZ(k:Lk)(i:Nat)(x:Sy)(p:Bool×Bool):List In:=bif cT x.code then pf k i x p else bif x.code==5 then[⟨5,0,0,wrap .u32 (kh k i x.t-yK k i-1)⟩]else[⟨x.code,0,0,x.k⟩]
def aix(k:Lk)(a:Vj k)(n:∀(i:Nat)(x:Sy),k.l[i]?=some x->(x.code==5)=true->MG k i x.t/\MG k i x.f)(i:Nat)(x:Sy)(b:k.l[i]?=some x)(p:Bool×Bool)(l:k.cG[i]?=some p):
  ak 121 [.az 0 0,vN i] (lb k) [vL 4 ((fZ k i x p).map In.row)] (lb k):=by
 have u:=a.len;have o:=a.pl;have t:i<k.l.length:=(aE.1 b).1;have q:=Ld a (i:=i) (by omega)
 have pl:(mu k.place).length=k.l.length:=by simp[mu,o]
 apply aib;rw[pl];refine⟨x.label,x.t,x.f,x.code,x.k,by omega,aP b,_,S0 x.code,ad (fun h=>⟨_,aiw k a i x b h p l,aZ (by rw[fZ,h];rfl)⟩) fun h=>ad (fun d=>?_) fun d=>aZ (by rw[fZ,h,d];rfl)⟩
 obtain⟨j,m⟩:=n i x b d;have s:=AL a j;have c:=Zl k i x (by omega) b j m
 have e:(fZ k i x p).map In.row=[[N 5,N 0,N 0,W (wrap .u32 (kh k i x.t-yK k i-1))]]:=by rw[fZ,h,d];rfl
 rw[e];have r:=FR (k:=k) (i:=i) (by omega)
 have f:aq (kh k i x.t-yK k i):=au;have g:aq (kh k i x.t-yK k i-1):=au;exact⟨⟨_,_,c,_,⟨by omega,by omega⟩,rfl,⟨by omega,by omega⟩,_,r,f,g,fi⟩,⟨_,_,c,_,⟨by omega,by omega⟩,rfl,⟨by omega,by omega⟩,_,r,f,g,fi⟩,⟨by omega,by omega⟩,⟨_,_,c,_,⟨by omega,by omega⟩,rfl,_,r,f,g,fi⟩,⟨_,r,_,_,c,_,⟨by omega,by omega⟩,rfl,f,g,fi⟩⟩
def Ie:∀{l:List Lb}{y:Lb},y∈AJ x l->y=x\/y∈l
 |[],y,h=>by simp[AJ]at h;exact .inl h
 |z::l,y,h=>by
  unfold AJ at h;cases hk:x.1==z.1<;>rw[hk]at h
  .rw[af]at h
   rcases aY.1 h with rfl|h
   .exact .inr aW
   .rcases Ie h with h|h
    .exact .inl h
    .exact .inr (aV _ h)
  .rw[ai]at h
   rcases aY.1 h with rfl|h
   .exact .inl rfl
   .exact .inr (aV _ h)
def Ig:∀(t:List Sy)(i:Int)(m:List Lb),0<=i->(∀y∈m,0<=y.2/\y.2<i)->∀y∈(gD t i m).2,0<=y.2/\y.2<i+t.length
 |[],i,m,c,h,y,a=>by have:=h y a;simp;omega
 |x::t,i,m,c,h,y,a=>by
  unfold gD at a;cases hb:(bif decide (x.label<0)then true else(mJ m x.label).isSome)<;>rw[hb]at a
  .have:=Ig t (i+1) (bif decide (x.label>0)then AJ (x.label,i) m else m) (by omega) (fun z b=>by
    cases hd:decide (x.label>0)<;>rw[hd]at b
    .have:=h z b;omega
    .rcases Ie b with rfl|b
     .exact⟨c,by show i<i+1;omega⟩
     .have:=h z b;omega) y a
   simp only[aD];omega
  .have:=h y a
   simp only[aD];omega
def AM:∀(t:List Sy)(i:Nat),tr n m t i=true->n>0/\∀(j:Nat)x,t[j]?=some x->ud n m ((i+j:Nat):Int) x=true
 |[],i,h=>⟨aU h,fun j x a=>by simp at a⟩
 |y::t,i,h=>by
  unfold tr at h;cases hb:ud n m i y<;>rw[hb]at h
  .simp at h
  .obtain⟨b,c⟩:=AM t (i+1) h
   refine⟨b,fun j x a=>?_⟩
   cases j with
   |zero=>simp at a;subst a;exact hb
   |succ j=>
    have:=c j x (by simpa using a)
    rw[show i+(j+1)=i+1+j by omega]
    exact this
def Ih(h:(dr l).1=true)(o:k.l=l)(g:k.qP=(dr l).2)(u:k.place.length=l.length):
  (∀(i:Nat)(x:Sy),k.l[i]?=some x->cT x.code=true->MG k i x.t/\MG k i x.f)/\∀(i:Nat)(x:Sy),k.l[i]?=some x->(x.code==5)=true->MG k i x.t/\MG k i x.f:=by
 have p:tr l.length (gD l 0 []).2 l 0=true:=(cn (b:=(gD l 0 []).1) h).2;obtain⟨w,q⟩:=AM l 0 p;have s:=Ig l 0 [] (eA 0) (by simp)
 have g:k.qP=(gD l 0 []).2:=g;have f:∀(i:Nat)(x:Sy)(ct:Int),k.l[i]?=some x->qJ x.code=false->MG k i ct:=by
  intro i x ct a t;have z:i<l.length:=by rw[o]at a;exact(aE.1 a).1
  have d:=q i x (by rw[<-o];exact a)
  rw[cv]at d;have v:(i:Int)+1<l.length:=by
   unfold ud at d;cases hn:(r8 x.code).isSome<;>rw[hn]at d
   .simp at d
   .cases hi:(i:Int)==(l.length:Int)-1
    .have:=gV hi;omega
    .rw[hi,t]at d;simp at d
  unfold MG iz;rw[u,g];cases hl0:ct==0
  .cases hg:mJ (gD l 0 []).2 ct with
   |none=>exact⟨by simp,by simp;omega⟩
   |some y=>
    have:=s y (mB hg);exact⟨this.1,by show y.2<_;omega⟩
  .exact⟨by show 0<=(i:Int)+1;omega,v⟩
 have n:∀c,cT c=true->qJ c=false:=by
  intro c e;unfold qJ;cases h6:c==6
  .cases h22:c==22
   .rfl
   .rw[bZ h22]at e;simp[cT]at e
  .rw[bZ h6]at e;simp[cT]at e
 exact⟨fun i x a m=>⟨f i x _ a (n _ m),f i x _ a (n _ m)⟩,fun i x a j=>⟨f i x _ a (by rw[bZ j];rfl),f i x _ a (by rw[bZ j];rfl)⟩⟩
def cntF:List (Bool×Bool)->Nat
 |[]=>0
 |p::t=>(bif p.1 then 0 else 1)+(bif p.2 then 0 else 1)+cntF t
def pg(k:Lk):∀(t:List Sy)(q:List (Bool×Bool))(i:Nat)(more:Bool),cntF (mK k t q i more).1<=cntF q/\((mK k t q i more).2=true->more=true\/cntF (mK k t q i more).1<cntF q)/\(mK k t q i more).1.length=q.length
 |[],q,i,more=>⟨ar _,fun h=>.inl h,rfl⟩
 |x::t,[],i,more=>⟨ar _,fun h=>.inl h,rfl⟩
 |x::t,p::q,i,more=>by
  obtain⟨a,b⟩:=p;rw[mK];cases cT x.code
  .obtain⟨d,c,e⟩:=pg k t q (i+1) more
   refine⟨by simp only[km,ai,cntF];omega,fun h=>?_,by simp only[km,ai,aD,e]⟩
   rcases c h with h|h
   .exact .inl h
   .exact .inr (by simp only[km,ai,cntF];omega)
  .simp only[eB,af]
   have f:∀j,ig k i j true=false:=fun _=>rfl
   obtain⟨d,c,e⟩:=pg k t q (i+1) (bif ig k i (kh k i x.f) b then true else bif ig k i (kh k i x.t) a then true else more);refine⟨?_,fun h=>?_,by simp only[aD,e]⟩
   .revert d
    generalize mK k t q (i+1) _=r;intro d;cases a<;>cases b<;>cases ig k i (kh k i x.t) false<;>cases ig k i (kh k i x.f) false<;>simp only[f,cntF,ai,af]<;>omega
   .have g:=c h
    clear c h e;revert d g
    generalize mK k t q (i+1) _=r;cases a<;>cases b<;>cases ig k i (kh k i x.t) false<;>cases ig k i (kh k i x.f) false<;>simp only[f,cntF,ai,af]<;>intro d c<;>first|exact .inr (by omega)|exact c.imp id (fun h=>by omega)
def xJ:Nat->Lk->Lk
 |0,k=>k
 |n+1,k=>bif(gq k).2 then xJ n (gq k).1 else(gq k).1
def dL(k:Lk):List Sy->List (Bool×Bool)->Nat->List In
 |x::t,p::q,i=>fZ k i x p++dL k t q (i+1)
 |_,_,_=>[]
def oH(l:List Sy):Lk:=⟨l,(dr l).2,replicate l.length 0,replicate l.length (false,false)⟩
def fR(l:List Sy):Lk:=xJ (2*l.length+1) (oH l)
def vG(l:List Sy):List In:=dL (fR l) l (fR l).cG 0
def gK(l:List Sy):List In×Int:=bif !(dr l).1 then([],1)else bif decide ((l.length:Int)>4096)then([],9)else bif decide (((vG l).length:Int)>4096)then([],9)else(vG l,0)
def FT:∀(l:List (Bool×Bool)),cntF l<=2*l.length
 |[]=>ar _
 |(a,b)::t=>by
  have:=FT t;cases a<;>cases b<;>simp only[cntF,ai,af,aD]<;>omega
structure ZZ (l:List Sy) (k:Lk):Prop where
 sl:k.l=l
 qP:k.qP=(dr l).2
 pl:k.place.length=l.length
 fl:k.cG.length=l.length
def MI(c:(dr l).1=true)(b:l.length<=2^30)(h:ZZ l k):Vj (nC k):=by
 have a:(nC k).place.length=l.length:=(w7 k.cG 0).trans h.fl;refine⟨a.trans (by rw[<-h.sl];rfl),h.fl.trans (by rw[<-h.sl];rfl),by show k.l.length<=_;rw[h.sl];exact b,fun v d=>?_,(Ih c (k:=nC k) h.sl h.qP a).1⟩
 have:=AK k.cG 0 v d;have e:=h.fl;omega
def OO(h:ZZ l k):ZZ l (gq k).1:=⟨h.sl,h.qP,(w7 k.cG 0).trans h.fl,(pg (nC k) k.l k.cG 0 false).2.2.trans h.fl⟩
def Lf(c:(dr l).1=true)(b:l.length<=2^30)(h:ZZ l k):Vj (gq k).1:=by
 have a:=MI c b h;exact⟨a.pl,(pg (nC k) k.l k.cG 0 false).2.2.trans a.fl,a.len,a.bd,a.jmp⟩
def CR(c:List In):List AV:=bif decide ((c.length:Int)>4096)then[vL 4 [],vN 9]else[.own 0 0 4 (c.map In.row),vN 0]
def S3(v:l.length<=4096)(o:(dr l).1=true)(h:ZZ l k)(m:Vj k):∀(t:List Sy)(q:List (Bool×Bool))(i:Nat)(d:List In),l.drop i=t->k.cG.drop i=q->i+t.length=l.length->d.length<=3*i ->
  Lp f84 1 (MC (d.map In.row) l.length i (k.l.map Sy.row) (Lc k.qP) (mu k.place) (kR k.cG)) 0 (CR (d++dL k t q i)) []
 |[],q,i,d,f,g,j,n=>by
  apply WM;rw[al];refine aQ (l:=l) rfl f ?_;rw[show dL k [] q i=[] by cases q<;>rfl,fr]
  exact ad (fun h=>aZ (by rw[CR,h];rfl)) fun h=>aZ (by rw[CR,h];rfl)
 |x::t,[],i,d,f,g,j,n=>by
  have:=lj g;have:=h.fl;simp at j;omega
 |x::t,p::q,i,d,f,g,j,n=>by
  obtain⟨s,u,z⟩:=bM f;obtain⟨w,y,r⟩:=bM g;simp only[aD]at j;have c:=aix k m (Ih o h.sl h.qP h.pl).2 i x (by rw[h.sl];exact s) p w
  have hlen:(fZ k i x p).length<=3:=by
   unfold fZ pf;obtain⟨a,b⟩:=p;cases cT x.code
   .cases x.code==5<;>simp
   .cases a<;>cases b<;>simp
  have e:d.map In.row++(fZ k i x p).map In.row=(d++fZ k i x p).map In.row:=by rw[bN]
  apply WM;refine aL (l:=l) rfl f ⟨_,c,?_⟩;rw[e];refine⟨by simp;omega,au,?_⟩
  have:=S3 v o h m t q (i+1) (d++fZ k i x p) u y (by omega) (by simp;omega)
  rw[dL,<-bq];exact this
def S5(d:l.length<=4096)(b:(dr l).1=true):∀(n:Nat)(k:Lk),ZZ l k->cntF k.cG<n ->
  Lp f84 0 (MB (l.map Sy.row) (k.l.map Sy.row) (Lc k.qP) (mu k.place) (kR k.cG)) 0 (CR (dL (xJ n k) l (xJ n k).cG 0)) []
 |0,k,h,e=>absurd e (jq _)
 |n+1,k,h,e=>by
  have i:=MI b (by omega) h
  have c:=aiv k (h.pl.trans (by rw[h.sl])) (h.fl.trans (by rw[h.sl])) (by rw[h.sl];omega) i
  have f:=OO h;have g:=(pg (nC k) k.l k.cG 0 false).2.1;apply ab5;refine⟨_,_,_,c,ad (fun a=>?_) fun a=>?_⟩
  .have j:cntF (gq k).1.cG<cntF k.cG:=by
    rcases g a with h|h
    .simp at h
    .exact h
   rw[xJ,a];exact S5 d b n (gq k).1 f (by omega)
  .rw[xJ,a]
   have:=S3 d b f (Lf b (by omega) h) l (gq k).1.cG 0 [] rfl rfl (by simp) (by simp)
   rw[al];exact this
def C84(l:List Sy)(g:l.length<=2^40):ak 84 [vL 5 (l.map Sy.row)] [] [vL 4 ((gK l).1.map In.row),vN (gK l).2] []:=by
 have f:(l.map Sy.row).length=l.length:=al ..;have d:(replicate (toNat (l.length:Int)) [N 0]:Rw)=mu (replicate l.length 0):=by simp[mu]
 have e:(replicate (toNat (l.length:Int)) [B false,B false]:Rw)=kR (replicate l.length (false,false)):=by simp[kR]
 have c:=aiu ⟨l,[],replicate l.length 0,replicate l.length (false,false)⟩ (by show l.length<=_;omega) rfl
 have w:ak 84 [vL 5 (l.map Sy.row)] [] (bif !(dr l).1 then[vL 4 [],vN 1]else bif decide ((l.length:Int)>4096)then[vL 4 [],vN 9]else CR (vG l)) []:=by
  apply W84;rw[f,d,e];refine⟨rfl,by omega,by omega,rfl,by omega,by omega,_,_,c,ad (fun h=>aZ (by rw[h];rfl)) fun h=>ad (fun a=>aZ (by rw[h,a];rfl)) fun a=>?_⟩
  rw[h,a];have b:=bI a;have:=S5 (l:=l) (by omega) (by simpa using h) (2*l.length+1) (oH l) ⟨rfl,rfl,by simp[oH],by simp[oH]⟩ (by have:=FT (oH l).cG;simp[oH]at this⊢; omega)
  exact this
 rw[gK];cases h1 : !(dr l).1<;>rw[h1]at w
 .cases a:decide ((l.length:Int)>4096)<;>rw[a]at w
  .unfold CR at w
   cases b:decide (((vG l).length:Int)>4096)<;>rw[b]at w
   .exact Go.Ac.ak.soft w rfl
   .exact w
  .exact w
 .exact w
abbrev MJ(a b:Rw)(c d:Int)r h:=Lp f32 0 ⟨aO 47 [(3,.own 0 0 1 a),(7,vL 4 b),(8,vN c),(9,vN d)],[some 0],[]⟩ 0 r h
abbrev Ii(a b:Rw)(c d e f g i j:Int)r h:=Lp f32 1 ⟨aO 47 [(3,.own 0 0 1 a),(5,.az 0 0),(7,vL 4 b),(8,vN c),(9,vN d),(32,vN e)],[some 0],[.aH [vN f,vN g,vN i,vW j]]⟩ 0 r h
def A32:df:={an:=[(4,1,ah),(5,1,ah)],cut:=[(3,{bl:=[3,7,8,9],cN:=[(3,1)],owns:=[3]}),(9,{bl:=[3,5,7,8,9,32],cN:=[(3,1)],owns:=[3]})]}
def W32(H:MJ [] a (a.length:Int) 0 r h):
  ak 32 [vL 4 a] [] r h:=.of func32 A32 H
def WR(b f:Rw)(H:bP (c<g) (zz f c fun a d e i=>cb 57 [.agg [N a,N d,N e,W i]] [] fun j=>aI (!j) (Fi r h [vL 1 []] [])
 (0<=(8:Int)/\(b++([[Y (wrap .u8 a)],[Y (wrap .u8 (fdiv a (2^(min (toNat 8) (IntKind.bits .i64)))))],[Y (wrap .u8 d)],[Y (wrap .u8 e)]]:Rw)).length*1<=2^47/\Ii (b++([[Y (wrap .u8 a)],[Y (wrap .u8 (fdiv a (2^(min (toNat 8) (IntKind.bits .i64)))))],[Y (wrap .u8 d)],[Y (wrap .u8 e)]]:Rw)) f g c 0 a d e i r h))
 (Fi r h [.own 0 0 1 b] [])):
  MJ b f g c r h:=.of A32 H
def WS(b e:Rw)(H:bP (a<4) (aq ((8:Int)*a)/\0<=((8:Int)*a)/\(b++([[Y (wrap .u8 (fdiv d (2^(min (toNat ((8:Int)*a)) (IntKind.bits .u32)))))]]:Rw)).length*1<=2^47/\aq (a+1)/\Ii (b++([[Y (wrap .u8 (fdiv d (2^(min (toNat ((8:Int)*a)) (IntKind.bits .u32)))))]]:Rw)) e f c (a+1) g i j d r h)
 (aq (c+1)/\MJ b e f (c+1) r h)):
  Ii b e f c a g i j d r h:=.of A32 H
abbrev MK(a b:Rw)r h:=Lp f33 0 ⟨aO 57 [(0,vL 1 a),(4,.own 0 0 4 b)],[some 0],[]⟩ 0 r h
abbrev Ij(a b:Rw)(c d e f g:Int)r h:=Lp f33 1 ⟨aO 57 [(0,vL 1 a),(4,.own 0 0 4 b),(5,.az 0 0),(35,vN c)],[some 0],[.aH [vN d,vN e,vN f,vW g]]⟩ 0 r h
def A33:df:={an:=[(6,2,ah),(6,6,ah),(6,12,ah),(6,16,ah),(10,6,ah)],cut:=[(4,{bl:=[0,4],cN:=[(4,4)],owns:=[4]}),(8,{bl:=[0,4,5,35],cN:=[(4,4)],owns:=[4]})]}
def W33(H:(8:Int)≠0/\aI ((tmod (a.length:Int) 8) !=0) (Fi r h [vL 4 [],vN 2] [])
 (MK a [] r h)):
  ak 33 [vL 1 a] [] r h:=.of func33 A33 H
def aca(H:bP ((a.length:Int)>0) (Pv a 0 fun c=>Pv a 1 fun d=>0<=(8:Int)/\Pv a 2 fun e=>Pv a 3 fun f=>Ij a b 0 (cf .or .i64 (wrap .i64 c) (wrap .i64 ((wrap .i64 d)*2^(min (toNat 8) (IntKind.bits .i64))))) (wrap .i64 e) (wrap .i64 f) 0 r h)
 (Fi r h [.own 0 0 4 b,vN 0] [])):
  MK a b r h:=.of A33 H
def WT(H:bP (a<4) (aq ((4:Int)+a)/\Pv b ((4:Int)+a) fun i=>aq ((8:Int)*a)/\0<=((8:Int)*a)/\aq (a+1)/\Ij b c (a+1) d e f (cf .or .u32 g (wrap .u32 ((wrap .u32 i)*2^(min (toNat ((8:Int)*a)) (IntKind.bits .u32))))) r h)
 ((c++([[N d,N e,N f,W g]]:Rw)).length*32<=2^47/\(0<=(8:Int)/\(8:Int)<=(b.length:Int)/\(b.length:Int)<=(b.length:Int))/\MK (drop 8 (take b.length b)) (c++([[N d,N e,N f,W g]]:Rw)) r h)):
  Ij b c a d e f g r h:=.of A33 H
def W57(H:Fi r h [vB (bif(bif(bif(bif(bif(decide (a>=0))then(decide (a<=65535))else false)then(decide (b>=0))else false)then(decide (b<=255))else false)then(decide (c>=0))else false)then(decide (c<=255))else false)] []):
  ak 57 [.agg [N a,N b,N c,W d]] [] r h:=.of func57 {an:=[(1,4,aa),(1,5,aa),(1,6,aa),(1,9,aa),(1,10,aa),(1,11,aa),(1,14,aa),(1,15,aa),(1,16,aa),(1,19,aa),(1,20,aa),(1,21,aa),(1,24,aa),(1,25,aa),(1,26,aa)]} H
abbrev ML(x:In):AV:=.agg [N x.code,N x.jt,N x.jf,W x.k]
def jS(x:In):Bool:=(bif(bif(bif(bif(bif(decide (x.code>=0))then(decide (x.code<=65535))else false)then(decide (x.jt>=0))else false)then(decide (x.jt<=255))else false)then(decide (x.jf>=0))else false)then(decide (x.jf<=255))else false)
def C57(x:In):ak 57 [ML x] [] [vB (jS x)] []:=by apply W57;exact fi
def FU(c:Int):Bool:=bif(c==2)then true else(c==3)
def acb(c:Int):ak 126 [vN c] [] [vB (FU c)] []:=aip c fi
def AN(c:Int):Bool:=bif(c==96)then true else(c==97)
def C86(c:Int):ak 86 [vN c] [] [vB (AN c)] []:=W86 c fi
def ya(x:In):Bool:=bif x.code==32 then(bif(tmod x.k 4)==0 then decide (x.k<=60)else false)else bif FU x.code then decide (x.k<16)else bif AN x.code then decide (x.k<16)else
 bif x.code==52 then(x.k !=0)else bif(bif(x.code==100)then true else(x.code==116))then decide (x.k<32)else true
def aiB(x:In):ak 123 [ML x] [] [vB (ya x)] []:=by
 apply aim;exact ad (fun h=>⟨by omega,aZ (by rw[ya,h];rfl)⟩) fun a=>⟨_,acb _,ad (fun h=>aZ (by rw[ya,a,h];rfl)) fun b=>⟨_,C86 _,ad (fun h=>aZ (by rw[ya,a,b,h];rfl)) fun c=>
  ad (fun h=>aZ (by rw[ya,a,b,c,h];rfl)) fun d=>ad (fun h=>aZ (by rw[ya,a,b,c,d,h];rfl)) fun h=>aZ (by rw[ya,a,b,c,d,h];rfl)⟩⟩
def gd(x:In)(a:Int):List Int:=bif qJ x.code then[]else bif x.code==5 then[a+1+x.k]else bif cT x.code then[a+1+x.jt,a+1+x.jf]else[a+1]
structure OP (x:In):Prop where
 k:0<=x.k/\x.k<4294967296
 jt : -4611686018427387904<=x.jt/\x.jt<=4611686018427387904
 jf : -4611686018427387904<=x.jf/\x.jf<=4611686018427387904
def C87(x:In)(a:Int)(c:OP x)(e:0<=a/\a<=2^40):ak 87 [ML x,vN a] [] [vL 1 (mu (gd x a))] []:=by
 obtain⟨f,g⟩:=c.k;obtain⟨i,t2⟩:=c.jt;obtain⟨f1,f2⟩:=c.jf;apply W87;rw[om (n:=x.k) (by omega) (by omega)]
 exact⟨_,Zk _,ad (fun h=>aZ (by rw[gd,h];rfl)) fun b=>ad (fun h=>⟨au,au,aZ (by rw[gd,b,h];rfl)⟩) fun d=>⟨_,S0 _,ad
  (fun h=>⟨au,au,au,au,aZ (by rw[gd,b,d,h];rfl)⟩) fun h=>⟨au,aZ (by rw[gd,b,d,h];rfl)⟩⟩⟩
def gT(l:List In)(a:Int)(x:In):Bool:=bif !(r8 x.code).isSome then false else bif !jS x then false else bif !ya x then false else
 bif(bif a==(l.length:Int)-1 then !qJ x.code else false)then false else(gd x a).all fun n => !decide (n>=(l.length:Int))
def C85(l:List In)(i:Nat)(x:In)(s:l.length<=2^30)(k:l[i]?=some x)(o:OP x):ak 85 [vL 4 (l.map In.row),vN i] [] [vB (gT l i x)] []:=by
 have q:i<l.length:=(aE.1 k).1;have m:(l.map In.row).length=l.length:=al ..;have g:=C87 x i o ⟨by omega,by omega⟩
 have u:(gd x i).length<=2:=by
  unfold gd;cases qJ x.code
  .cases x.code==5
   .cases cT x.code<;>simp
   .simp
  .simp
 have key:∀(t:List Int)(j:Nat),(gd x i).drop j=t->Ib (l.map In.row) (mu (gd x i)) (mu (gd x i)).length j [vB (t.all fun n => !decide (n>=(l.length:Int)))] []:=by
  intro t;induction t with
  |nil=>intro j e;apply WQ;exact aQ (l:=gd x i) (by simp[mu]) e fi
  |cons n t p=>
   intro j e;obtain⟨a,b,c⟩:=bM e;apply WQ;refine aL (l:=gd x i) (by simp[mu]) e ⟨n,by omega,aP (f:=fun n=>[N n]) a,?_⟩
   rw[m,bJ];exact ad (fun h=>aZ (by rw[h];rfl)) fun h=>⟨au,by rw[h];exact p (j+1) b⟩
 apply W85;refine⟨x.code,x.jt,x.jf,x.k,by omega,aP k,_,_,ab9 x.code,ad (fun h=>aZ (by rw[gT,h];rfl)) fun a=>⟨_,C57 x,ad (fun h=>aZ (by rw[gT,a,h];rfl)) fun b=>⟨_,aiB x,ad (fun h=>aZ (by rw[gT,a,b,h];rfl)) fun c=>?_⟩⟩⟩
 rw[m];refine⟨au,ad (fun d=>⟨_,Zk x.code,ad (fun h=>aZ (by rw[gT,a,b,c,d,h];rfl)) fun h=>⟨_,g,?_⟩⟩) fun d=>⟨_,g,?_⟩⟩
 .rw[gT,a,b,c,d,h];exact key _ 0 rfl
 .rw[gT,a,b,c,d];exact key _ 0 rfl
abbrev Ik(a:Rw)(b c d e f g i j k l m n o p q s t u v:Int)r h:=Lp f34 0 ⟨aO 39 [(0,vL 1 a),(2,.az 0 0),(4,.az 1 0),(22,vN b)],[],[K1 c d e f g i j k l,K1 m n o p q s t u v]⟩ 0 r h
def A34:df:={an:=[(3,2,ah),(3,6,ah),(3,10,ah),(7,9,ah)],cut:=[(5,{bl:=[0,2,4,22]})]}
def W34(a:Rw)(H:aI ((a.length:Int) !=64) (Fi r h [.agg [W 0,W 0,U 0,U 0,U 0,U 0,U 0,U 0,U 0],vN 2] [])
 ((0<=(0:Int)/\(0:Int)<=4/\(4:Int)<=(a.length:Int))/\Ke 58 [vL 1 (drop 0 (take 4 a))] [] fun b=>(0<=(4:Int)/\(4:Int)<=8/\(8:Int)<=(a.length:Int))/\Ke 58 [vL 1 (drop 4 (take 8 a))] [] fun c=>(0<=(8:Int)/\(8:Int)<=16/\(16:Int)<=(a.length:Int))/\Ke 58 [vL 1 (drop 8 (take 16 a))] [] fun d=>Ik a 0 0 0 0 0 0 0 0 0 0 (wrap .u32 b) (wrap .u32 c) d 0 0 0 0 0 0 r h)):
  ak 34 [vL 1 a] [] r h:=.of func34 A34 H
def WU(e:Rw)(H:bP (a<6) (aq ((8:Int)*a)/\aq ((16:Int)+((8:Int)*a))/\aq ((8:Int)*a)/\aq ((24:Int)+((8:Int)*a))/\(0<=((16:Int)+((8:Int)*a))/\((16:Int)+((8:Int)*a))<=((24:Int)+((8:Int)*a))/\((24:Int)+((8:Int)*a))<=(e.length:Int))/\Ke 58 [vL 1 (drop (toNat ((16:Int)+((8:Int)*a))) (take (toNat ((24:Int)+((8:Int)*a))) e))] [] fun G=>(0<=a/\a<6)/\∃w x y z D E,0<1/\putAt ([vW b,vW c,vU d,vU f,vU g,vU i,vU j,vU k,vU l]:List AV) (3+toNat a*1+0) [vU G]=[vW b,vW c,vU d,vU w,vU x,vU y,vU z,vU D,vU E]/\aq (a+1)/\Ik e (a+1) m n o p q s t u v b c d w x y z D E r h)
 (Fi r h [.agg [W b,W c,U d,U f,U g,U i,U j,U k,U l],vN 0] [])):
  Ik e a m n o p q s t u v b c d f g i j k l r h:=.of A34 H
abbrev MM(a:Int)(b:Rw)(c d:Int)r h:=Lp f58 0 ⟨aO 22 [(3,vU a),(6,vL 1 b),(7,vN c),(8,vN d)],[],[]⟩ 0 r h
def A58:df:={an:=[(4,2,ah)],cut:=[(3,{bl:=[3,6,7,8]})]}
def W58(H:MM 0 a (a.length:Int) 0 r h):
  ak 58 [vL 1 a] [] r h:=.of func58 A58 H
def WV(H:bP (a<d) (Pv c a fun e=>aq ((8:Int)*a)/\0<=((8:Int)*a)/\aq (a+1)/\MM (cf .or .u64 b (wrap .u64 ((wrap .u64 e)*2^(min (toNat ((8:Int)*a)) (IntKind.bits .u64))))) c d (a+1) r h)
 (Fi r h [vU b] [])):
  MM b c d a r h:=.of A58 H
def aiC(c d e f g i j k l a:Int)(H:(4:Int)≠0/\aI (bif((tmod a 4) !=0)then true else(decide (a>60))) (Fi r h [vW 0,vB false] [])
 (∃b,ak 177 [.agg [W c,W d,U e,U f,U g,U i,U j,U k,U l]] [] [vL 1 b] []/\(0<=a/\a<=(wrap .u32 (a+4))/\(wrap .u32 (a+4))<=(b.length:Int))/\∃m,ak 58 [vL 1 (drop (toNat a) (take (toNat (wrap .u32 (a+4))) b))] [] [vU m] []/\Fi r h [vW (wrap .u32 m),vB true] [])):
  ak 128 [.agg [W c,W d,U e,U f,U g,U i,U j,U k,U l],vW a] [] r h:=.of func128 {an:=[(1,4,aa),(1,5,aa),(3,1,ah),(3,6,ah)]} H
abbrev AO(a:Rw)(b c d e f g i:Int)r h:=Lp f177 0 ⟨aO 31 [(3,.own 0 0 1 a),(21,.agg [U b,U c,U d,U e,U f,U g]),(22,vN i)],[some 0],[]⟩ 0 r h
def acd:df:={an:=[(1,3,{fz:=true,bF:=true}),(1,7,ah),(2,3,ah),(6,2,ah)],cut:=[(4,{bl:=[3,21,22],cN:=[(3,1)],owns:=[3]})]}
def aiD(H:∃a,ak 242 [vU (wrap .u64 c),vN 4] [] [.own 0 0 1 a] []/\Hb 242 [vU (wrap .u64 d),vN 4] [] fun b=>(a++b).length*1<=2^47/\Hb 242 [vU e,vN 8] [] fun m=>((a++b)++m).length*1<=2^47/\AO ((a++b)++m) f g i j k l 0 r h):
  ak 177 [.agg [W c,W d,U e,U f,U g,U i,U j,U k,U l]] [] r h:=.of func177 acd H
def S6(H:bP (a<6) (∃j,(0<=a/\a<6)/\([U c,U d,U e,U f,U g,U i]:List PV)[toNat a]?=some (U j)/\Hb 242 [vU j,vN 8] [] fun k=>(b++k).length*1<=2^47/\aq (a+1)/\AO (b++k) c d e f g i (a+1) r h)
 (Fi r h [.own 0 0 1 b] [])):
  AO b c d e f g i a r h:=.of acd H
abbrev FV(a:Int)(b:Rw)(c d:Int)r h:=Lp f242 0 ⟨aO 21 [(0,vU a),(5,.own 0 0 1 b),(7,vN c),(8,vN d)],[some 0],[]⟩ 0 r h
def ace:df:={cut:=[(3,{bl:=[0,5,7,8],cN:=[(5,1)],owns:=[5]})]}
def aiE(H:FV a [] b 0 r h):
  ak 242 [vU a,vN b] [] r h:=.of func242 ace H
def S7(c:Rw)(H:bP (a<d) (aq ((8:Int)*a)/\0<=((8:Int)*a)/\(c++([[Y (wrap .u8 (fdiv b (2^(min (toNat ((8:Int)*a)) (IntKind.bits .u64)))))]]:Rw)).length*1<=2^47/\aq (a+1)/\FV b (c++([[Y (wrap .u8 (fdiv b (2^(min (toNat ((8:Int)*a)) (IntKind.bits .u64)))))]]:Rw)) d (a+1) r h)
 (Fi r h [.own 0 0 1 c] [])):
  FV b c d a r h:=.of ace H
def gj(l:List Int):Rw:=l.map fun n=>[Y n]
def kB(k:Int)(i:Int):Int:=wrap .u8 (fdiv k (2^(min (toNat ((8:Int)*i)) (IntKind.bits .u32))))
def ij(x:In):List Int:=[wrap .u8 x.code,wrap .u8 (fdiv x.code (2^(min (toNat 8) (IntKind.bits .i64)))),wrap .u8 x.jt,wrap .u8 x.jf,kB x.k 0,kB x.k 1,kB x.k 2,kB x.k 3]
def fm:List In->List Int->Option (List Int)
 |[],a=>some a
 |x::t,a=>bif !jS x then none else fm t (a++ij x)
def acf:Option (List Int)->List AV
 |none=>[vL 1 []]
 |some l=>[.own 0 0 1 (gj l)]
def C32(l:List In)(m:l.length<=2^40):ak 32 [vL 4 (l.map In.row)] [] [vL 1 (gj ((fm l []).getD []))] []:=by
 have key:∀(t:List In)(i:Nat)(a:List Int),l.drop i=t->a.length<=8*i->MJ (gj a) (l.map In.row) l.length i (acf (fm t a)) []:=by
  intro t;induction t with
  |nil=>intro i a b _;apply WR;exact aQ (l:=l) rfl b fi
  |cons x t j=>
   intro i a b o;obtain⟨f,g,k⟩:=bM b;have one:∀(z:List Int)(n:Int),gj z++([[Y n]]:Rw)=gj (z++[n]):=fun z n=>by simp[gj]
   have hlen:∀z:List Int,(gj z).length=z.length:=fun z=>al ..
   apply WR;refine aL (l:=l) rfl b ⟨x.code,x.jt,x.jf,x.k,by omega,aP f,_,C57 x,ad (fun h=>aZ (by rw[fm,h];rfl)) fun h=>⟨by omega,by simp[gj];omega,?_⟩⟩
   rw[fm,h];have c:∀(s:Nat)(z:List Int){r:List AV}{d:List Bx},s<4->z.length<=8*i+8->Ii (gj (z++[kB x.k s])) (l.map In.row) l.length i ((s:Int)+1) x.code x.jt x.jf x.k r d->Ii (gj z) (l.map In.row) l.length i s x.code x.jt x.jf x.k r d:=by
    intro s z r d p q K;apply WS;refine bj (bw (by omega)) ⟨au,by omega,by simp[gj];omega,au,?_⟩
    rw[show wrap .u8 (fdiv x.k (2^(min (toNat ((8:Int)*(s:Int))) (IntKind.bits .u32))))=kB x.k s from rfl,one]
    exact K
   have e:gj a++([[Y (wrap .u8 x.code)],[Y (wrap .u8 (fdiv x.code (2^(min (toNat 8) (IntKind.bits .i64)))))],[Y (wrap .u8 x.jt)],[Y (wrap .u8 x.jf)]]:Rw)=gj (a++[wrap .u8 x.code,wrap .u8 (fdiv x.code (2^(min (toNat 8) (IntKind.bits .i64)))),wrap .u8 x.jt,wrap .u8 x.jf]):=by simp[gj]
   rw[e];refine c 0 _ (by omega) (by simp;omega) (c 1 _ (by omega) (by simp;omega) (c 2 _ (by omega) (by simp;omega) (c 3 _ (by omega) (by simp;omega) ?_)))
   apply WS;refine aw rfl ⟨au,?_⟩;have:=j (i+1) (a++ij x) g (by simp[ij];omega)
   rw[show a++ij x=a++[wrap .u8 x.code,wrap .u8 (fdiv x.code (2^(min (toNat 8) (IntKind.bits .i64)))),wrap .u8 x.jt,wrap .u8 x.jf]++[kB x.k (0:Nat)]++[kB x.k (1:Nat)]++[kB x.k (2:Nat)]++[kB x.k (3:Nat)] by simp[ij]]at this⊢
   exact this
 have w:ak 32 [vL 4 (l.map In.row)] [] (acf (fm l [])) []:=by
  apply W32;rw[al];exact key l 0 [] rfl (by simp)
 cases hb:fm l []with
 |none=>rw[hb]at w;exact w
 |some z=>rw[hb]at w;exact Go.Ac.ak.soft w rfl
def Il:List Int->Nat->Int->Int
 |[],_,n=>n
 |x::t,i,n=>Il t (i+1) (cf .or .u64 n (wrap .u64 ((wrap .u64 x)*2^(min (toNat ((8:Int)*i)) (IntKind.bits .u64)))))
def kS(b:List Int):Int:=Il b 0 0
def C58(b:List Int)(j:b.length<=2^40):ak 58 [vL 1 (gj b)] [] [vU (kS b)] []:=by
 have key:∀(t:List Int)(i:Nat)(n:Int),b.drop i=t->MM n (gj b) b.length i [vU (Il t i n)] []:=by
  intro t;induction t with
  |nil=>intro i n a;apply WV;exact aQ (l:=b) rfl a fi
  |cons x t e=>
   intro i n a;obtain⟨c,d,g⟩:=bM a;apply WV;exact aL (l:=b) rfl a ⟨x,by omega,aP (f:=fun n=>[Y n]) c,au,by omega,au,e (i+1) _ d⟩
 apply W58;rw[show(gj b).length=b.length from al ..]
 exact key b 0 0 rfl
def AP(c x:Int)(i:Int):Int:=cf .or .u32 c (wrap .u32 ((wrap .u32 x)*2^(min (toNat ((8:Int)*i)) (IntKind.bits .u32))))
def Vl(b:List Int):In:=⟨cf .or .i64 (wrap .i64 (b.getD 0 0)) (wrap .i64 ((wrap .i64 (b.getD 1 0))*2^(min (toNat 8) (IntKind.bits .i64)))),wrap .i64 (b.getD 2 0),wrap .i64 (b.getD 3 0),
 AP (AP (AP (AP 0 (b.getD 4 0) 0) (b.getD 5 0) 1) (b.getD 6 0) 2) (b.getD 7 0) 3⟩
def qs:Nat->List Int->List In->List In
 |0,_,a=>a
 |n+1,b,a=>bif decide ((b.length:Int)>0)then qs n (b.drop 8) (a++[Vl b])else a
def Im(b:List Int):List In×Int:=bif(tmod (b.length:Int) 8) !=0 then([],2)else(qs (b.length+1) b [],0)
def w8(h:i<b.length):(gj b)[i]?=some [Y (b.getD i 0)]:=by
 rw[gj,bu,bo h,bR,bo h];rfl
def C33(b:List Int)(m:b.length<=2^40):ak 33 [vL 1 (gj b)] [] [vL 4 ((Im b).1.map In.row),vN (Im b).2] []:=by
 have hlen:∀z:List Int,(gj z).length=z.length:=fun z=>al ..
 have key:∀(n:Nat)(b:List Int)(a:List In),b.length<n->b.length%8=0->b.length+a.length<=2^41->MK (gj b) (a.map In.row) [.own 0 0 4 ((qs n b a).map In.row),vN 0] []:=by
  intro n;induction n with
  |zero=>intro b a h;omega
  |succ n l=>
   intro b a o k p;apply aca;rw[hlen];refine ad (fun h=>?_) fun h=>aZ (by rw[qs,h];rfl)
   have q:=aU h;refine⟨_,by omega,w8 (b:=b) (i:=0) (by omega),_,by omega,w8 (b:=b) (i:=1) (by omega),by omega,_,by omega,w8 (b:=b) (i:=2) (by omega),_,by omega,w8 (b:=b) (i:=3) (by omega),?_⟩
   have d:∀(s:Nat)(c e f g:Int){r:List AV}{j:List Bx},s<4->Ij (gj b) (a.map In.row) ((s:Int)+1) c e f (AP g (b.getD (4+s) 0) s) r j->Ij (gj b) (a.map In.row) s c e f g r j:=by
    intro s c e f g r j t K;apply WT;exact bj (bw (by omega)) ⟨au,b.getD (4+s) 0,by omega,by rw[show toNat ((4:Int)+(s:Int))=4+s by omega];exact w8 (by omega),au,by omega,au,K⟩
   refine d 0 _ _ _ _ (by omega) (d 1 _ _ _ _ (by omega) (d 2 _ _ _ _ (by omega) (d 3 _ _ _ _ (by omega) ?_)))
   apply WT;rw[hlen];refine aw rfl ⟨by simp;omega,⟨by omega,by omega,by omega⟩,?_⟩
   have:=l (b.drop 8) (a++[Vl b]) (by simp;omega) (by simp;omega) (by simp;omega)
   rw[qs,h,ai];rw[bN (l₁:=a) (l₂:=[Vl b])]at this;rw[show drop 8 (take b.length (gj b))=gj (b.drop 8) by rw[dE (by rw[hlen];exact ar _),gj,gj,mV]]
   exact this
 have w:ak 33 [vL 1 (gj b)] [] (bif(tmod (b.length:Int) 8) !=0 then[vL 4 [],vN 2]else[.own 0 0 4 ((qs (b.length+1) b []).map In.row),vN 0]) []:=by
  apply W33;rw[hlen];refine⟨by omega,ad (fun h=>aZ (by rw[h];rfl)) fun h=>?_⟩
  rw[h];have k:b.length%8=0:=by
   rw[pB (by omega)]at h
   simp at h;omega
  exact key (b.length+1) b [] (by omega) k (by simp;omega)
 rw[Im];cases h:(tmod (b.length:Int) 8) !=0<;>rw[h]at w
 .exact Go.Ac.ak.soft w rfl
 .exact w
def AQ(g:α->β)(f:β->β)(h:α->α)(a:∀x,f (g x)=g (h x)):∀(l:List α)(n:Nat),(l.map g).modify n f=(l.modify n h).map g
 |[],n=>by simp
 |x::l,0=>by simp[a]
 |x::l,n+1=>by simp[AQ g f h a l n]
def vH(v:α):∀(l:List α)(n:Nat),l.modify n (fun _=>v)=l.set n v
 |[],n=>by simp
 |x::l,0=>by simp
 |x::l,n+1=>by simp[vH v l n]
def FX(c:List Int)(n:Nat)(v:Int):cF (mu c) n 0 [N v]=mu (c.set n v):=by
 unfold cF mu;rw[AQ (fun n=>[N n]) (fun r=>putAt r 0 [N v]) (fun _=>v) (fun x=>rfl),vH]
def MN(x:In)(s:Int):Int:=bif FU x.code then cf .or .i64 s (wrap .i64 ((1:Int)*2^(min (toNat x.k) (IntKind.bits .i64))))else s
def C88(x:In)(s:Int)(a:OP x):ak 88 [ML x,vN s] [] [vN (MN x s)] []:=by
 have:=a.k;apply W88;exact⟨_,acb x.code,ad (fun h=>⟨by omega,aZ (by rw[MN,h];rfl)⟩) fun h=>aZ (by rw[MN,h];rfl)⟩
def s6(x:In)(s:Int):Bool:=bif AN x.code then(cf .and .i64 (fdiv s (2^(min (toNat x.k) (IntKind.bits .i64)))) 1)==0 else false
def CS(x:In)(i:Nat):List Int->List Int->List Int
 |[],a=>a
 |n::t,a=>CS x i t (a.set n.toNat (cf .and .i64 (a.getD n.toNat 0) (MN x (a.getD i 0))))
def ph(l:List In):List In->Nat->List Int->Int
 |[],_,_ => -1
 |x::t,i,a=>bif !gT l i x then i else bif s6 x (a.getD i 0)then i else ph l t (i+1) (CS x i (gd x i) a)
def qt(n:Nat):List Int:=(replicate n 65535).set 0 0
def Io(l:List In):Bool:=bif((l.length:Int)==0)then true else(decide ((l.length:Int)>4096))
def C59(l:List In):ak 59 [vL 4 (l.map In.row)] [] [vB (Io l)] []:=by
 apply W59;rw[al];exact fi
def jT(l:List In):Int×Bool:=bif Io l then(0,false)else(ph l l 0 (qt l.length),ph l l 0 (qt l.length)== -1)
def CU(x:In)(i:Nat):∀(b a:List Int),(CS x i b a).length=a.length
 |[],a=>rfl
 |n::t,a=>by rw[CS,CU x i t,ft]
def FY{i:Nat}(e:OP x)(h:gT l i x=true):∀n∈gd x i,0<=n/\n<l.length:=by
 have c:jS x=true:=by
  unfold gT at h;cases b : !(r8 x.code).isSome<;>rw[b]at h
  .cases h2:jS x<;>rw[h2]at h
   .simp at h
  .simp at h
 have d:(gd x i).all (fun n => !decide (n>=(l.length:Int)))=true:=by
  unfold gT at h;cases b : !(r8 x.code).isSome<;>rw[b]at h
  .rw[c]at h
   cases h3 : !ya x<;>rw[h3]at h
   .cases h4:(bif((i:Int)==(l.length:Int)-1)then !qJ x.code else false)<;>rw[h4]at h
    .exact h
    .simp at h
   .simp at h
  .simp at h
 intro n a;have b:=bf.1 d n a;refine⟨?_,by simpa using b⟩
 have f:0<=x.jt/\0<=x.jf:=by
  simp[jS,cond_eq_ite]at c;omega
 have:=e.k;unfold gd at a;cases h6:qJ x.code<;>rw[h6]at a
 .cases h5:x.code==5<;>rw[h5]at a
  .cases hjj:cT x.code<;>rw[hjj]at a
   .simp at a;omega
   .simp at a;rcases a with rfl|rfl<;>omega
  .simp at a;omega
 .simp at a
def C60(l:List In)(A:0<l.length)(hl:l.length<=4096)(Q:∀x∈l,OP x):∃o,ak 60 [vL 4 (l.map In.row),vB true] [] [vN (ph l l 0 (qt l.length)),vL 1 o] []:=by
 have H:(l.map In.row).length=l.length:=al ..;have pl:∀c:List Int,(mu c).length=c.length:=fun c=>al ..
 have key:∀(t:List In)(i:Nat)(c:List Int),l.drop i=t->c.length=l.length->∃a,(a = .own 0 0 1 []\/∃o,a=vL 1 o)/\Ia (l.map In.row) true (l.map In.row) l.length i (mu c) [vN (ph l t i c),a] []:=by
  intro t;induction t with
  |nil=>intro i c b _;exact⟨_,.inr ⟨mu c,rfl⟩,by apply ME;exact aQ (l:=l) rfl b fi⟩
  |cons x t z=>
   intro i c b k;obtain⟨d,E,R⟩:=bM b;have g:=Q x (aK d);have v:=C85 l i x (by omega) d g
   cases hr:gT l i x with
   |false=>
    refine⟨_,.inl rfl,?_⟩;apply ME;exact aL (l:=l) rfl b ⟨x.code,x.jt,x.jf,x.k,by omega,aP d,_,v,bj (by rw[hr];rfl) (aZ (by rw[ph,hr];rfl))⟩
   |true=>
    have M:(mu c)[toNat (i:Int)]?=some [N (c.getD i 0)]:=by
     rw[mu,toNat_cast,bu,bo (by omega),bR,bo (by omega)];rfl
    cases hb:s6 x (c.getD i 0)with
    |true=>
     refine⟨_,.inl rfl,?_⟩;have p:AN x.code=true:=by unfold s6 at hb;cases hq:AN x.code<;>rw[hq]at hb<;>simp at hb⊢
     have Y:((cf .and .i64 (fdiv (c.getD i 0) (2^(min (toNat x.k) (IntKind.bits .i64)))) 1)==0)=true:=by unfold s6 at hb;rw[p]at hb;exact hb
     have:=g.k;apply ME;exact aL (l:=l) rfl b ⟨x.code,x.jt,x.jf,x.k,by omega,aP d,_,v,aw (by rw[hr];rfl) (bj rfl ⟨_,C86 x.code,bj p ⟨⟨by omega,by rw[pl];omega⟩,c.getD i 0,by rw[M];rfl,by omega,bj Y (aZ (by rw[ph,hr,hb];rfl))⟩⟩)⟩
    |false=>
     obtain⟨a,y,K⟩:=z (i+1) (CS x i (gd x i) c) E ((CU x i _ c).trans k);refine⟨a,y,?_⟩;have a0:(gd x i).length<=2:=by
      unfold gd;cases qJ x.code
      .cases x.code==5
       .cases cT x.code<;>simp
       .simp
      .simp
     have Z:=FY g hr;have inner:∀(u:List Int)(j:Nat)(c:List Int){r:List AV}{q:List Bx},(gd x i).drop j=u->c.length=l.length->Ia (l.map In.row) true (l.map In.row) l.length ((i:Int)+1) (mu (CS x i u c)) r q ->
       AI (l.map In.row) true i (l.map In.row) l.length i (mu (gd x i)) (gd x i).length j (mu c) x.code x.jt x.jf x.k r q:=by
      intro u;induction u with
      |nil=>intro j c r q s k K;apply WO;exact aQ (l:=gd x i) rfl s ⟨au,K⟩
      |cons n u F=>
       intro j c r q s k K;obtain⟨G,T,j3⟩:=bM s;obtain⟨h,X⟩:=Z n (aK G);have I:∀m:Int,0<=m->m<l.length->((mu c)[toNat m]?).bind (·[0]?)=some (N (c.getD m.toNat 0)):=fun m d E=>by
        rw[mu,bu,bo (by omega),bR,bo (by omega)];rfl
       apply WO;refine aL (l:=gd x i) rfl s ⟨n,by omega,aP (f:=fun n=>[N n]) G,⟨h,by rw[pl];omega⟩,_,I n h X,⟨by omega,by rw[pl];omega⟩,_,I i (by omega) (by omega),_,C88 x _ g,⟨h,by rw[pl];omega⟩,by omega,au,?_⟩
       rw[FX];exact F (j+1) _ T (by rw[ft];exact k) K
     have D:=C87 x i g ⟨by omega,by omega⟩
     have J:AI (l.map In.row) true i (l.map In.row) l.length i (mu (gd x i)) (mu (gd x i)).length 0 (mu c) x.code x.jt x.jf x.k [vN (ph l (x::t) i c),a] []:=by
      rw[pl];refine inner (gd x i) 0 c rfl k ?_;rw[ph,hr,hb];exact K
     have:=g.k;apply ME;refine aL (l:=l) rfl b ⟨x.code,x.jt,x.jf,x.k,by omega,aP d,_,v,aw (by rw[hr];rfl) (bj rfl ⟨_,C86 x.code,ad (fun p=>⟨⟨by omega,by rw[pl];omega⟩,c.getD i 0,by rw[M];rfl,by omega,aw ?_ ⟨_,D,J⟩⟩) fun p=>⟨_,D,J⟩⟩)⟩
     unfold s6 at hb;rw[p]at hb;exact hb
 obtain⟨a,y,K⟩:=key l 0 (qt l.length) rfl (by simp[qt])
 have fill:∀(m i:Nat),i+m=l.length->MD (l.map In.row) true l.length i (mu (replicate i 65535++replicate m 0)) [vN (ph l l 0 (qt l.length)),a] []:=by
  intro m;induction m with
  |zero=>
   intro i b;apply WN;refine aw (bB (by omega)) ⟨⟨by omega,by rw[pl];simp;omega⟩,by omega,?_⟩
   rw[FX,H,List.replicate_zero,fr,show i=l.length by omega]
   exact K
  |succ m z=>
   intro i b;apply WN;refine bj (bw (by omega)) ⟨⟨by omega,by rw[pl];simp;omega⟩,by omega,au,?_⟩
   have:=z (i+1) (by omega)
   rw[FX,toNat_cast];have e:(replicate i (65535:Int)++replicate (m+1) 0).set i 65535=replicate (i+1) 65535++replicate m 0:=by
    rw[List.set_append_right _ _ (by simp),List.length_replicate,lM,List.replicate_succ,List.set_cons_zero,List.replicate_succ',bq]
    rfl
   rw[e];exact this
 have w:ak 60 [vL 4 (l.map In.row),vB true] [] [vN (ph l l 0 (qt l.length)),a] []:=by
  apply W60;rw[H];refine⟨rfl,by omega,by omega,?_⟩
  have:=fill l.length 0 (by omega)
  have e:(replicate (toNat (l.length:Int)) [N 0]:Rw)=mu (replicate 0 65535++replicate l.length 0):=by simp[mu]
  rw[e,pl];simpa using this
 rcases y with rfl|⟨o,rfl⟩
 .exact⟨[],Go.Ac.ak.soft w rfl⟩
 .exact⟨o,w⟩
def C35(l:List In)(b:∀x∈l,OP x):ak 35 [vL 4 (l.map In.row)] [] [vN (jT l).1,vB (jT l).2] []:=by
 apply W35;refine⟨_,C59 l,ad (fun h=>aZ (by rw[jT,h];rfl)) fun h=>?_⟩
 have a:0<l.length/\l.length<=4096:=by
  unfold Io at h;cases h1:(l.length:Int)==0<;>rw[h1]at h
  .have:=bI h
   simp at h1;have:l.length≠0:=fun e=>h1 (ir.1 e)
   omega
  .simp at h
 obtain⟨d,c⟩:=C60 l a.1 a.2 b;exact⟨_,_,c,aZ (by rw[jT,h];rfl)⟩
section
def fI(ct:Int)(l:List Sy):List Sy:=bif ct==0 then l else l.dropWhile fun x=>x.label !=ct
def MO(c:Int):Bool:=bif c==21 then true else bif c==37 then true else c==53
def gE(c a k:Int):Bool:=bif c==21 then a==k else bif c==37 then decide (a>k)else decide (a>=k)
def Ip(a k:Int):Int:=cf .and .u32 a k
inductive BR (wd:Int->Int):List Sy->Int->Int->Nat->Prop
 |ld {x t A v n}:x.code=32->BR wd t (wd x.k) v n->BR wd (x::t) A v (n+1)
 |an {x t A v n}:x.code=84->BR wd t (Ip A x.k) v n->BR wd (x::t) A v (n+1)
 |tx {x t A v n}:x.code=135->BR wd t 0 v n->BR wd (x::t) A v (n+1)
 |rt {x t A}:x.code=6->BR wd (x::t) A x.k 1
 |ja {x t A v n}:x.code=5->BR wd (fI x.t t) A v n->BR wd (x::t) A v (n+1)
 |jp {x t A v n}:MO x.code=true->BR wd (fI (bif gE x.code A x.k then x.t else x.f) t) A v n->BR wd (x::t) A v (n+2)
def r9(wd:Int->Int)(l:List Sy)(v:Int):Prop:=∀A,∃n,BR wd l A v n
variable {wd:Int->Int}
def S8(l:List Sy):fI 0 l=l:=rfl
def nD(b:ct≠0)(h:∀x∈s,x.label≠ct):fI ct (s++a)=fI ct a:=by
 have e:(ct==0)=false:=by simpa using b
 unfold fI;rw[e,af,af];induction s with
 |nil=>rfl
 |cons x s f=>
  have c:(x.label !=ct)=true:=by simpa using h x aW
  rw[dt,List.dropWhile_cons,aG c];exact f fun y d=>h y (aV _ d)
def mR(h:x.label=ct):fI ct (x::t)=x::t:=by
 unfold fI;cases ct==0
 .rw[af,List.dropWhile_cons,aN (by simp[h])]
 .rfl
def Lg(h:Hf):Int:=wrap .u32 (AB h)
def xK(wd:Int->Int)(h:Hf):Int:=bif h.mask !=4294967295 then Ip (wd (Lg h)) h.mask else wd (Lg h)
def OQ(wd:Int->Int)(h:Hf):Bool:=bif qI h.op then !gE (iO h.op) (xK wd h) h.value else gE (iO h.op) (xK wd h) h.value
def Lh(h:Hf)(y n:Int):Sy:=bif qI h.op then⟨0,n,y,iO h.op,h.value⟩else⟨0,y,n,iO h.op,h.value⟩
def B2(ct:Int)(h:Hf)(y n:Int):List Sy:=bif h.mask !=4294967295 then[⟨ct,0,0,32,Lg h⟩,⟨0,0,0,84,h.mask⟩,Lh h y n]else[⟨ct,0,0,32,Lg h⟩,Lh h y n]
def w9(w:Wr)(h:Hf)(y n:Int):testW w h y n={w with l:=w.l++B2 w.label h y n,label:=0}:=by
 unfold testW jw B2 Lh;cases h.mask !=4294967295<;>cases qI h.op<;>simp[fy,Lg]
def CV(op:Int):MO (iO op)=true:=by
 unfold iO;cases op==1<;>cases op==2<;>cases op==5<;>cases op==4<;>rfl
def S9(H:BR wd (fI (bif OQ wd h then y else n) a) (xK wd h) v m):BR wd (Lh h y n::a) (xK wd h) v (m+2):=by
 unfold OQ at H;unfold Lh;cases ht:qI h.op<;>rw[ht]at H
 .exact .jp (CV _) H
 .refine .jp (CV _) ?_
  rw[ai]at H;show BR wd (fI (bif gE (iO h.op) (xK wd h) h.value then n else y) a) _ _ _
  cases hj:gE (iO h.op) (xK wd h) h.value<;>rw[hj]at H<;>exact H
def AR(ct:Int)(H:r9 wd (fI (bif OQ wd h then y else n) b) v):r9 wd (B2 ct h y n++b) v:=by
 intro A;obtain⟨m,c⟩:=H (xK wd h);have a:=S9 c;unfold B2;have e:xK wd h=bif h.mask !=4294967295 then Ip (wd (Lg h)) h.mask else wd (Lg h):=rfl;cases hk:h.mask !=4294967295<;>rw[hk]at e
 .rw[e]at a
  exact⟨_,.ld rfl a⟩
 .rw[e]at a
  exact⟨_,.ld rfl (.an rfl a)⟩
def Hd(ct:Int)(s:List Sy):Prop:=s=[]\/∃x t,s=x::t/\x.label=ct/\∀y∈t,y.label=0
def Hd.mem(h:Hd ct s):∀x∈s,x.label=0\/x.label=ct:=by
 rcases h with rfl|⟨x,t,rfl,b,c⟩
 .simp
 .intro y a
  rcases aY.1 a with rfl|a
  .exact .inr b
  .exact .inl (c y a)
def Hd.app(h:Hd ct s)(e:s≠[])(d:Hd 0 u):Hd ct (s++u):=by
 rcases h with rfl|⟨x,t,rfl,b,c⟩
 .exact(e rfl).elim
 .refine .inr ⟨x,t++u,rfl,b,fun y a=>?_⟩
  rcases bp.1 a with a|a
  .exact c y a
  .rcases d.mem y a with h|h<;>exact h
def Hd.goto(h:Hd ct s)(c:s≠[]):fI ct (s++a)=s++a:=by
 rcases h with rfl|⟨x,t,rfl,b,d⟩
 .exact(c rfl).elim
 .exact mR b
def mL(ct:Int)(h:Hf)(y n:Int):Hd ct (B2 ct h y n)/\B2 ct h y n≠[]:=by
 have a:(Lh h y n).label=0:=by unfold Lh;cases qI h.op<;>rfl
 unfold B2;cases h.mask !=4294967295
 .exact⟨.inr ⟨_,_,rfl,rfl,by simp[a]⟩,by simp⟩
 .exact⟨.inr ⟨_,_,rfl,rfl,by simp[a]⟩,by simp⟩
def nE(n yes no next:Int):Int->List Hf->Int->List Sy
 |_,[],_=>[]
 |ct,h::t,i=>(bif decide (i<n-1)then B2 ct h 0 no else bif no==next then B2 ct h yes 0 else B2 ct h yes no)++nE n yes no next 0 t (i+1)
def Iq(n yes no next:Int):∀(t:List Hf)(i:Int)(w:Wr),tX n yes no next t i w={w with l:=w.l++nE n yes no next w.label t i,label:=bif t.isEmpty then w.label else 0}
 |[],i,w=>by simp[tX,nE]
 |h::t,i,w=>by
  rw[tX,nE,Iq n yes no next t];cases decide (i<n-1)
  .cases no==next
   .simp[w9]
   .simp[w9]
  .simp[w9]
def sa(n yes no next:Int):∀(t:List Hf)(ct i:Int),Hd ct (nE n yes no next ct t i)/\(t≠[]->nE n yes no next ct t i≠[])
 |[],ct,i=>⟨.inl rfl,fun h=>(h rfl).elim⟩
 |h::t,ct,i=>by
  have a:=(sa n yes no next t 0 (i+1)).1;rw[nE];cases decide (i<n-1)
  .cases no==next
   .exact⟨(mL ct h yes no).1.app (mL ct h yes no).2 a,fun _=>by simp[(mL ct h yes no).2]⟩
   .exact⟨(mL ct h yes 0).1.app (mL ct h yes 0).2 a,fun _=>by simp[(mL ct h yes 0).2]⟩
  .exact⟨(mL ct h 0 no).1.app (mL ct h 0 no).2 a,fun _=>by simp[(mL ct h 0 no).2]⟩
def CW(c:no≠0)(d:(no==next)=true->fI no a=a):∀(t:List Hf)(ct i:Int),t≠[]->i+t.length=n ->
  r9 wd (fI (bif t.all (OQ wd)then yes else no) a) v->r9 wd (nE n yes no next ct t i++a) v
 |[],_,_,h,_,_=>(h rfl).elim
 |[h],ct,i,_,b,H=>by
  simp only[aD,cS]at b;rw[nE,nE,bB (by omega),af,fr]
  rw[bJ,mU,Bool.and_true]at H;cases hb:no==next
  .exact AR ct H
  .refine AR ct ?_
   cases hh:OQ wd h<;>rw[hh]at H
   .rw[af,d hb]at H;exact H
   .exact H
 |h::g::t,ct,i,_,b,H=>by
  simp only[aD]at b;rw[nE,bw (by omega),ai,bq]
  refine AR ct ?_;have z:=(sa n yes no next (g::t) 0 (i+1)).1.mem;rw[bJ]at H;cases hh:OQ wd h<;>rw[hh]at H
  .rw[af,nD c fun x f=>by rcases z x f with h|h<;>rw[h]<;>exact fun e=>c e.symm]
   exact H
  .exact CW c d (g::t) 0 (i+1) (by simp) (by simp only[aD];omega) H
def ue(ct:Int)(l:List Hf)(yes no next:Int):List Sy:=(bif(bif(l.length:Int)==0 then yes !=0 else false)then[⟨ct,yes,0,5,0⟩]else[])++nE l.length yes no next ct l 0
def B3(ct:Int)(l:List Hf)(yes:Int):Int:=bif l.isEmpty then(bif yes !=0 then 0 else ct)else 0
def xL(w:Wr)(l:List Hf)(yes no next:Int):dG w l yes no next={w with l:=w.l++ue w.label l yes no next,label:=B3 w.label l yes}:=by
 unfold dG ue B3;rw[Iq];cases l with
 |nil=>cases hy:yes !=0<;>simp[fy,nE]
 |cons h t=>simp;rw[show((t.length:Int)+1==0)=false from by simp;omega];simp
def MP(ct:Int)(l:List Hf)(yes no next:Int):Hd ct (ue ct l yes no next):=by
 unfold ue;cases l with
 |nil=>
  rw[nE,fr];cases yes !=0
  .exact .inl rfl
  .exact .inr ⟨_,_,rfl,rfl,by simp⟩
 |cons h t=>
  rw[show(((h::t).length:Int)==0)=false from by simp only[aD];simp;omega]
  exact(sa _ yes no next (h::t) ct 0).1
def Ir(ct:Int)(c:no≠0)(b:(no==next)=true->fI no a=a)(H:r9 wd (fI (bif l.all (OQ wd)then yes else no) a) v):
  r9 wd (ue ct l yes no next++a) v:=by
 unfold ue;cases l with
 |nil=>
  rw[nE,fr];rw[mU,ai]at H;cases hy:yes !=0
  .have:yes=0:=by simpa using hy
   rw[this]at H;exact H
  .intro A
   obtain⟨n,b⟩:=H A;exact⟨_,.ja rfl b⟩
 |cons h t=>
  rw[show(((h::t).length:Int)==0)=false from by simp only[aD];simp;omega]
  exact CW c b (h::t) ct 0 (by simp) (by simp) H
def Ta(h:B3 ct l yes≠0):ue ct l yes no next=[]/\B3 ct l yes=ct:=by
 unfold B3 at h⊢;unfold ue;cases l with
 |nil=>
  cases hy:yes !=0
  .exact⟨rfl,rfl⟩
  .rw[hy]at h;exact(h rfl).elim
 |cons a t=>exact(h rfl).elim
def FZ(wd:Int->Int)(l:List (List Hf)):Bool:=l.any fun c=>c.all (OQ wd)
abbrev sb(a:Act):Int:=(cg a).1
def vI(w:Wr)(ct:Int):cJ w ct={w with l:=w.l++(bif w.label !=0 then[⟨w.label,0,0,135,0⟩]else[]),label:=ct}:=by
 unfold cJ;cases w.label !=0<;>simp[fy]
def Vm(h:a=bif ct !=0 then[⟨ct,0,0,135,0⟩]else[]):r9 wd (a++⟨b,0,0,6,k⟩::c) k:=by
 intro A;subst h;cases ct !=0
 .exact⟨_,.rt rfl⟩
 .exact⟨_,.tx rfl (.rt rfl)⟩
structure aiF (wd:Int->Int) (s:Sp) (act en:Int) (t:List (List Hf)) (w w':Wr) (CX:List Sy):Prop where
 l:w'.l=w.l++CX
 up:w.aC<=w'.aC
 wD:w'.label=en
 ct:∀x∈CX,x.label=0\/x.label=w.label\/x.label=act\/(w.aC<x.label/\x.label<=w'.aC)
 head:∀rest,fI w.label (CX++rest)=CX++rest
 WX:∀rest,r9 wd (fI act (CX++rest)) (sb s.act)
 yes:FZ wd t=true->∀rest,fI en rest=rest->r9 wd (CX++rest) (sb s.act)
 no:FZ wd t=false->∀rest v,fI en rest=rest->r9 wd rest v->r9 wd (CX++rest) v
def Is(s:Sp)(d f:Int)(q:0<d)(z:0<f)(M:d≠f):∀(t:List (List Hf))(i:Int)(w:Wr),t≠[]->0<=i->i+t.length=s.cl.length->0<=w.label->w.label<=w.aC->w.label≠d->w.label≠f->d<=w.aC->f<=w.aC ->
  ∃K,aiF wd s d f t w (w6 s d f t i w) K
 |[],_,_,h,_,_,_,_,_,_,_,_=>(h rfl).elim
 |[x],i,w,_,a0,G,X,Y,Z,F,R,h5=>by
  simp only[aD,cS]at G;have e:(i==(s.cl.length:Int)-1)=true:=by rw[beq_iff_eq];omega
  rw[w6,e,ai,AD,bw (by omega),ai,xL,vI,nT,vI]
  have m:=MP w.label x 0 f 0;have Q:=Ta (ct:=w.label) (l:=x) (yes:=0) (no:=f) (next:=0);generalize E:ue w.label x 0 f 0=cs at*;generalize r:B3 w.label x 0=lb at*;have p:∀c v,r9 wd (fI (bif x.all (OQ wd)then 0 else f) c) v->r9 wd (cs++c) v:=fun c v H=>by
   rw[<-E];refine Ir w.label (ki z) (fun h=>?_) H
   exact absurd (bZ h) (ki z)
  have I:lb=0\/lb=w.label:=by
   by_cases o:lb=0
   .exact .inl o
   .exact .inr (Q o).2
  have J:∀y∈(bif lb !=0 then[(⟨lb,0,0,135,0⟩:Sy)]else[]),y.label=lb:=by
   cases lb !=0
   .simp
   .simp
  refine⟨cs++((bif lb !=0 then[⟨lb,0,0,135,0⟩]else[])++[⟨d,0,0,6,sb s.act⟩]),?_,?_,rfl,?_,?_,?_,?_,?_⟩
  .simp[fy,dK,E,r]
  .simp[fy,dK];omega
  .intro y b
   rcases bp.1 b with b|b
   .rcases m.mem y b with h|h
    .exact .inl h
    .exact .inr (.inl h)
   .rcases bp.1 b with b|b
    .have:=J y b
     rcases I with h|h
     .exact .inl (this.trans h)
     .exact .inr (.inl (this.trans h))
    .simp at b;subst b;exact .inr (.inr (.inl rfl))
  .intro c
   by_cases o:w.label=0
   .rw[o];rfl
   .by_cases D:cs=[]
    .cases k:lb !=0
     ·
      have k:lb=0:=by simpa using k
      exfalso;rw[<-r]at k;rw[<-E]at D;unfold B3 at k;cases x with
      |nil=>exact o k
      |cons a t=>exact(sa _ _ _ _ (a::t) w.label 0).2 (by simp) (List.append_eq_nil_iff.1 D).2
     .have k:lb≠0:=by simpa using k
      rw[D];exact mR (Q k).2
    .rw[bq];exact m.goto D
  .intro c
   rw[bq,bq,nD (ki q) fun y b=>?_,nD (ki q) fun y b=>?_]
   .show r9 wd (fI d (⟨d,0,0,6,sb s.act⟩::c)) _
    rw[mR (x:=⟨d,0,0,6,sb s.act⟩) rfl];exact fun A=>⟨_,.rt rfl⟩
   .rw[J y b];rcases I with h|h<;>omega
   .rcases m.mem y b with h|h<;>rw[h]<;>omega
  .intro j c n
   rw[bq];refine p _ _ ?_;rw[show x.all (OQ wd)=true by simpa[FZ]using j,ai,S8,bq]
   exact Vm rfl
  .intro j c v n H
   rw[bq];refine p _ _ ?_;rw[show x.all (OQ wd)=false by simpa[FZ]using j,af,nD (ki z) fun y b=>?_,n]
   .exact H
   .rcases bp.1 b with b|b
    .rw[J y b];rcases I with h|h<;>omega
    .simp at b;subst b;exact M
 |x::x2::t,i,w,_,a0,G,X,Y,Z,F,R,h5=>by
  simp only[aD]at G;have e:(i==(s.cl.length:Int)-1)=false:=by rw[gk];omega
  have T:B3 w.label x d=0:=by
   unfold B3;rw[show(d !=0)=true by simp;omega]
   cases x<;>rfl
  have hw:cJ (dG (dK w) x d (w.aC+1) (w.aC+1)) (w.aC+1)=⟨w.l++ue w.label x d (w.aC+1) (w.aC+1),w.aC+1,w.aC+1⟩:=by
   rw[xL,vI];show(⟨_,_,_⟩:Wr)=_
   rw[show B3 (dK w).label x d=0 from T]
   simp[dK]
  rw[w6,e,af,hw];obtain⟨K,h⟩:=Is s d f q z M (x2::t) (i+1) ⟨w.l++ue w.label x d (w.aC+1) (w.aC+1),w.aC+1,w.aC+1⟩ (by simp) (by omega) (by simp only[aD];omega) (by show(0:Int)<=w.aC+1;omega) (eA _) (by show w.aC+1≠d;omega) (by show w.aC+1≠f;omega) (by show d<=w.aC+1;omega) (by show f<=w.aC+1;omega)
  have r:=h.l;have a2:w.aC+1<=_:=h.up;have m:=MP w.label x d (w.aC+1) (w.aC+1);have p:∀c v,fI (w.aC+1) c=c->r9 wd (fI (bif x.all (OQ wd)then d else w.aC+1) c) v->r9 wd (ue w.label x d (w.aC+1) (w.aC+1)++c) v:=fun c v hg H=>Ir w.label (by omega) (fun _=>hg) H
  have a1:ue w.label x d (w.aC+1) (w.aC+1)≠[]:=by
   unfold ue;cases x with
   |nil=>
    rw[show(d !=0)=true by simp;omega]
    simp
   |cons a u=>exact fun hn=>(sa _ _ _ _ (a::u) w.label 0).2 (by simp) (List.append_eq_nil_iff.1 hn).2
  generalize ue w.label x d (w.aC+1) (w.aC+1)=cs at*;refine⟨cs++K,?_,by omega,h.wD,?_,?_,?_,?_,?_⟩
  .rw[r];simp
  .intro y b
   rcases bp.1 b with b|b
   .rcases m.mem y b with h|h
    .exact .inl h
    .exact .inr (.inl h)
   .rcases h.ct y b with g|g|g|g
    .exact .inl g
    .have g:y.label=w.aC+1:=g
     exact .inr (.inr (.inr ⟨by omega,by omega⟩))
    .exact .inr (.inr (.inl g))
    .have g:w.aC+1<y.label/\_:=g
     exact .inr (.inr (.inr ⟨by omega,g.2⟩))
  .intro c
   rw[bq];exact m.goto a1
  .intro c
   rw[bq,nD (ki q) fun y b=>?_]
   .exact h.WX c
   .rcases m.mem y b with h|h<;>rw[h]<;>omega
  .intro j c n
   rw[bq];refine p _ _ (h.head c) ?_;cases hxa:x.all (OQ wd)
   .rw[af,h.head c]
    refine h.yes ?_ c n;unfold FZ at j⊢;rw[kj,hxa,mW]at j;exact j
   .exact h.WX c
  .intro j c v n H
   unfold FZ at j;rw[kj,DW]at j;rw[bq];refine p _ _ (h.head c) ?_;rw[j.1,af,h.head c];exact h.no j.2 c v n H
def fS(wd:Int->Int)(a:Act):List Sp->Act
 |[]=>a
 |s::t=>bif FZ wd s.cl then s.act else fS wd a t
structure aiG (wd:Int->Int) (a:Act) (t:List Sp) (w w':Wr) (CX:List Sy):Prop where
 l:w'.l=w.l++CX
 up:w.aC<=w'.aC
 wD:w'.label=0
 ct:∀x∈CX,x.label=0\/x.label=w.label\/(w.aC<x.label/\x.label<=w'.aC)
 head:∀rest,fI w.label (CX++rest)=CX++rest
 run:∀rest,r9 wd (CX++rest) (sb (fS wd a t))
 one:t=[]->∀rest A,BR wd (CX++rest) A (sb a) 1
def AS(a:Act):∀(t:List Sp)(w:Wr),(∀s∈t,s.cl≠[])->0<=w.label->w.label<=w.aC->∃e,aiG wd a t w (r7 a t w) e
 |[],w,_,f,j=>by
  refine⟨[⟨w.label,0,0,6,sb a⟩],rfl,eA _,rfl,?_,fun c=>mR rfl,fun c A=>⟨_,.rt rfl⟩,fun _ c A=>.rt rfl⟩
  intro x b;simp at b;subst b;exact .inr (.inl rfl)
 |s::t,w,i,f,j=>by
  have m:=i s aW;obtain⟨e,h⟩:=Is (wd:=wd) s (w.aC+1) (w.aC+1+1) (by omega) (by omega) (by omega) s.cl 0 (dK (dK w)) m (eA 0) (by omega) f (by show w.label<=w.aC+1+1;omega) (by show w.label≠w.aC+1;omega) (by show w.label≠w.aC+1+1;omega) (by show w.aC+1<=w.aC+1+1;omega) (eA _)
  rw[r7];have n:CQ w s=w6 s (w.aC+1) (w.aC+1+1) s.cl 0 (dK (dK w)):=rfl;rw[<-n]at h;have o:w.aC+1+1<=(CQ w s).aC:=h.up;obtain⟨p,g⟩:=AS a t (CQ w s) (fun x b=>i x (aV _ b)) (by rw[h.wD];omega) (by rw[h.wD];exact o)
  have q:=g.up;have d:=g.head;rw[h.wD]at d;refine⟨e++p,?_,by omega,g.wD,?_,?_,?_,fun l=>by simp at l⟩
  .rw[g.l,h.l];simp[dK]
  .intro x b
   rcases bp.1 b with b|b
   .rcases h.ct x b with k|k|k|k
    .exact .inl k
    .exact .inr (.inl k)
    .exact .inr (.inr ⟨by omega,by omega⟩)
    .have k:w.aC+1+1<x.label/\_:=k
     exact .inr (.inr ⟨by omega,by omega⟩)
   .rcases g.ct x b with k|k|k
    .exact .inl k
    .rw[h.wD]at k;exact .inr (.inr ⟨by omega,by omega⟩)
    .exact .inr (.inr ⟨by omega,k.2⟩)
  .intro c
   rw[bq];exact h.head _
  .intro c
   rw[bq,fS];cases b:FZ wd s.cl
   .exact h.no b _ _ (d c) (g.run c)
   .exact h.yes b _ (d c)
def fA:List Sn->Int->Int->Prop
 |[],a,b=>a=b
 |x::t,a,b=>x.lo=a/\x.lo<=x.hi/\fA t (x.hi+1) b
def pj:∀{l:List Sn}{a b:Int},fA l a b->a<=b/\∀x∈l,a<=x.lo/\x.hi<b
 |[],a,b,h=>⟨Int.le_of_eq h,by simp⟩
 |x::t,a,b,⟨f,g,d⟩=>by
  obtain⟨i,e⟩:=pj d;refine⟨by omega,fun y c=>?_⟩
  rcases aY.1 c with rfl|c
  .exact⟨by omega,by omega⟩
  .have:=e y c;omega
def uf:∀{p q:List Sn}{a b:Int},fA (p++q) a b->∃m,fA p a m/\fA q m b
 |[],q,a,b,h=>⟨a,rfl,h⟩
 |x::p,q,a,b,⟨c,d,e⟩=>by
  obtain⟨m,f,g⟩:=uf e;exact⟨m,⟨c,d,f⟩,g⟩
structure aiH (wd:Int->Int) (ls:List Sn) (w w':Wr) (CX:List Sy):Prop where
 l:w'.l=w.l++CX
 up:w.aC<=w'.aC
 wD:w'.label=0
 ct:∀x∈CX,x.label=0\/x.label=w.label\/(w.aC<x.label/\x.label<=w'.aC)
 head:∀rest,fI w.label (CX++rest)=CX++rest
 run:∀a b,fA ls a b->∀x∈ls,∀nr,x.lo<=nr->nr<=x.hi->∀rest,∃c,BR wd (CX++rest) nr (sb (fS wd x.act x.steps)) c/\(x.steps=[]->∀D,ls.length<=2^D->c<=1+2*D)
def sc:∀(n:Nat)(l:List Sn)(w:Wr),l≠[]->l.length<=n->(∀x∈l,∀s∈x.steps,s.cl≠[])->0<=w.label->w.label<=w.aC->∃Q,aiH wd l w (fE n l w) Q
 |0,l,w,J,hn,_,_,_=>(J (ir.1 (by omega))).elim
 |n+1,l,w,J,hn,I,R,h1=>by
  rw[fE];cases hd:(l.length:Int)==1
  .have a1:1<=l.length:=by cases l with|nil=>exact(J rfl).elim|cons=>simp
   have a4:=gV hd;have dl:(l.drop (l.length/2)).length=l.length-l.length/2:=gY ..;have Y:(l.take (l.length/2)).length=l.length/2:=by simp;omega
   have e:=uF (l.length/2) l;have H:∃y q,l.drop (l.length/2)=y::q/\l.getD (l.length/2) hH=y:=by
    have A:l.length/2<l.length:=by omega
    exact⟨l[l.length/2],_,uI A,by rw[bR,bo A];rfl⟩
   obtain⟨y,q,H,v⟩:=H;rw[v];generalize hp:l.take (l.length/2)=p at*;generalize hr:l.drop (l.length/2)=r at*;subst H;simp only[af];obtain⟨E,j⟩:=sc n p (fy (dK w) (w.aC+1) 0 53 y.lo) (by intro h;rw[h]at Y;simp at Y;omega) (by omega) (fun x d=>I x (by rw[<-e];exact ef _ d)) (eA 0) (by show(0:Int)<=w.aC+1;omega)
   generalize a2:fE n p (fy (dK w) (w.aC+1) 0 53 y.lo)=w1 at*;have u1:w.aC+1<=w1.aC:=j.up;have a0:cJ w1 (w.aC+1)={w1 with label:=w.aC+1}:=by rw[vI,j.wD];simp
   rw[a0];obtain⟨i,o⟩:=sc n (y::q) {w1 with label:=w.aC+1} (by simp) (by omega) (fun x d=>I x (by rw[<-e];exact fD _ d)) (by show(0:Int)<=w.aC+1;omega) u1
   have u2:w1.aC<=_:=o.up;have l1:w1.l=(w.l++[⟨w.label,w.aC+1,0,53,y.lo⟩])++E:=j.l;refine⟨⟨w.label,w.aC+1,0,53,y.lo⟩::(E++i),?_,by omega,o.wD,?_,fun f=>mR rfl,?_⟩
   .rw[o.l];show w1.l++i=_;rw[l1];simp
   .intro x d
    rcases aY.1 d with rfl|d
    .exact .inr (.inl rfl)
    .rcases bp.1 d with d|d
     .rcases j.ct x d with k|k|k
      .exact .inl k
      .exact .inl k
      .have k:w.aC+1<x.label/\_:=k
       exact .inr (.inr ⟨by omega,by omega⟩)
     .rcases o.ct x d with k|k|k
      .exact .inl k
      .have k:x.label=w.aC+1:=k
       exact .inr (.inr ⟨by omega,by omega⟩)
      .have k:w1.aC<x.label/\_:=k
       exact .inr (.inr ⟨by omega,k.2⟩)
   .intro a b u x d nr F Z f
    rw[<-e]at u d;obtain⟨m,T,G⟩:=uf u;have a3:y.lo=m:=G.1;have k1:=(pj T).2;have k2:=(pj G).2;have X:(E++i).append f=E++(i++f):=bq _ _ _;rcases bp.1 d with d|d
    .have:=k1 x d
     obtain⟨c,K,M⟩:=j.run _ _ T x d nr F Z (i++f);refine⟨c+2,.jp rfl ?_,fun g D t=>?_⟩
     .rw[show gE (53:Int) nr y.lo=false from bB (by omega),af,S8,X]
      exact K
     .cases D with
      |zero=>simp at t;omega
      |succ D=>have:=M g D (by rw[Nat.pow_succ]at t;omega);omega
    .have:=k2 x d
     obtain⟨c,K,M⟩:=o.run _ _ G x d nr F Z f;refine⟨c+2,.jp rfl ?_,fun g D t=>?_⟩
     .rw[show gE (53:Int) nr y.lo=true from bw (by omega),ai,X,nD (by show w.aC+1≠0;omega) fun z g=>?_]
      .rw[show fI (w.aC+1) (i++f)=i++f from o.head f];exact K
      .show z.label≠w.aC+1
       rcases j.ct z g with k|k|k
       .omega
       .have k:z.label=0:=k;omega
       .have k:w.aC+1<z.label/\_:=k;omega
     .cases D with
      |zero=>simp at t;omega
      |succ D=>have:=M g D (by rw[Nat.pow_succ]at t;omega);omega
  .match l,bZ hd with
   |[x],_=>
    obtain⟨Q,h⟩:=AS (wd:=wd) x.act x.steps w (I x aW) R h1;refine⟨Q,h.l,h.up,h.wD,h.ct,h.head,?_⟩;intro a b _ y v nr _ _ f;simp at v;subst v;by_cases g:y.steps=[]
    .have:=h.one g f nr
     refine⟨1,?_,fun _ D _=>by omega⟩
     rw[g];exact this
    .obtain⟨c,u⟩:=h.run f nr
     exact⟨c,u,fun h=>(g h).elim⟩
def nF:∀(l:List Sn)(n:Int),gp l n=true->fA l n 4294967296
 |[],n,h=>bZ h
 |x::t,n,h=>by
  unfold gp at h;cases h1:(bif x.lo !=n then true else decide (x.hi<x.lo))<;>rw[h1]at h
  .cases h2 : !CP x<;>rw[h2]at h
   .cases h3:x.lo !=n<;>rw[h3]at h1
    .exact⟨by simpa using h3,by have:=bI h1;omega,nF t _ h⟩
    .simp at h1
   .simp at h
  .simp at h
def Tb(h:fH ao l=(syms,0))(i:∀x∈l,∀s∈x.steps,s.cl≠[])(e:wd 4=ao)(x:Sn)(b:x∈l)(n:x.lo<=wd 0)(m:wd 0<=x.hi):
  ∃c,BR wd syms 0 (sb (fS wd x.act x.steps)) c/\(x.steps=[]->∀D,l.length<=2^D->c<=5+2*D):=by
 unfold fH at h;cases hr : !gp l 0<;>rw[hr]at h
 .rw[af]at h
  have j:fy (cJ (nT (fy (fy (dK ⟨[],0,0⟩) 0 0 32 4) 1 0 21 ao) ⟨1,0⟩) 1) 0 0 32 0=⟨[⟨0,0,0,32,4⟩,⟨0,1,0,21,ao⟩,⟨0,0,0,6,sb ⟨1,0⟩⟩,⟨1,0,0,32,0⟩],1,0⟩:=rfl;rw[j]at h;obtain⟨o,g⟩:=sc (wd:=wd) l.length l ⟨[⟨0,0,0,32,4⟩,⟨0,1,0,21,ao⟩,⟨0,0,0,6,sb ⟨1,0⟩⟩,⟨1,0,0,32,0⟩],1,0⟩ (by rintro rfl;simp at b) (ar _) i (eA 0) (by show(0:Int)<=1;decide)
  have h:=(mT h).1;rw[g.l]at h;obtain⟨c,a,d⟩:=g.run _ _ (nF l 0 (by simpa using hr)) x b (wd 0) n m []
  rw[fr]at a;refine⟨c+1+2+1,?_,fun k D f=>by have:=d k D f;omega⟩
  rw[<-h];refine .ld rfl (.jp rfl ?_);rw[show gE (21:Int) (wd 4) ao=true by rw[e];exact beq_self_eq_true ao]
  exact .ld rfl a
 .have:=(mT h).2;simp at this
end
section
inductive iB (wd:Int->Int):List In->Int->Int->Nat->Prop
 |ld {x t A v n}:x.code=32->iB wd t (wd x.k) v n->iB wd (x::t) A v (n+1)
 |an {x t A v n}:x.code=84->iB wd t (Ip A x.k) v n->iB wd (x::t) A v (n+1)
 |tx {x t A v n}:x.code=135->iB wd t 0 v n->iB wd (x::t) A v (n+1)
 |rt {x t A}:x.code=6->iB wd (x::t) A x.k 1
 |ja {x t A v n}:x.code=5->iB wd (t.drop x.k.toNat) A v n->iB wd (x::t) A v (n+1)
 |jp {x t A v n}:MO x.code=true->iB wd (t.drop (bif gE x.code A x.k then x.jt else x.jf).toNat) A v n->iB wd (x::t) A v (n+1)
variable {wd:Int->Int}
def iB.len(h:iB wd l A v n):n<=l.length:=by
 induction h with
 |ld _ _ a=>simp only[aD];omega
 |an _ _ a=>simp only[aD];omega
 |tx _ _ a=>simp only[aD];omega
 |rt _=>simp
 |ja _ _ a=>rw[gY]at a;simp only[aD];omega
 |jp _ _ a=>rw[gY]at a;simp only[aD];omega
def vJ(x:Lb)(ct:Int):∀(m:List Lb),mJ (AJ x m) ct=bif ct==x.1 then some x else mJ m ct
 |[]=>by
  unfold AJ mJ;rw[cp];cases ct==x.1<;>rfl
 |y::m=>by
  have a:=vJ x ct m;unfold AJ;unfold mJ at a⊢;cases h:x.1==y.1
  .rw[af,cp,cp,a]
   cases h2:ct==y.1
   .rfl
   .cases h3:ct==x.1
    .rfl
    .rw[bZ h2]at h3
     have:=bZ h3;rw[this]at h;simp at h
  .rw[ai,cp,cp]
   have e:=bZ h;rw[<-e];cases ct==x.1<;>rfl
def CY:∀(t:List Sy)(i:Int)(m:List Lb),(gD t i m).1=true->∀ct y,mJ m ct=some y->mJ (gD t i m).2 ct=some y
 |[],_,_,_,_,_,h=>h
 |x::t,i,m,h,ct,y,a=>by
  unfold gD at h⊢;cases hb:(bif decide (x.label<0)then true else(mJ m x.label).isSome)<;>rw[hb]at h
  .refine CY t (i+1) _ h ct y ?_
   cases hd:decide (x.label>0)
   .exact a
   .rw[ai,vJ]
    cases he:ct==x.label
    .exact a
    .rw[bZ he]at a
     cases hl:decide (x.label<0)<;>rw[hl]at hb
     .rw[af,a]at hb;simp at hb
     .simp at hb
  .simp at h
def CZ:∀(t:List Sy)(i:Int)(m:List Lb),(gD t i m).1=true->∀(j:Nat)x,t[j]?=some x->x.label>0->mJ (gD t i m).2 x.label=some (x.label,i+j)
 |[],_,_,_,j,x,a,_=>by simp at a
 |z::t,i,m,h,j,x,a,b=>by
  unfold gD at h⊢;cases hb:(bif decide (z.label<0)then true else(mJ m z.label).isSome)<;>rw[hb]at h
  .cases j with
   |zero=>
    simp at a;subst a;refine CY t (i+1) _ h _ _ ?_;rw[bw b,ai,vJ];simp
   |succ j=>
    have:=CZ t (i+1) _ h j x (by simpa using a) b
    rw[af,this];congr 2
    omega
  .simp at h
def AT:∀(t:List Sy)(i:Int)(m:List Lb)(ct:Int)(y:Lb),mJ (gD t i m).2 ct=some y->mJ m ct=some y\/∃(j:Nat)(x:Sy),t[j]?=some x/\x.label=ct/\y.2=i+j/\ct>0
 |[],_,_,_,_,h=>.inl h
 |z::t,i,m,ct,y,h=>by
  unfold gD at h;cases hb:(bif decide (z.label<0)then true else(mJ m z.label).isSome)<;>rw[hb]at h
  .rcases AT t (i+1) _ ct y h with h|⟨j,x,a,b,c,d⟩
   .cases hd:decide (z.label>0)<;>rw[hd]at h
    .exact .inl h
    .rw[ai,vJ]at h
     cases he:ct==z.label<;>rw[he]at h
     .exact .inl h
     .have e:=bZ he
      have:=aU hd;simp at h;subst h;exact .inr ⟨0,z,rfl,e.symm,by simp,by omega⟩
   .exact .inr ⟨j+1,x,by simpa using a,b,by rw[c];omega,d⟩
  .exact .inl h
def OR(h:(dr l).1=true):(gD l 0 []).1=true:=(cn (b:=(gD l 0 []).1) h).1
def Zm(h:(dr l).1=true)(a:mJ (dr l).2 ct=some y):(∃x,l[y.2.toNat]?=some x/\x.label=ct)/\0<=y.2/\∀(j:Nat)x,l[j]?=some x->x.label=ct->(j:Int)=y.2:=by
 have b:=OR h;have a:mJ (gD l 0 []).2 ct=some y:=a;rcases AT l 0 [] ct y a with h|⟨j,x,c,d,f,o⟩
 .simp[mJ]at h
 .refine⟨⟨x,by rw[f];simpa using c,d⟩,by omega,fun i m n g=>?_⟩
  have:=CZ l 0 [] b i m n (by omega)
  rw[g,a]at this;have e:=ax this;rw[e];simp
def Vn(h:(dr l).1=true){i:Nat}(a:(iz (dr l).2 i ct).2=true):∃n:Nat,(iz (dr l).2 i ct).1=n/\i<n/\fI ct (l.drop (i+1))=l.drop n:=by
 unfold iz at a⊢;cases hl:ct==0<;>rw[hl]at a
 .rw[af]at a⊢
  cases hn:mJ (dr l).2 ct with
  |none=>rw[hn]at a;simp at a
  |some y=>
   rw[hn]at a;have p:=aU a;obtain⟨⟨x,c,g⟩,o,d⟩:=Zm h hn;refine⟨y.2.toNat,by show y.2=_;omega,by omega,?_⟩
   have hlen:=(aE.1 c).1;have e:l.drop (i+1)=(l.drop (i+1)).take (y.2.toNat-(i+1))++l.drop y.2.toNat:=by
    have:=(uF (y.2.toNat-(i+1)) (l.drop (i+1))).symm;rw[eC,show i+1+(y.2.toNat-(i+1))=y.2.toNat by omega]at this
    exact this
   rw[e,nD (gV hl) fun z f=>?_]
   .rw[uI hlen]
    refine mR ?_;rw[<-g,(aE.1 c).2]
   .intro m
    obtain⟨j,b⟩:=DU f;rw[ff]at b;split at b
    .rename_i q
     rw[il]at b;have:=d _ _ b m;omega
    .simp at b
 .rw[bZ hl]
  exact⟨i+1,by show(i:Int)+1=_;omega,by omega,rfl⟩
def ug(k:Lk):∀(t:List Sy)(q:List (Bool×Bool))(i:Nat)(more:Bool),(mK k t q i more).2=false->more=false/\(mK k t q i more).1=q
 |[],q,i,more,h=>⟨h,rfl⟩
 |x::t,[],i,more,h=>⟨h,rfl⟩
 |x::t,p::q,i,more,h=>by
  rw[mK]at h⊢;cases hj : !cT x.code<;>rw[hj]at h
  .rw[af]at h⊢
   obtain⟨a,b⟩:=ug k t q (i+1) _ h;cases hf:ig k i (kh k i x.f) p.2<;>rw[hf]at a
   .cases ht:ig k i (kh k i x.t) p.1<;>rw[ht]at a
    .have c:more=false:=a
     subst c;exact⟨rfl,by rw[hf,ht]at b;simp only[af]at b⊢; rw[b]⟩
    .simp at a
   .simp at a
  .rw[ai]at h⊢
   obtain⟨a,b⟩:=ug k t q (i+1) more h;exact⟨a,by show p::_=_;rw[b]⟩
def uh(k:Lk):∀(t:List Sy)(q:List (Bool×Bool))(i:Nat)(more:Bool),(∀(j:Nat)x p,t[j]?=some x->q[j]?=some p->cT x.code=false->p=(false,false))->
  ∀(j:Nat)x p,t[j]?=some x->(mK k t q i more).1[j]?=some p->cT x.code=false->p=(false,false)
 |[],q,i,more,h,j,x,p,b,_,_=>by simp at b
 |z::t,[],i,more,h,j,x,p,_,a,_=>by simp[mK]at a
 |z::t,r::q,i,more,h,j,x,p,b,a,c=>by
  rw[mK]at a;cases hz : !cT z.code<;>rw[hz]at a
  .cases j with
   |zero=>simp at b;subst b;rw[c]at hz;simp at hz
   |succ j=>exact uh k t q (i+1) _ (fun j=>by have:=h (j+1);simpa using this) j x p (by simpa using b) (by simpa using a) c
  .cases j with
   |zero=>exact h 0 x p b (by simpa using a) c
   |succ j=>exact uh k t q (i+1) _ (fun j=>by have:=h (j+1);simpa using this) j x p (by simpa using b) (by simpa using a) c
structure OS (l:List Sy) (k:Lk):Prop where
 sl:k.l=l
 qP:k.qP=(dr l).2
 pl:k.place=nA k.cG 0
 fl:k.cG.length=l.length
 plain:∀(j:Nat)x p,l[j]?=some x->k.cG[j]?=some p->cT x.code=false->p=(false,false)
structure aiI (l:List Sy) (k:Lk):Prop where
 sl:k.l=l
 qP:k.qP=(dr l).2
 fl:k.cG.length=l.length
 plain:∀(j:Nat)x p,l[j]?=some x->k.cG[j]?=some p->cT x.code=false->p=(false,false)
def It:∀(n:Nat)(k:Lk),aiI l k->cntF k.cG<n->OS l (xJ n k)
 |0,_,_,h=>absurd h (jq _)
 |n+1,k,h,f=>by
  have b:=pg (nC k) k.l k.cG 0 false;rw[xJ];cases hs:(gq k).2
  .have d:(mK (nC k) k.l k.cG 0 false).2=false:=hs
   have e:=(ug (nC k) k.l k.cG 0 false d).2;have a:(gq k).1.cG=k.cG:=e;exact⟨h.sl,h.qP,by show nA k.cG 0=nA (gq k).1.cG 0;rw[a],by show(gq k).1.cG.length=_;rw[a];exact h.fl,by show∀(j:Nat)x p,l[j]?=some x->(gq k).1.cG[j]?=some p->_;rw[a];exact h.plain⟩
  .have g:cntF (gq k).1.cG<cntF k.cG:=by
    rcases b.2.1 hs with h|h
    .simp at h
    .exact h
   refine It n _ ⟨h.sl,h.qP,b.2.2.trans h.fl,?_⟩ (by omega)
   have:=uh (nC k) k.l k.cG 0 false (by rw[h.sl];exact h.plain)
   intro j x p c;rw[<-h.sl]at c;exact this j x p c
def C0(l:List Sy):OS l (fR l):=by
 refine It _ _ ⟨rfl,rfl,by simp[oH],fun j x p _ a _=>?_⟩ ?_
 .simp only[oH]at a
  rw[D4]at a;split at a
  .exact(ax a).symm
  .simp at a
 .have:=FT (oH l).cG
  simp[oH]at this⊢;omega
def AU(h:cT x.code=false->p=(false,false)):((fZ k i x p).length:Int)=countP p:=by
 obtain⟨a,b⟩:=p;unfold fZ;cases hj:cT x.code
 .have:=h hj
  rw[this];cases x.code==5<;>rfl
 .cases a<;>cases b<;>rfl
def fo(q:List (Bool×Bool))(i:Nat):Nat:=((q.take i).map fun p=>(countP p).toNat).sum
def C1:∀(q:List (Bool×Bool))(n:Int)(i:Nat),i<q.length->(nA q n).getD i 0=n+fo q i
 |[],_,i,h=>by simp at h
 |a::q,n,0,h=>by simp[nA,fo]
 |a::q,n,i+1,h=>by
  have:=C1 q (n+countP a) i (by simpa using h)
  have b:=nB a;rw[nA,List.getD_cons_succ,this];simp only[fo,yf,bG,eV];omega
def AW(h:q[i]?=some p):fo q (i+1)=fo q i+(countP p).toNat:=by
 unfold fo;rw[eE,h];simp
def ui:∀{j i:Nat},i<j->j<=q.length->fo q i<fo q j
 |0,i,h,_=>absurd h (jq _)
 |j+1,i,h,c=>by
  have a:q[j]?=some q[j]:=bo (by omega)
  have b:=nB q[j];rw[AW a];by_cases e:i=j
  .subst e;omega
  .have:=ui (q:=q) (j:=j) (i:=i) (by omega) (by omega)
   omega
def sd(k:Lk):∀(t:List Sy)(q:List (Bool×Bool))(s i:Nat),t.length=q.length->(∀(j:Nat)x p,t[j]?=some x->q[j]?=some p->cT x.code=false->p=(false,false))->
  (dL k t q s).drop (fo q i)=dL k (t.drop i) (q.drop i) (s+i)
 |t,q,s,0,_,_=>by simp[fo]
 |[],[],s,i+1,_,_=>by simp[fo,dL]
 |[],p::q,s,i+1,h,_=>by simp at h
 |x::t,[],s,i+1,h,_=>by simp at h
 |x::t,p::q,s,i+1,h,a=>by
  have b:=sd k t q (s+1) i (by simpa using h) (fun j=>by have:=a (j+1);simpa using this)
  have c:=AU (k:=k) (i:=s) (x:=x) (p:=p) (a 0 x p rfl rfl);rw[dL];simp only[fo,yf,bG,eV,sA];rw[show(countP p).toNat=(fZ k s x p).length by omega,List.drop_append,yo (by omega),dP,D3]
  rw[show s+(i+1)=s+1+i by omega]
  exact b
def C2(h:MO c=true):cT c=true:=by
 unfold MO at h;unfold cT;cases h1:c==21
 .cases h2:c==37
  .rw[h1,h2]at h
   rw[show(c==53)=true from h]
   rfl
  .rfl
 .rfl
section
variable {l:List Sy} {k:Lk}
def F0(h:OS l k)(a:l[i]?=some x):∃p,k.cG[i]?=some p/\(dL k l k.cG 0).drop (fo k.cG i)=fZ k i x p++(dL k l k.cG 0).drop (fo k.cG (i+1))/\((fZ k i x p).length:Int)=countP p:=by
 have f:=(aE.1 a).1;have b:=h.fl;have c:k.cG[i]?=some k.cG[i]:=bo (by omega)
 refine⟨_,c,?_,AU (h.plain i x _ a c)⟩;rw[sd k l k.cG 0 i b.symm h.plain,sd k l k.cG 0 (i+1) b.symm h.plain];have d:l.drop i=x::l.drop (i+1):=by rw[uI f,(aE.1 a).2]
 have e:k.cG.drop i=k.cG[i]::k.cG.drop (i+1):=uI (by omega)
 rw[d,e,dL,cv,cv]
def F1(h:OS l k)(a:i<l.length):yK k i=fo k.cG i:=by
 rw[yK,h.pl,C1 k.cG 0 i (by rw[h.fl];exact a),Int.zero_add]
def Tc(g:(dr l).1=true)(h:OS l k){i:Nat}(f:(iz (dr l).2 i ct).2=true)(c:fI ct (l.drop (i+1))≠[]):
  ∃n:Nat,kh k i ct=fo k.cG n/\i<n/\n<l.length/\fI ct (l.drop (i+1))=l.drop n:=by
 obtain⟨n,d,e,a⟩:=Vn g f;have b:n<l.length:=by
  rcases bY n l.length with h|h
  .exact h
  .rw[a,yo h]at c;exact(c rfl).elim
 refine⟨n,?_,e,b,a⟩;rw[kh,h.qP,d];exact F1 h b
def BR.ne(h:BR wd s A v n):s≠[]:=by cases h<;>simp
def Iu(f:(dr l).1=true){i:Nat}(g:l[i]?=some x):(x.code=5->(iz (dr l).2 i x.t).2=true)/\(MO x.code=true->(iz (dr l).2 i x.t).2=true/\(iz (dr l).2 i x.f).2=true):=by
 have e:tr l.length (gD l 0 []).2 l 0=true:=(cn (b:=(gD l 0 []).1) f).2;have a:=(AM l 0 e).2 i x g;rw[cv]at a;have a:ud l.length (dr l).2 i x=true:=a;unfold ud at a;cases h1 : !(r8 x.code).isSome<;>rw[h1]at a
 .cases h3:(bif(i:Int)==(l.length:Int)-1 then !qJ x.code else false)<;>rw[h3]at a
  .refine⟨fun c=>?_,fun d=>?_⟩
   .rw[c]at a
    exact(cn (b:=x.t !=0) a).2
   .have c:(x.code==5)=false:=by
     cases h:x.code==5
     .rfl
     .rw[bZ h]at d;simp[MO]at d
    rw[c,C2 d]at a;exact cn (b:=(iz (dr l).2 i x.t).2) a
  .simp at a
 .simp at a
def Iv(h:0<=n/\n<=2^31):wrap .u32 n=n:=vD (by omega) (by omega)
def Td(u:(dr l).1=true)(h:OS l k)(hb:fo k.cG l.length<=2^30)(a0:BR wd s A v c):∀i,l.drop i=s->∃n,n<=c/\iB wd ((dL k l k.cG 0).drop (fo k.cG i)) A v n:=by
 have pb:∀n,n<l.length->(fo k.cG n:Int)<2^30:=fun n G=>by have:=ui (q:=k.cG) (i:=n) (j:=l.length) G (by rw[h.fl];exact ar _);omega
 have one:∀{i:Nat}{x:Sy}{t:List Sy},l.drop i=x::t->cT x.code=false->(x.code==5)=false->(dL k l k.cG 0).drop (fo k.cG i)=⟨x.code,0,0,x.k⟩::(dL k l k.cG 0).drop (fo k.cG (i+1)):=by
  intro i x t f hj h5;obtain⟨z,E,T⟩:=bM f;obtain⟨p,J,K,F⟩:=F0 h z;rw[K,fZ,hj,h5];rfl
 induction a0 with
 |ld H _ w=>
  intro i f;obtain⟨n,G,u⟩:=w (i+1) (bM f).2.1;rw[one f (by rw[H];rfl) (by rw[H];rfl)]
  exact⟨n+1,by omega,.ld H u⟩
 |an H _ w=>
  intro i f;obtain⟨n,G,u⟩:=w (i+1) (bM f).2.1;rw[one f (by rw[H];rfl) (by rw[H];rfl)]
  exact⟨n+1,by omega,.an H u⟩
 |tx H _ w=>
  intro i f;obtain⟨n,G,u⟩:=w (i+1) (bM f).2.1;rw[one f (by rw[H];rfl) (by rw[H];rfl)]
  exact⟨n+1,by omega,.tx H u⟩
 |rt H=>
  intro i f;rw[one f (by rw[H];rfl) (by rw[H];rfl)]
  exact⟨1,ar _,.rt H⟩
 |@ja x t A v n H Y w=>
  intro i f;obtain⟨z,E,T⟩:=bM f;obtain⟨p,J,K,F⟩:=F0 h z;have Q:=Y.ne;rw[<-E]at Q;obtain⟨m,y,t2,X,M⟩:=Tc u h ((Iu u z).1 H) Q;rw[E]at M;obtain⟨g,G,D⟩:=w m M.symm;have hp:p=(false,false):=h.plain i x p z J (by rw[H];rfl)
  have I:=F1 h T;have a2:=ui (q:=k.cG) t2 (by rw[h.fl];omega)
  have a3:=pb m X;have o:=AW J;rw[hp]at o;have o:fo k.cG (i+1)=fo k.cG i+1:=o;rw[K,fZ,H];show∃n,_/\iB wd (⟨5,0,0,wrap .u32 (kh k i x.t-yK k i-1)⟩::_) A v n
  rw[y,I,Iv ⟨by omega,by omega⟩]
  refine⟨g+1,by omega,.ja rfl ?_⟩
  show iB wd (drop ((fo k.cG m:Int)-fo k.cG i-1).toNat (drop (fo k.cG (i+1)) _)) A v g
  rw[eC,show fo k.cG (i+1)+((fo k.cG m:Int)-fo k.cG i-1).toNat=fo k.cG m by omega]
  exact D
 |@jp x t A v n H Y w=>
  intro i f;obtain⟨z,E,T⟩:=bM f;obtain⟨p,J,K,F⟩:=F0 h z;have Q:=Y.ne;have R:=(Iu u z).2 H;rw[<-E]at Q;have a1:(iz (dr l).2 i (bif gE x.code A x.k then x.t else x.f)).2=true:=by
   cases gE x.code A x.k
   .exact R.2
   .exact R.1
  obtain⟨m,y,t2,X,M⟩:=Tc u h a1 Q;rw[E]at M;obtain⟨g,G,D⟩:=w m M.symm;have I:=F1 h T;have a2:=ui (q:=k.cG) t2 (by rw[h.fl];omega)
  have a3:=pb m X;have o:=AW J;obtain⟨a,b⟩:=p;have a4:(countP (a,b)).toNat=(bif a then 1 else 0)+(bif b then 1 else 0)+1:=by cases a<;>cases b<;>rfl
  rw[a4]at o;rw[K,fZ,C2 H,ai,pf];have fin:∀(d:Nat)(Z:List In),Z.drop d=(dL k l k.cG 0).drop (fo k.cG m)->iB wd (Z.drop d) A v g:=fun d Z e=>by rw[e];exact D
  cases ht:gE x.code A x.k<;>rw[ht]at y
  .rw[af]at y
   cases b
   .refine⟨g+1,by omega,.jp H ?_⟩
    show iB wd (drop (bif gE x.code A x.k then _ else(kh k i x.f-yK k i-1:Int)).toNat _) A v g
    rw[ht,af,y,I];refine fin _ _ ?_;cases a
    .show drop _ (drop (fo k.cG (i+1)) _)=_
     rw[eC,show fo k.cG (i+1)+((fo k.cG m:Int)-fo k.cG i-1).toNat=fo k.cG m by simp at o;omega]
    .show drop _ (_::drop (fo k.cG (i+1)) _)=_
     have hm:fo k.cG (i+1)<=fo k.cG m:=by
      rcases bY (i+1) m with r|r
      .exact Nat.le_of_lt (ui r (by rw[h.fl];omega))
      .rw[show m=i+1 by omega];exact ar _
     simp at o;rw[show((fo k.cG m:Int)-fo k.cG i-1).toNat=(fo k.cG m-fo k.cG (i+1))+1 by omega,sA,eC]
     rw[show fo k.cG (i+1)+(fo k.cG m-fo k.cG (i+1))=fo k.cG m by omega]
   .have hm:fo k.cG (i+1)<=fo k.cG m:=by
     rcases bY (i+1) m with r|r
     .exact Nat.le_of_lt (ui r (by rw[h.fl];omega))
     .rw[show m=i+1 by omega];exact ar _
    refine⟨g+1+1,by omega,.jp H ?_⟩
    show iB wd (drop (bif gE x.code A x.k then _ else(bif a then 1 else 0:Int)).toNat _) A v (g+1)
    rw[ht,af,y,I];cases a
    .simp at o
     refine .ja rfl ?_;show iB wd (drop (wrap .u32 ((fo k.cG m:Int)-fo k.cG i-1-1)).toNat (drop (fo k.cG (i+1)) _)) A v g
     rw[Iv ⟨by omega,by omega⟩,eC,show fo k.cG (i+1)+((fo k.cG m:Int)-fo k.cG i-1-1).toNat=fo k.cG m by omega]
     exact D
    .simp at o
     refine .ja rfl ?_;show iB wd (drop (wrap .u32 ((fo k.cG m:Int)-fo k.cG i-2-1)).toNat (drop (fo k.cG (i+1)) _)) A v g
     rw[Iv ⟨by omega,by omega⟩,eC,show fo k.cG (i+1)+((fo k.cG m:Int)-fo k.cG i-2-1).toNat=fo k.cG m by omega]
     exact D
  .rw[ai]at y
   have hm:fo k.cG (i+1)<=fo k.cG m:=by
    rcases bY (i+1) m with r|r
    .exact Nat.le_of_lt (ui r (by rw[h.fl];omega))
    .rw[show m=i+1 by omega];exact ar _
   cases a
   .refine⟨g+1,by omega,.jp H ?_⟩
    show iB wd (drop (bif gE x.code A x.k then(kh k i x.t-yK k i-1:Int)else _).toNat _) A v g
    rw[ht,ai,y,I];refine fin _ _ ?_;cases b
    .show drop _ (drop (fo k.cG (i+1)) _)=_
     simp at o;rw[eC,show fo k.cG (i+1)+((fo k.cG m:Int)-fo k.cG i-1).toNat=fo k.cG m by omega]
    .show drop _ (_::drop (fo k.cG (i+1)) _)=_
     simp at o;rw[show((fo k.cG m:Int)-fo k.cG i-1).toNat=(fo k.cG m-fo k.cG (i+1))+1 by omega,sA,eC]
     rw[show fo k.cG (i+1)+(fo k.cG m-fo k.cG (i+1))=fo k.cG m by omega]
   .refine⟨g+1+1,by omega,.jp H ?_⟩
    show iB wd (drop (bif gE x.code A x.k then(0:Int)else _).toNat _) A v (g+1)
    rw[ht,ai,y,I];refine .ja rfl ?_;cases b
    .simp at o
     show iB wd (drop (wrap .u32 ((fo k.cG m:Int)-fo k.cG i-1-1)).toNat (drop (fo k.cG (i+1)) _)) A v g
     rw[Iv ⟨by omega,by omega⟩,eC,show fo k.cG (i+1)+((fo k.cG m:Int)-fo k.cG i-1-1).toNat=fo k.cG m by omega]
     exact D
    .simp at o
     show iB wd (drop (wrap .u32 ((fo k.cG m:Int)-fo k.cG i-1-1)).toNat (_::drop (fo k.cG (i+1)) _)) A v g
     rw[Iv ⟨by omega,by omega⟩,show((fo k.cG m:Int)-fo k.cG i-1-1).toNat=(fo k.cG m-fo k.cG (i+1))+1 by omega,sA,eC]
     rw[show fo k.cG (i+1)+(fo k.cG m-fo k.cG (i+1))=fo k.cG m by omega]
     exact D
end
def OT(h:gK l=(code,0))(H:BR wd l A v c):∃n,n<=c/\iB wd code A v n:=by
 unfold gK at h;cases h1 : !(dr l).1<;>rw[h1]at h
 .rw[af]at h
  cases h2:decide ((l.length:Int)>4096)<;>rw[h2]at h
  .rw[af]at h
   cases h3:decide (((vG l).length:Int)>4096)<;>rw[h3]at h
   .have ok:=C0 l
    have e:vG l=code:=(mT h).1;have a:fo (fR l).cG l.length<=2^30:=by
     have g:l.length<=4096:=by have:=bI h2;omega
     have f:=ok.fl;have:∀q:List (Bool×Bool),(q.map fun p=>(countP p).toNat).sum<=3*q.length:=by
      intro q;induction q with
      |nil=>simp
      |cons p q i=>have:=nB p;simp only[bG,eV,aD];omega
     have:=this ((fR l).cG.take l.length);rw[oO]at this;unfold fo;omega
    obtain⟨n,b,d⟩:=Td (by simpa using h1) ok a H 0 rfl
    exact⟨n,b,by rw[<-e];exact d⟩
   .have:=(mT h).2;simp at this
  .have:=(mT h).2;simp at this
 .have:=(mT h).2;simp at this
end
abbrev C3(a:Rw)(b c d e f g i j k l m n o p q s t u v w x y z D E G I J K:Int)r h:=Lp f36 0 ⟨aO 56 [(0,vL 4 a),(7,.az 0 0),(15,vN b)],[],[K5 c d e f g i j k l m n o p q s t u v w x y z D E G I J K]⟩ 0 r h
def A36:df:={an:=[(5,6,aa),(5,7,aa),(5,8,aa),(5,9,aa),(5,10,aa),(5,11,aa),(5,12,aa),(7,6,ah)],mod:=[(11,2,[(0,[0,1,2,3,4,5,6,7,8,9,10,11,12,13,14,15,16,17,18])])],cut:=[(3,{bl:=[0,7,15]})]}
def W36(H:C3 a 0 0 0 0 0 0 0 0 0 0 0 0 0 0 0 0 0 0 0 0 b c d e f g i j k r h):
  ak 36 [vL 4 a,.agg [W b,W c,U d,U e,U f,U g,U i,U j,U k]] [] r h:=.of func36 A36 H
def WY(c0:bP (a<4096) (aI (bif(decide (b<0))then true else(decide (b>=(m.length:Int)))) (Fi r h [vW 0,vN a,vB false] [])
 (zz m b fun b4 b5 b6 b7=>Jq 61 [.az 0 0,.agg [N b4,N b5,N b6,W b7]] [K5 n o p q s t u v w x y z D E G I J K b c d e f g i j k l] fun b8 b9=>aI b9 (aq (a+1)/\Fi r h [vW b8,vN (a+1),vB true] [])
 (∃M Q T X Y Z H F A R a4 a5 a6 a7 a8 a9 b0 b1 b2 b3,ak 62 [.az 0 0,.agg [N b4,N b5,N b6,W b7]] [K5 n o p q s t u v w x y z D E G I J K b c d e f g i j k l] [vB M] [K5 Q T X Y Z H F A R a4 a5 a6 a7 a8 a9 b0 b1 b2 b3 c d e f g i j k l]/\aI (!M) (Fi r h [vW 0,vN a,vB false] [])
 (aq (a+1)/\C3 m (a+1) Q T X Y Z H F A R a4 a5 a6 a7 a8 a9 b0 b1 b2 b3 c d e f g i j k l r h))))
 (Fi r h [vW 0,vN 4096,vB false] [])):
  C3 m a n o p q s t u v w x y z D E G I J K b c d e f g i j k l r h:=.of A36 c0
def W61(H:aI (J==6) (Fi r h [vW K,vB true] [K5 a b c d e f g i j k l m n o p q s t u v w x y z D E G I])
 (aI (J==22) (Fi r h [vW a,vB true] [K5 a b c d e f g i j k l m n o p q s t u v w x y z D E G I])
 (Fi r h [vW 0,vB (bif(J==60)then(b==0)else false)] [K5 a b c d e f g i j k l m n o p q s t u v w x y z D E G I]))):
  ak 61 [.az 0 0,.agg [N J,N M,N Q,W K]] [K5 a b c d e f g i j k l m n o p q s t u v w x y z D E G I] r h:=.of func61 {an:=[(5,4,aa),(5,5,aa),(5,6,aa),(5,7,aa),(5,8,aa)]} H
abbrev MQ(a b c d e f g i j k l m n o p q s t u v w x y z D E G I J K M Q T X:Int)r h:=Rp f62 6 ⟨aO 117 [(0,.az 0 0),(3,.az 1 0),(5,vN a),(6,vW b)],[],[K5 c d e f g i j k l m n o p q s t u v w x y z D E G I J K,.aH [vN M,vN Q,vN T,vW X]]⟩ 1 r h
def A62:df:={an:=[(3,2,ah),(6,6,ah),(11,2,ah),(14,6,ah)],mod:=[(23,2,[(0,[0,1,2,3,4,5,6,7,8,9,10,11,12,13,14,15,16,17])])],join:=[(6,{bl:=[0,3,5,6]})]}
def W62(H:aq (c+1)/\aq (a-8)/\Jq 89 [vN (a-8),vW 1,vW 1] [] fun X T=>aI T (aq (a-8)/\MQ (a-8) b e b f g i j k l m n o p q s t u v w (c+1) x y z D E G I J K a M Q d r h)
 (MQ a d e b f g i j k l m n o p q s t u v w (c+1) x y z D E G I J K a M Q d r h)):
  ak 62 [.az 0 0,.agg [N a,N M,N Q,W d]] [K5 e b f g i j k l m n o p q s t u v w c x y z D E G I J K] r h:=.of func62 A62 H
def MR(e4:Jq 89 [vN T,vW l,vW X] [] fun e2 e3=>aI e3 (Fi r h [vB true] [K5 e2 m n o p q s t u v w x y z D E G I a b c d e f g i j k])
 (aq (J-8)/\∃e1 Y,ak 90 [vN (J-8),vW 0,vW 0] [] [vB e1,vB Y] []/\aI Y (aq (J-8)/\∃Z H,ak 90 [vN (J-8),vW l,vW m] [] [vB Z,vB H] []/\aI H (aI Z (aq (a+M)/\Fi r h [vB true] [K5 l m n o p q s t u v w x y z D E G I (a+M) b c d e f g i j k])
 (aq (a+Q)/\Fi r h [vB true] [K5 l m n o p q s t u v w x y z D E G I (a+Q) b c d e f g i j k]))
 (aI (J==5) (aq (a+(wrap .i64 K))/\Fi r h [vB true] [K5 l m n o p q s t u v w x y z D E G I (a+(wrap .i64 K)) b c d e f g i j k])
 (∃F A R a4 a5 a6 a7 a8 a9 b0 b1 b2 b3 b4 b5 b6 b7 b8 b9,ak 91 [.az 0 0,.agg [N J,N M,N Q,W K]] [K5 l m n o p q s t u v w x y z D E G I a b c d e f g i j k] [vB F] [K5 A R a4 a5 a6 a7 a8 a9 b0 b1 b2 b3 b4 b5 b6 b7 b8 b9 a b c d e f g i j k]/\Fi r h [vB F] [K5 A R a4 a5 a6 a7 a8 a9 b0 b1 b2 b3 b4 b5 b6 b7 b8 b9 a b c d e f g i j k])))
 (∃c0 c1,ak 90 [vN J,vW l,vW K] [] [vB c0,vB c1] []/\aI c1 (aI c0 (aq (a+M)/\Fi r h [vB true] [K5 l m n o p q s t u v w x y z D E G I (a+M) b c d e f g i j k])
 (aq (a+Q)/\Fi r h [vB true] [K5 l m n o p q s t u v w x y z D E G I (a+Q) b c d e f g i j k]))
 (aI (J==5) (aq (a+(wrap .i64 K))/\Fi r h [vB true] [K5 l m n o p q s t u v w x y z D E G I (a+(wrap .i64 K)) b c d e f g i j k])
 (∃c2 c3 c4 c5 c6 c7 c8 c9 d0 d1 d2 d3 d4 d5 d6 d7 d8 d9 e0,ak 91 [.az 0 0,.agg [N J,N M,N Q,W K]] [K5 l m n o p q s t u v w x y z D E G I a b c d e f g i j k] [vB c2] [K5 c3 c4 c5 c6 c7 c8 c9 d0 d1 d2 d3 d4 d5 d6 d7 d8 d9 e0 a b c d e f g i j k]/\Fi r h [vB c2] [K5 c3 c4 c5 c6 c7 c8 c9 d0 d1 d2 d3 d4 d5 d6 d7 d8 d9 e0 a b c d e f g i j k]))))):
  MQ T X l m n o p q s t u v w x y z D E G I a b c d e f g i j k J M Q K r h:=x7.of A62 e4
def W89(H:aI (b==4) (Fi r h [vW (wrap .u32 (c+a)),vB true] [])
 (aI (b==20) (Fi r h [vW (wrap .u32 (c-a)),vB true] [])
 (aI (b==36) (Fi r h [vW (wrap .u32 (c*a)),vB true] [])
 (aI (b==52) (aI (a==0) (Fi r h [vW 0,vB false] [])
 (a≠0/\Fi r h [vW (wrap .u32 (tdiv c a)),vB true] []))
 (aI (b==68) (Fi r h [vW (cf .or .u32 c a),vB true] [])
 (aI (b==84) (Fi r h [vW (cf .and .u32 c a),vB true] [])
 (aI (b==164) (Fi r h [vW (cf .xor .u32 c a),vB true] [])
 (aI (b==100) ((32:Int)≠0/\0<=(tmod a 32)/\Fi r h [vW (wrap .u32 (c*2^(min (toNat (tmod a 32)) (IntKind.bits .u32)))),vB true] [])
 (aI (b==116) ((32:Int)≠0/\0<=(tmod a 32)/\Fi r h [vW (fdiv c (2^(min (toNat (tmod a 32)) (IntKind.bits .u32)))),vB true] [])
 (Fi r h [vW 0,vB false] [])))))))))):
  ak 89 [vN b,vW c,vW a] [] r h:=.of func89 {} H
def W90(H:aI (a==21) (Fi r h [vB (b==c),vB true] [])
 (aI (a==37) (Fi r h [vB (decide (b>c)),vB true] [])
 (aI (a==53) (Fi r h [vB (decide (b>=c)),vB true] [])
 (aI (a==69) (Fi r h [vB ((cf .and .u32 b c) !=0),vB true] [])
 (Fi r h [vB false,vB false] []))))):
  ak 90 [vN a,vW b,vW c] [] r h:=.of func90 {} H
def W91(b7:aI (bif(bif(bif(l==96)then true else(l==97))then true else(l==2))then true else(l==3)) (∃X Y Z H F A R a4 a5 a6 a7 a8 a9 b0 b1 b2 b3 b4 b5,ak 127 [.az 0 0,.agg [N l,N Q,N T,W K]] [K5 J I m n o p q s t u v w x y z D E G k a b c d e f g i j] [vB X] [K5 Y Z H F A R a4 a5 a6 a7 a8 a9 b0 b1 b2 b3 b4 b5 k a b c d e f g i j]/\Fi r h [vB X] [K5 Y Z H F A R a4 a5 a6 a7 a8 a9 b0 b1 b2 b3 b4 b5 k a b c d e f g i j])
 (aI (l==0) (Fi r h [vB true] [K5 K I m n o p q s t u v w x y z D E G k a b c d e f g i j])
 (aI (l==1) (Fi r h [vB true] [K5 J K m n o p q s t u v w x y z D E G k a b c d e f g i j])
 (aI (l==128) (Fi r h [vB true] [K5 64 I m n o p q s t u v w x y z D E G k a b c d e f g i j])
 (aI (l==129) (Fi r h [vB true] [K5 J 64 m n o p q s t u v w x y z D E G k a b c d e f g i j])
 (aI (l==7) (Fi r h [vB true] [K5 J J m n o p q s t u v w x y z D E G k a b c d e f g i j])
 (aI (l==135) (Fi r h [vB true] [K5 I I m n o p q s t u v w x y z D E G k a b c d e f g i j])
 (aI (l==132) (Fi r h [vB true] [K5 (wrap .u32 (0-J)) I m n o p q s t u v w x y z D E G k a b c d e f g i j])
 (aI (l==32) (Jq 128 [.agg [W a,W b,U c,U d,U e,U f,U g,U i,U j],vW K] [] fun b6 M=>aI M (Fi r h [vB M] [K5 b6 I m n o p q s t u v w x y z D E G k a b c d e f g i j])
 (Fi r h [vB M] [K5 J I m n o p q s t u v w x y z D E G k a b c d e f g i j]))
 (Fi r h [vB false] [K5 J I m n o p q s t u v w x y z D E G k a b c d e f g i j])))))))))):
  ak 91 [.az 0 0,.agg [N l,N Q,N T,W K]] [K5 J I m n o p q s t u v w x y z D E G k a b c d e f g i j] r h:=.of func91 {an:=[(1,4,aa),(1,5,aa),(1,6,aa),(1,9,aa),(1,10,aa),(1,11,aa),(1,14,aa),(1,15,aa),(1,16,aa),(20,6,ah)],mod:=[(2,2,[(0,[0,1,2,3,4,5,6,7,8,9,10,11,12,13,14,15,16,17])])]} b7
end Go.Ac.S4
end
