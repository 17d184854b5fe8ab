/-
Lemmas6
-/
import Derived.Test.YtifcddmbgnmnjaaGreatDoorPkE
import Derived.Test.YtifcddmbgnmnjaaGreatDoorTie
import Derived.Test.YtifcddmbgnmnjaaGreatDoorCards
import Derived.HandedShaped
import Derived.Shelf.Vars
import Derived.LaidMore
import Derived.Lay
import Derived.WalkKit
import Derived.ProofKit
import Derived.OpenShut
import Derived.ShutString
import Derived.ChangeOld
import Derived.Stop.Joined
import Derived.SevenTiedAt
set_option linter.all false
set_option autoImplicit true
set_option relaxedAutoImplicit true
section
namespace Go.Ac.S4
open Go Go.Proofs Go.Proofs.Tryz Go.Ac
open Go.IntKind (wrap)
open Int (toNat tdiv tmod fdiv)
open List (drop take replicate)
set_option maxRecDepth 100000
def isN(p:List PV):Prop:=∃n,p=[N n]
def VR(p:List PV):Prop:=∃n,(0<=n/\n<18446744073709551616)/\p=[U n]
def ZG(p:List PV):Prop:=∃n,(0<=n/\n<4294967296)/\p=[W n]
def ZH(p:List PV):Prop:=∃s,p=[S s]
def LD(p:List PV):Prop:=∃l:List By,l.length<=2^47/\p=[L 1 (aJ l)]
def TX(p:List PV):Prop:=∃a:Act,p=[N a.kind,N a.data]
section
variable {WW:World}
def TY(m:Nat):bH prog WW m 3 isN:=(bH.int underlying3).mono fun _⟨n,_,h⟩=>⟨n,h⟩
def TZ(m:Nat):bH prog WW m 30 VR:=(bH.int underlying30).mono fun _⟨n,a,h⟩=>⟨n,by simp[Wc,IntKind.min,IntKind.max,IntKind.signed,IntKind.bits]at a;omega,h⟩
def LF(m:Nat):bH prog WW m 29 ZG:=(bH.int underlying29).mono fun _⟨n,a,h⟩=>⟨n,by simp[Wc,IntKind.min,IntKind.max,IntKind.signed,IntKind.bits]at a;omega,h⟩
def xX(m:Nat):bH prog WW m 9 ZH:=bH.string underlying9
def NK{f:α->List PV}{K:α->Prop}:∀(a:List (List PV)),(∀r∈a,∃x,r=f x/\K x)->∃l:List α,a=l.map f/\∀x∈l,K x
 |[],_=>⟨[],rfl,by simp⟩
 |r::a,h=>by
  obtain⟨x,rfl,e⟩:=h r aW;obtain⟨l,rfl,c⟩:=NK a fun q d=>h q (aV _ d)
  exact⟨x::l,rfl,fun y b=>by rcases aY.1 b with rfl|b;exact e;exact c y b⟩
def qy{f:α->List PV}{K:α->Prop}(s:prog.underlying t=some (.slice e))(o:prog.cellsOf e=n)(g:1<=prog.bytesOf e)(b:0<n)(j:∀x,(f x).length=n)(q:∀k,k<m->bH prog WW k e fun p=>∃x,p=f x/\K x):bH prog WW m t fun p=>∃l:List α,(l.length<=2^47/\∀x∈l,K x)/\p=[L n (l.map f)]:=
 (bH.slice s o b q fun p⟨x,u,_⟩=>by rw[u,j]).mono fun p⟨v,c,d,_,a⟩=>by
  obtain⟨l,rfl,i⟩:=NK v d;have:(l.map f).length*1<=(l.map f).length*prog.bytesOf e:=Nat.mul_le_mul_left _ g;rw[al]at this a;exact⟨l,⟨by unfold reachBytes at a;omega,i⟩,c⟩
def Jh(m:Nat):bH prog WW m 24 LD:=
 (qy (f:=He) (K:=fun _=>True) underlying24 (by kernel_rfl) (aU (by kernel_rfl)) (by decide) (fun _=>rfl) fun k _=>(xX k).mono fun _⟨s,h⟩=>⟨s,h,trivial⟩).mono fun p⟨l,a,b⟩=>⟨l,a.1,b⟩
def NL(m:Nat):bH prog WW m 26 TX:=
 (bH.n3 (Qs:=[isN,isN]) underlying26 rfl (by kernel_rfl) fun m _ i f Q c d=>by
  match i with
  |0=>simp at c d;subst c;subst d;exact TY m
  |1=>simp at c d;subst c;subst d;exact TY m
  |i+2=>simp at c).mono fun p⟨_,_,e,⟨a,g⟩,_,_,j,⟨b,k⟩,l⟩=>⟨⟨a,b⟩,by subst l;subst k;subst j;subst g;subst e;rfl⟩
def ZI(e:Ex):Prop:=tg e/\Ga e
def XR:∀{l:List Ex},(∀x∈l,ZI x)->Pf l/\O5 l
 |[],_=>⟨trivial,trivial⟩
 |x::t,h=>by
  obtain⟨a,b⟩:=h x aW;obtain⟨c,d⟩:=XR fun y e=>h y (aV _ e)
  unfold Pf O5;exact⟨⟨a,c⟩,b,d⟩
def ur(e:Ex):e.row.length=5:=by cases e;rfl
def T0:∀(fuel:Nat),bH prog WW fuel 123 fun p=>∃e:Ex,p=e.row/\ZI e:=by
 intro fuel;induction fuel using Nat.strongRecOn with
 |_ fuel s=>
  refine(bH.n3 (Qs:=[isN,ZH,ZH,VR,fun p=>∃l:List Ex,(l.length<=2^47/\∀x∈l,ZI x)/\p=[L 5 (l.map Ex.row)]]) underlying123 rfl (by kernel_rfl) fun m t i f Q a b=>?_).mono fun p h=>?_
  .match i with
   |0=>simp at a b;subst a;subst b;exact TY m
   |1=>simp at a b;subst a;subst b;exact xX m
   |2=>simp at a b;subst a;subst b;exact xX m
   |3=>simp at a b;subst a;subst b;exact TZ m
   |4=>simp at a b;subst a;subst b;exact qy underlying97 (by kernel_rfl) (aU (by kernel_rfl)) (by decide) ur fun k c=>s k (by omega)
   |i+5=>simp at a
  .obtain⟨_,_,rfl,⟨k,rfl⟩,_,_,rfl,⟨o,rfl⟩,_,_,rfl,⟨n,rfl⟩,_,_,rfl,⟨v,q,rfl⟩,_,_,rfl,⟨l,⟨j,c⟩,rfl⟩,rfl⟩:=h
   obtain⟨d,g⟩:=XR c;refine⟨.mk k o n v l,by rw[Ex.row,dw];rfl,?_,?_⟩
   .unfold tg;exact⟨q,d⟩
   .unfold Ga;exact⟨j,g⟩
def VS(m:Nat):bH prog WW m 97 fun p=>∃l:List Ex,(l.length<=2^47/\∀x∈l,ZI x)/\p=[L 5 (l.map Ex.row)]:=
 qy underlying97 (by kernel_rfl) (aU (by kernel_rfl)) (by decide) ur fun k _=>T0 k
def acF(d:cZ):Prop:=ZI d.ex
def VT(m:Nat):bH prog WW m 125 fun p=>∃d:cZ,p=d.row/\acF d:=
 (bH.n3 (Qs:=[ZH,fun p=>∃e:Ex,p=e.row/\ZI e]) underlying125 rfl (by kernel_rfl) fun m _ i f Q a b=>by
  match i with
  |0=>simp at a b;subst a;subst b;exact xX m
  |1=>simp at a b;subst a;subst b;exact T0 m
  |i+2=>simp at a).mono fun p h=>by
 obtain⟨_,_,rfl,⟨s,rfl⟩,_,_,rfl,⟨e,rfl,c⟩,rfl⟩:=h;exact⟨⟨s,e⟩,by simp[cZ.row],c⟩
def acG(r:gP):Prop:=XL r/\∀e∈r.cond,tg e
def VU(m:Nat):bH prog WW m 99 fun p=>∃r:gP,p=r.row/\acG r:=
 (bH.n3 (Qs:=[ZH,LD,fun p=>∃l:List Ex,(l.length<=2^47/\∀x∈l,ZI x)/\p=[L 5 (l.map Ex.row)]]) underlying99 rfl (by kernel_rfl) fun m _ i f Q a b=>by
  match i with
  |0=>simp at a b;subst a;subst b;exact xX m
  |1=>simp at a b;subst a;subst b;exact Jh m
  |2=>simp at a b;subst a;subst b;exact VS m
  |i+3=>simp at a).mono fun p h=>by
 obtain⟨_,_,rfl,⟨s,rfl⟩,_,_,rfl,⟨ps,j,rfl⟩,_,_,rfl,⟨l,⟨g,d⟩,rfl⟩,rfl⟩:=h;exact⟨⟨s,ps,l⟩,rfl,⟨j,g,fun e c=>(d e c).2⟩,fun e c=>(d e c).1⟩
def acH(p:cQ):Prop:=XM p/\∀r∈p.bk,∀e∈r.cond,tg e
def VV(m:Nat):bH prog WW m 94 fun p=>∃x:cQ,p=x.row/\acH x:=
 (bH.n3 (Qs:=[ZH,TX,fun p=>∃l:List gP,(l.length<=2^47/\∀x∈l,acG x)/\p=[L 3 (l.map gP.row)]]) underlying94 rfl (by kernel_rfl) fun m _ i f Q b c=>by
  match i with
  |0=>simp at b c;subst b;subst c;exact xX m
  |1=>simp at b c;subst b;subst c;exact NL m
  |2=>simp at b c;subst b;subst c;exact qy underlying92 (by kernel_rfl) (aU (by kernel_rfl)) (by decide) (fun _=>rfl) fun k _=>VU k
  |i+3=>simp at b).mono fun p h=>by
 obtain⟨_,_,rfl,⟨s,rfl⟩,_,_,rfl,⟨a,rfl⟩,_,_,rfl,⟨l,⟨g,e⟩,rfl⟩,rfl⟩:=h;exact⟨⟨s,a,l⟩,rfl,⟨g,fun r d=>(e r d).1⟩,fun r d=>(e r d).2⟩
def acI(p:cW):Prop:=XN p/\∀x∈p.aT,∀r∈x.bk,∀e∈r.cond,tg e
def VW(m:Nat):bH prog WW m 128 fun p=>∃x:cW,p=x.row/\acI x:=
 (bH.n3 (Qs:=[ZH,fun p=>∃l:List cQ,(l.length<=2^47/\∀x∈l,acH x)/\p=[L 4 (l.map cQ.row)]]) underlying128 rfl (by kernel_rfl) fun m _ i f Q a b=>by
  match i with
  |0=>simp at a b;subst a;subst b;exact xX m
  |1=>simp at a b;subst a;subst b;exact qy underlying89 (by kernel_rfl) (aU (by kernel_rfl)) (by decide) (fun _=>rfl) fun k _=>VV k
  |i+2=>simp at a).mono fun p h=>by
 obtain⟨_,_,rfl,⟨s,rfl⟩,_,_,rfl,⟨l,⟨e,d⟩,rfl⟩,rfl⟩:=h;exact⟨⟨s,l⟩,rfl,⟨e,fun r c=>(d r c).1⟩,fun r c=>(d r c).2⟩
def acJ(p:List PV):Prop:=∃u:fT,I1 u/\Rng u/\p=[L 6 (u.aF.map cZ.row),L 2 (u.aB.map cW.row),L 1 (aJ u.main),N u.ch.kind,N u.ch.data]
def VX(m:Nat):bH prog WW m 28 acJ:=
 (bH.n3 (Qs:=[fun p=>∃l:List cZ,(l.length<=2^47/\∀x∈l,acF x)/\p=[L 6 (l.map cZ.row)],fun p=>∃l:List cW,(l.length<=2^47/\∀x∈l,acI x)/\p=[L 2 (l.map cW.row)],LD,TX]) underlying28 rfl (by kernel_rfl) fun m _ i f Q b c=>by
  match i with
  |0=>simp at b c;subst b;subst c;exact qy underlying22 (by kernel_rfl) (aU (by kernel_rfl)) (by decide) (fun d=>by simp[cZ.row,ur]) fun k _=>VT k
  |1=>simp at b c;subst b;subst c;exact qy underlying23 (by kernel_rfl) (aU (by kernel_rfl)) (by decide) (fun _=>rfl) fun k _=>VW k
  |2=>simp at b c;subst b;subst c;exact Jh m
  |3=>simp at b c;subst b;subst c;exact NL m
  |i+4=>simp at b).mono fun p h=>by
 obtain⟨_,_,rfl,⟨j,⟨n,e⟩,rfl⟩,_,_,rfl,⟨ps,⟨q,g⟩,rfl⟩,_,_,rfl,⟨ms,o,rfl⟩,_,_,rfl,⟨a,rfl⟩,rfl⟩:=h;exact⟨⟨j,ps,ms,a⟩,⟨n,fun d h=>(e d h).2,q,fun p h=>(g p h).1,o⟩,⟨fun d h=>(e d h).1,fun p h=>(g p h).2⟩,rfl⟩
def ai6(p:List PV):Prop:=∃d:Da,C4 d/\p=[W d.nr,W d.ao,U d.ip,U d.a0,U d.a1,U d.a2,U d.a3,U d.a4,U d.a5]
def ZJ(m:Nat):bH prog WW m 33 ai6:=
 (bH.n3 (Qs:=[ZG,ZG,VR,wz [VR,VR,VR,VR,VR,VR]]) underlying33 rfl (by kernel_rfl) fun m _ i f Q b c=>by
  match i with
  |0=>simp at b c;subst b;subst c;exact LF m
  |1=>simp at b c;subst b;subst c;exact LF m
  |2=>simp at b c;subst b;subst c;exact TZ m
  |3=>simp at b c;subst b;subst c;exact bH.array (n:=6) underlying31 (fun k _=>TZ k) (by kernel_rfl)
  |i+4=>simp at b).mono fun p h=>by
 obtain⟨_,_,rfl,⟨n,y,rfl⟩,_,_,rfl,⟨a,x,rfl⟩,_,_,rfl,⟨z,r,rfl⟩,_,_,rfl,⟨_,_,rfl,⟨d,q,rfl⟩,_,_,rfl,⟨e,s,rfl⟩,_,_,rfl,⟨g,t,rfl⟩,_,_,rfl,⟨j,u,rfl⟩,_,_,rfl,⟨l,v,rfl⟩,_,_,rfl,⟨o,w,rfl⟩,rfl⟩,rfl⟩:=h;exact⟨⟨n,a,z,d,e,g,j,l,o⟩,⟨y,x,r,q,s,t,u,v,w⟩,rfl⟩
end
end Go.Ac.S4
end
section
namespace Go.Proofs.YtifcddmbgnmnjaaGreatDoor
open Go Go.Ac Go.ChangeShapes Go.WideShapes Go.ChangeAt Go.RowKit
set_option maxRecDepth 100000
def own:ownKnob Tryz.prog.godebug=none:=by kernel_rfl
def laidOut:laidOutB Tryz.prog=true:=by kernel_rfl
abbrev xY:List (String×DataW Unit):=[("unicode/utf8.acceptRanges",Rows.laid_unicode_utf8_acceptRanges),("unicode.White_Space",Rows.laid_unicode_White_Space),("strings.asciiSpace",Rows.laid_strings_asciiSpace),("unicode/utf8.first",Rows.laid_unicode_utf8_first)]
def ai7(os:Os)(args:Array Value):laidMetH Tryz.prog xY ((World.laidAll Tryz.prog os xY).forCall (fun _ _=>0) ⟨#[],args,[]⟩).memory:=by
 rw[MakeChecks.laidMetH_plain _ _ _ (by kernel_rfl)]
 exact laidMet_laidAll _ (by kernel_rfl) (by kernel_rfl)
def ZK:(Rows.laid_strings_asciiSpace:DataW Unit)=.agg (((List.range 256).map JC).map fun n=>.lit (.int .u8 n)):=by kernel_rfl
def Ji(h:laidMetH Tryz.prog xY W)(r:Nat)(e:r<256):W.cell? ⟨1,r,none⟩=some (.int .u8 (JC r)):=by
 rw[MakeChecks.laidMetH_plain _ _ _ (by kernel_rfl)]at h
 obtain⟨ps,⟨_,_,_,_,_,_,_,_,_,_,⟨_,_,_,_,_,_,_,_,_,_,⟨g,t,cs,fuel,p,q,d,s,u,c,_,_⟩,_⟩,_⟩,_,_⟩:=h;obtain rfl:=ax ((show Tryz.prog.globalNamed "strings.asciiSpace" = some 1 by kernel_rfl).symm.trans d)
 obtain rfl:=ax ((show(Tryz.prog.globals[1]?).map (·.type)=some 433 by kernel_rfl).symm.trans s)
 rw[ZK]at c;obtain⟨xs,m,_,l,_,x,w⟩:=DataW.trod_array Tryz.underlying433 c;have f:Tryz.prog.cellsOf 5=1:=by kernel_rfl
 have b:=w r e;rw[f,Nat.mul_one,bo (by omega)]at b
 obtain⟨z,i,j,_⟩:=DataW.trod_int Tryz.underlying5 b;have k:(xs.map (·.1))=((List.range 256).map JC).map fun n=>.lit (.int .u8 n):=(DataW.agg.inj (mT l).1).symm
 have a:(xs.map (·.1))[r]?=(((List.range 256).map JC).map fun n=>(DataW.lit (.int .u8 n):DataW Unit))[r]?:=by rw[k]
 rw[bu,bu,bu,mz e,bo (by omega:r<xs.length),j]at a
 have v:z=JC r:=by simpa using a
 rw[World.var?_cell d u r,<-v];have:cs.toList[r]?=some (.int .u8 z):=by
  have o:((cs.toList.drop r).take 1)[0]?=some (.int .u8 z):=by rw[i];rfl
  simpa using o
 simpa using this
def VY(h:laidMetH Tryz.prog xY W)(c:W.ShapedOpen Tryz.prog):Laid (oZ W) W:=by
 refine⟨fun i a=>⟨Ji h i a,(mO (Ji h i a)).1⟩,?_⟩
 obtain⟨m,b⟩:=cell_of_shapedOpen_int (g:=0) (t:=3) (zero := #[.int .i64 0]) (k:=.i64) c (aU (by kernel_rfl)) (by kernel_rfl) rfl (by kernel_rfl) (by kernel_rfl) Tryz.underlying3
 exact⟨m,b,(mO b).1⟩
def handed{enc:TypeId×Value->H}{X:World->Array Value->Prop}(g:∀(w w':World)(args:Array Value),w.heap=w'.heap->X w args->X w' args)(own:ownKnob C.prog.godebug=none)(started:os.Started)(D:C.prog.inits.idxOf? f=none)(p:C.prog.funcs[f]?=some fn)(witness:∃(w:World)(tape:Tape)(i:Input),w.os=os/\(w.forCall tape i).Shaped C.prog/\i.vars=[]/\Input.okWide C.prog (w.forCall tape i) .any w.heap.size f i /\
   ((s.pre enc C.prog fn conds false (w.forCall tape i).memory i.args/\X (w.forCall tape i).memory i.args)/\sizedMet enc C.prog fn (OpenSpec.ofChange s) false (w.forCall tape i).memory i.args)/\({}:Assume).holds C.prog (lone (Frame.enter C.prog f i.args .normal) [] (w.forCall tape i)))(E:∀(W:World)(y:Nat)(args:Array Value)(a b:List (DataW H))(before:List MemPlace),
   (∀(j:Nat)t v,fn.params[j]?=some t->args[j]?=some v->Value.okWide C.prog W .any y t v)->
   DataW.Whole enc C.prog fn.params.toList s.vars false W args.toList a b before ->
   (DataW.weightsEach C.prog (fn.params.toList++s.plain.varTypes C.prog) (a++b)).all (· <= reachBytes)=true->X W args->W.ShapedOpen C.prog ->
   Calls C.prog f args W fun e c=>∃v,e = .returned v/\s.post enc C.prog fn false true false false W args v c):
  ReturnsInHanded {} C os f .any (fun w args=>(s.pre enc C.prog fn conds false w args/\X w args)/\sizedMet enc C.prog fn (OpenSpec.ofChange s) false w args) (s.post enc C.prog fn false true false false):=by
 refine returnsInHanded_of_calls own started D witness ?_;intro w tape i _ u _ q h I;obtain⟨_,_,_,o,z,_,_,_,_,r⟩:=q;have e:o=fn:=ax (z.symm.trans p);subst e;obtain⟨⟨⟨a,b,before,d,G⟩,m⟩,n⟩:=h;have x:=DataW.Whole.of_heap (w':=w.forCall tape i) (by rfl) d
 refine(E (w.forCall tape i) w.heap.size i.args a b before r x (n.weights d) (g _ _ _ (by rfl) m) u).mono fun e c⟨v,k,l⟩=>?_
 subst k;exact ChangeSpec.post_blind l
end Go.Proofs.YtifcddmbgnmnjaaGreatDoor
end
section
namespace Go.Ac.S4
open Go Go.Proofs Go.Proofs.Tryz Go.Ac
open Go.IntKind (wrap)
open Int (toNat tdiv tmod fdiv)
open List (drop take replicate)
set_option maxRecDepth 100000
def tb(a:List cZ):∀(b:List cZ)(m:List Kn),dJ (b++a) m=dJ a (dJ b m)
 |[],_=>rfl
 |d::b,m=>by rw[dt,dJ,dJ];exact tb a b _
def sx:∀{m:List Kn},dx (·.1) (iM (·.1) x m) k=bif k==x.1 then some x else dx (·.1) m k
 |[]=>by
  unfold iM dx;rw[cp];cases k==x.1<;>rfl
 |y::m=>by
  have b:=sx (x:=x) (k:=k) (m:=m);unfold dx at b⊢;unfold iM;cases hy:x.1==y.1
  .simp only[af]
   rw[cp,cp,b];cases hk:k==y.1
   .rfl
   .have a:=bZ hk
    cases hx:k==x.1
    .rfl
    .have c:=bZ hx
     rw[<-a,c]at hy;simp at hy
  .simp only[ai]
   have a:=bZ hy;rw[cp,cp,a];cases k==y.1<;>rfl
def tc:∀{l:List cZ}{m:List Kn},dx (·.1) m k=some x->dx (·.1) (dJ l m) k=some x
 |[],_,h=>h
 |d::l,m,h=>by
  unfold dJ;refine tc ?_;cases hg:dx (·.1) m d.name with
  |some y=>exact h
  |none=>
   show dx (·.1) (iM (·.1) (d.name,ec m d.ex) m) k=some x
   rw[sx];cases hk:k==d.name
   .exact h
   .rw[bZ hk,hg]at h;simp at h
def qz:∀{l:List cZ}{m:List Kn},(∀d∈l,(d.name==k)=false)->dx (·.1) m k=none->dx (·.1) (dJ l m) k=none
 |[],_,_,h=>h
 |d::l,m,a,h=>by
  unfold dJ;refine qz (fun x b=>a x (aV _ b)) ?_
  cases hg:dx (·.1) m d.name with
  |some y=>exact h
  |none=>
   show dx (·.1) (iM (·.1) (d.name,ec m d.ex) m) k=none
   rw[sx];have:=a d aW;cases hk:k==d.name
   .exact h
   .rw[bZ hk]at this;simp at this
def T5(g:l[i]?=some d)(j:∀x∈l.take i,(x.name==d.name)=false):dx (·.1) (dJ l []) d.name=some (d.name,ck (l.take i) d.ex):=by
 have e:l=l.take i++d::l.drop (i+1):=by
  obtain⟨c,f⟩:=aE.1 g;rw[<-f,<-uI c,uF]
 have b:=qz (m:=[]) j rfl;rw[e,tb,dJ];have a:(take i (take i l++d::drop (i+1) l))=l.take i:=by rw[<-e]
 rw[a,b];refine tc ?_;rw[sx];simp[ck]
def Pn(h:d∈l)(c:(d.name==k)=true):∃x,dx (·.1) (dJ l []) k=some x:=by
 obtain⟨a,b,rfl⟩:=List.append_of_mem h;rw[tb,dJ];have e:=bZ c;subst e;cases hg:dx (·.1) (dJ a []) d.name with
 |some y=>exact⟨y,tc hg⟩
 |none=>exact⟨_,tc (x:=(d.name,ec (dJ a []) d.ex)) (by show dx (·.1) (iM (·.1) (d.name,ec (dJ a []) d.ex) (dJ a [])) d.name=_;rw[sx];simp)⟩
def BL{l:List cZ}{i:Nat}(h:l[i]?=some d):(l.map cZ.row)[toNat (i:Int)]?=some [S d.name,N d.ex.kind,S d.ex.op,S d.ex.name,U d.ex.num,L 5 (bt d.ex.kids)]:=(aP h).trans (by rw[cZ.row,Ex.cu])
def DI(f:α->List PV)(l:List α)(i:Nat):drop 0 (take (toNat (i:Int)) (l.map f))=(l.take i).map f:=by rw[fK,toNat_cast,iD]
def Po(b:gB (.mk k o n v t)=true)(a:(k==7)=true):ck l (.mk k o n v t)=(v,0):=by
 rw[ck,ec,b];simp only[eB,af];match t with
 |[]=>simp only[dz,a];rfl
 |[_]=>simp only[dz,a];rfl
 |_::_::_=>simp only[dz,a];rfl
def Pp(c:gB (.mk k o n v t)=true)(a:(k==7)=false)(b:(k==8)=false):ck l (.mk k o n v t)=((dx (·.1) (dJ l []) n).map (·.2)).getD (0,7):=by
 rw[ck,ec,c];simp only[eB,af];match t with
 |[]=>simp only[dz,a];rfl
 |[_]=>simp only[dz,a];rfl
 |_::_::_=>simp only[dz,a,b];rfl
def T6(m:List Kn):Prop:=∀x∈m,(x.2.2 !=0)=true->x.2.1=0
def Gl(h:T6 m)(a:((((dx (·.1) m n).map (·.2)).getD (0,7)).2 !=0)=true):(((dx (·.1) m n).map (·.2)).getD (0,7)).1=0:=by
 cases hg:dx (·.1) m n with
 |none=>rfl
 |some x=>rw[hg]at a;exact h x (nv hg).1 a
def uu(h:T6 m):∀(e:Ex),((dz m e).2 !=0)=true->(dz m e).1=0
 |.mk k o n v (x::y::t)=>by
  intro a;unfold dz at a⊢;cases h7:k==7<;>rw[h7]at a
  .cases h8:k==8<;>rw[h8]at a
   .exact Gl h a
   .simp only[ai,af]at a⊢
    cases hx:(dz m x).2 !=0<;>rw[hx]at a
    .simp only[af]at a⊢
     cases hy:(dz m y).2 !=0<;>rw[hy]at a
     .simp at a
     .exact uu h y a
    .exact uu h x a
  .simp at a
 |.mk k o n v []=>by
  intro a;unfold dz at a⊢;cases h7:k==7<;>rw[h7]at a
  .exact Gl h a
  .simp at a
 |.mk k o n v [_]=>by
  intro a;unfold dz at a⊢;cases h7:k==7<;>rw[h7]at a
  .exact Gl h a
  .simp at a
def BM(h:T6 m)(a:((ec m e).2 !=0)=true):(ec m e).1=0:=by
 unfold ec at a⊢;cases hn : !gB e<;>rw[hn]at a
 .exact uu h e a
 .rfl
def DJ:∀{l:List cZ}{m:List Kn},T6 m->T6 (dJ l m)
 |[],_,h=>h
 |d::l,m,h=>by
  unfold dJ;refine DJ ?_;cases hg:dx (·.1) m d.name with
  |some y=>exact h
  |none=>
   intro x a;rcases vw a with rfl|a
   .exact BM h
   .exact h x a
def BN(h:((ck l e).2 !=0)=true):(ck l e).1=0:=BM (DJ (fun x a=>by simp at a)) h
def Z6:∀(m:Nat)(l:List cZ),l.length<=m->m<=2^40->(∀d∈l,rT d.ex)->∀(n:Nat)(e:Ex),bL e<=n->rT e->ak 49 [vL 6 (l.map cZ.row),oC e] [] [vU (ck l e).1,vN (ck l e).2] []
 |m,l,f,p,u,0,e,E,_=>by rw[cO]at E;omega
 |m,l,f,p,u,n+1,e,E,G=>by
  have H:=((kE e).1 G).2.2.2;apply W49;refine⟨_,C41 _ e (ar _) G,ad (fun h=>aZ (by rw[ck,ec,h];rfl)) fun h=>?_⟩
  have z:gB e=true:=by simpa using h
  obtain⟨k,o,w,v,t⟩:=e;refine ad (fun r=>aZ (by rw[Po z r];rfl)) fun r=>ad (fun D=>?_) fun D=>?_
  .obtain rfl:k=8:=bZ D
   obtain⟨x,y,rfl,a,Q⟩:=HT z;simp only[bL,cy]at E;have X:=dZ H x (by simp[Ex.kids])
   have Y:=dZ H y (by simp[Ex.kids])
   have I:=Z6 m l f p u n x (by omega) X
   have J:=Z6 m l f p u n y (by omega) Y
   have F:=HS Q;have K:ck l (.mk 8 o w v [x,y])=bif(ck l x).2 !=0 then ck l x else bif(ck l y).2 !=0 then ck l y else(cf .or .u64 (ck l x).1 (ck l y).1,0):=by
    simp only[ck,ec,z,a,F,eB,af,dz];rfl
   rw[K];refine⟨x.kind,x.op,x.name,x.num,bt x.kids,by omega,by rw[<-Ex.cu];rfl,_,_,I,ad (fun c=>aZ ?_) fun c=>⟨y.kind,y.op,y.name,y.num,bt y.kids,by omega,by rw[<-Ex.cu];rfl,_,_,J,ad (fun b=>aZ ?_) fun b=>aZ ?_⟩⟩
   .simp only[c,ai];rw[BN c]
   .simp only[c,b,ai,af];rw[BN b]
   .simp only[c,b];rfl
  .rw[Pp z r D]
   have key:∀(s:List cZ)(i:Nat),l.drop i=s->(∀x∈l.take i,(x.name==w)=false)->Ng (l.map cZ.row) i k o w v (bt t) [vU (((dx (·.1) (dJ l []) w).map (·.2)).getD (0,7)).1,vN (((dx (·.1) (dJ l []) w).map (·.2)).getD (0,7)).2] []:=by
    intro s;induction s with
    |nil=>
     intro i j q;have:=lj j;rw[dE this]at q;apply Xr;exact aQ (l:=l) (by simp) j (aZ (by rw[qz q rfl];rfl))
    |cons d s T=>
     intro i j q;obtain⟨g,M,c⟩:=bM j;have Z:=aK g;apply Xr;refine aL (l:=l) (by simp) j ⟨_,_,_,_,_,_,by omega,BL g,ad (fun b=>?_) fun b=>⟨au,T (i+1) M ?_⟩⟩
     .obtain rfl:=bZ b
      refine⟨⟨by omega,by omega,by rw[al];omega⟩,_,_,_,_,_,_,by omega,BL g,_,_,?_,aZ (by rw[T5 g q])⟩
      rw[DI];match m,f,p with
      |0,f,_=>omega
      |m+1,f,p=>exact Z6 m (l.take i) (by simp;omega) (by omega) (fun x a=>u x (sC a)) _ d.ex (ar _) (u d Z)
     .intro x a
      rw[eE,g]at a;rcases bp.1 a with a|a
      .exact q x a
      .simp at a;subst a;exact b
   exact key l 0 rfl (by simp)
def eM{l:List α}{x:α}(h:l[i]?=some x){P:α->Prop}(b:∀y∈l.take i,P y)(c:P x):∀y∈l.take (i+1),P y:=by
 intro y a;rw[eE,h]at a;rcases bp.1 a with a|a
 .exact b y a
 .simp at a;subst a;exact c
def C24(l:List cZ)(E:l.length<=2^40)(s:∀d∈l,rT d.ex):ak 24 [vL 6 (l.map cZ.row)] [] (Sb (oD l)) []:=by
 have key:∀(t:List cZ)(i:Nat)(a:List Int),l.drop i=t->a.length<=i->M6 (l.map cZ.row) (a.map fun n=>[U n]) i (Ai (iZ t i a (dJ (l.take i) []))) []:=by
  intro t;induction t with
  |nil=>intro i a j _;apply Xh;exact aQ (l:=l) (by simp) j fi
  |cons d t f=>
   intro i a j G;obtain⟨g,u,D⟩:=bM j;have h:=aK g;have hlen:(l.take i).length=i:=by simp;omega
   have inner:∀(n k:Nat),k+n=i->(∀x∈l.take k,(x.name==d.name)=false)->M7 (l.map cZ.row) (a.map fun n=>[U n]) i k (Ai (iZ (d::t) i a (dJ (l.take i) []))) []:=by
    intro n;induction n with
    |zero=>
     intro k v o;obtain rfl:k=i:=by omega
     have q:=qz (m:=[]) o rfl;have c:=Z6 (l.take k).length (l.take k) (ar _) (by omega) (fun x e=>s x (sC e)) _ d.ex (ar _) (s d h)
     apply Xi;refine aw (by simp) ⟨⟨by omega,by omega,by rw[al];omega⟩,_,_,_,_,_,_,by omega,BL g,_,_,by rw[DI];exact c,?_⟩
     rw[iZ,q];refine ad (fun b=>aZ (by rw[show((ec (dJ (l.take k) []) d.ex).2 !=0)=true from b];rfl)) fun b=>⟨by simp;omega,au,?_⟩
     have f:=f (k+1) (a++[(ck (l.take k) d.ex).1]) u (by simp;omega)
     rw[eE,g,show(some d).toList=[d]from rfl,tb,dJ,q]at f
     rw[show((ec (dJ (l.take k) []) d.ex).2 !=0)=false from b]
     rw[bN]at f;exact f
    |succ n r=>
     intro k v o;obtain⟨x,e⟩:∃x,l[k]?=some x:=⟨_,bo (by omega)⟩
     apply Xi;refine bj (bw (by omega)) ⟨_,_,_,_,_,_,by omega,BL e,_,_,_,_,_,_,by omega,BL g,ad (fun b=>aZ ?_) fun b=>⟨au,r (k+1) (by omega) (eM e o b)⟩⟩
     obtain⟨z,y⟩:=Pn (l:=l.take i) (k:=d.name) (aK (show(l.take i)[k]?=some x by rw[List.getElem?_take_of_lt (by omega)];exact e)) b
     rw[iZ,y];rfl
   apply Xh;exact aL (l:=l) (by simp) j (inner i 0 (by omega) (by simp))
 have w:ak 24 [vL 6 (l.map cZ.row)] [] (Ai (oD l)) []:=by
  apply W24;exact key l 0 [] rfl (by simp)
 cases ht:oD l with
 |error p=>rw[ht]at w;exact w
 |ok p=>rw[ht]at w;exact Go.Ac.ak.soft w rfl
def acK(h:gh s ops=true):Py s=U4 s:=by
 unfold gh ops at h;simp only[kj,List.any_nil,Bool.or_false]at h;unfold Py U4 ops idx idx idx idx idx idx idx;cases s==[61,61]<;>cases s==[33,61]<;>cases s==[60]<;>cases s==[60,61]<;>cases s==[62]<;>cases h6:s==[62,61]<;>simp_all
def Pr(h:cz e=true)(a:(e.kind==1)=false)(b:(e.kind==2)=false)(c:(e.kind==3)=false):(e.kind==4)=true:=by
 obtain⟨k,o,n,v,l⟩:=e;match l,h with
 |[x,y],h=>
  simp only[cz,show(k==1)=false from a,show(k==2)=false from b,af]at h
  exact(cn h).1
 |[x],h=>
  simp only[cz,show(k==3)=false from c,af]at h
  simp at h
def T7:∀{l:List α}{i:Nat}{z:α},l[i]?=some z->p z=true->(∀y∈l.take i,p y=false)->idx p l=i
 |[],i,z,h,_,_=>by simp at h
 |x::l,0,z,h,a,_=>by simp at h;subst h;unfold idx;rw[a];rfl
 |x::l,i+1,z,h,a,b=>by
  have c:=b x (by simp)
  have e:=T7 (p:=p) (l:=l) (i:=i) (z:=z) (by simpa using h) a (fun y d=>b y (by simp[d]))
  unfold idx;rw[c,e,bB (by omega)]
  simp
def ZL(h:∀y∈l,p y=false):idx p l<0:=by
 have:=mG p l;rw[show l.any p=false from List.any_eq_false.2 fun y a=>by simp[h y a]]at this
 have:=bI this;omega
def C51(a:List cZ)(ps:List By)(q:DOK a ps):∀(d:Nat)(e:Ex),bL e<=d->cz e=true->rT e->ak 51 [vL 6 (a.map cZ.row),vL 1 (aJ ps),oC e] [] [v7 (dS a ps e).1,vN (dS a ps e).2] []
 |0,e,h,_,_=>by rw[cO]at h;omega
 |d+1,e,h,E,F=>by
  have r:=(kE e).1 F;have Y:dS a ps e=bif e.kind==4 then jh a ps e else hQ a ps e.kids [] (bif e.kind==1 then 4 else bif e.kind==2 then 3 else 2):=by cases e;rfl
  have loop:∀(k:Int),(e.kind==4)=false->xT (a.map cZ.row) (aJ ps) 0 e.kind e.op e.name e.num (bt e.kids) 0 0 0 0 0 [] k 0 0 0 0 [] [v7 (hQ a ps e.kids [] k).1,vN (hQ a ps e.kids [] k).2] []:=by
   intro k f;have key:∀(t:List Ex)(i:Nat)(m:List Cn),e.kids.drop i=t->m.length<=i->xT (a.map cZ.row) (aJ ps) i e.kind e.op e.name e.num (bt e.kids) 0 0 0 0 0 [] k 0 0 0 0 (da m) [v7 (hQ a ps t m k).1,vN (hQ a ps t m k).2] []:=by
    intro t;induction t with
    |nil=>intro i m j _;apply Xs;rw[et];exact aQ (l:=e.kids) rfl j (aZ (by rw[hQ];rfl))
    |cons x t H=>
     intro i m j M;obtain⟨b,g,u⟩:=bM j;have w:=aK b;have a1:=ek x w;rw[cO e]at h;have c:=C51 a ps q d x (by omega) (Ao E f x w) (dZ r.2.2.2 x w)
     have J:da m++([[N (dS a ps x).1.kind,N (dS a ps x).1.arg,N (dS a ps x).1.op,U (dS a ps x).1.mask,U (dS a ps x).1.value,L 6 (da (dS a ps x).1.kids)]]:Rw)=da (m++[(dS a ps x).1]):=by
      rw[dA m,dA (m++[(dS a ps x).1]),bN,<-Cn.cu];rfl
     have a2:=r.2.2.1;apply Xs;rw[et];refine aL (l:=e.kids) rfl j ⟨_,_,_,_,_,by omega,eT b,_,_,_,_,_,_,_,c,ad (fun D=>aZ (by rw[hQ,D];rfl)) fun D=>⟨?_,au,?_⟩⟩
     .rw[J,dA];simp;omega
     .rw[J,hQ,D]
      exact H (i+1) _ g (by simp;omega)
   exact key e.kids 0 [] rfl (by simp)
  apply W51;rw[Y];refine ad (fun b=>bj rfl ?_) fun b=>ad (fun g=>bj rfl ?_) fun g=>ad (fun u=>bj rfl ?_) fun u=>aw rfl ?_
  .have f:(e.kind==4)=false:=by rw[bZ b];rfl
   rw[f,b];exact loop 4 f
  .have f:(e.kind==4)=false:=by rw[bZ g];rfl
   rw[f,b,g];exact loop 3 f
  .have f:(e.kind==4)=false:=by rw[bZ u];rfl
   rw[f,b,g];exact loop 2 f
  .have f:=Pr E b g u
   rw[f,ai];obtain⟨k,o,n,v,l⟩:=e;obtain rfl:k=4:=bZ f;obtain⟨x,y,rfl,rfl,rfl,M,w,hy⟩:=Mv E;have A:=dZ r.2.2.2 x (by simp[Ex.kids])
   have R:=dZ r.2.2.2 y (by simp[Ex.kids])
   have I:=Z6 a.length a (ar _) q.dl q.ds _ y (ar _) R;refine⟨_,_,_,_,_,by omega,eT (l:=[x,y]) (i:=0) (x:=x) rfl,_,C73 o,?_⟩
   rw[acK M];have fin:∀(i o mask:Int),aI ((ck a y).2 !=0) (Fi [v7 (oE a i o mask y).1,vN (oE a i o mask y).2] [] [.agg [N 0,N 0,N 0,U 0,U 0,L 6 []],vN (ck a y).2] []) (Fi [v7 (oE a i o mask y).1,vN (oE a i o mask y).2] [] [.agg [N 5,N i,N o,U mask,U (ck a y).1,L 6 []],vN 0] []):=
    fun i o mask=>ad (fun h=>aZ (by rw[oE,h];rfl)) fun h=>aZ (by rw[oE,h];rfl)
   have Q:(bt [x,y])[toNat 1]?=some [N y.kind,S y.op,S y.name,U y.num,L 5 (bt y.kids)]:=eT (l:=[x,y]) (i:=1) (x:=y) rfl;have tail:∀(i:Nat),(0<=idx (x.name == ·) ps\/ps.length<=i)->vQ (a.map cZ.row) (aJ ps) i 4 o [] 0 (bt [x,y]) 0 0 0 0 0 [] x.kind x.op x.name x.num (bt x.kids) (idx (x.name == ·) ps) (U4 o) 18446744073709551615 0 [v7 (jh a ps (.mk 4 o [] 0 [x,y])).1,vN (jh a ps (.mk 4 o [] 0 [x,y])).2] []:=by
    intro i j;apply Xt;rw[show(aJ ps).length=ps.length from al ..]
    refine aw (by
     rcases j with j|j
     .rw[bB (p:=idx (x.name == ·) ps<0) (by omega)];cases decide ((i:Int)<(ps.length:Int))<;>rfl
     .rw[bB (p:=(i:Int)<(ps.length:Int)) (by omega)];rfl) (ad (fun h=>aZ (by simp only[jh,h];rfl)) fun b=>ad (fun h=>?_) fun h=>?_)
    .obtain⟨z,G,s⟩:=HY w h
     have T:lx x 0=z:=by rw[lx,G];rfl
     have sz:=dZ ((kE x).1 A).2.2.2 z (by rw[G];simp)
     have X:=Z6 a.length a (ar _) q.dl q.ds _ z (ar _) sz;refine⟨_,_,_,_,_,by omega,by rw[G];exact eT (l:=[z]) (i:=0) (x:=z) rfl,_,_,X,ad (fun g=>aZ ?_) fun g=>⟨_,_,_,_,_,by omega,Q,_,_,I,?_⟩⟩
     .simp only[jh,b,h,T,g];rfl
     .simp only[jh,b,h,T,g,ai,af]
      exact fin _ _ _
    .refine⟨_,_,_,_,_,by omega,Q,_,_,I,?_⟩
     simp only[jh,b,h,af];exact fin _ _ _
   have a3:=q.ps;have key:∀(t:List By)(i:Nat),ps.drop i=t->(∀z∈ps.take i,(x.name==z)=false)->vQ (a.map cZ.row) (aJ ps) i 4 o [] 0 (bt [x,y]) 0 0 0 0 0 [] x.kind x.op x.name x.num (bt x.kids) (-1) (U4 o) 18446744073709551615 0 [v7 (jh a ps (.mk 4 o [] 0 [x,y])).1,vN (jh a ps (.mk 4 o [] 0 [x,y])).2] []:=by
    intro t;induction t with
    |nil=>
     intro i j s;have K:=lj j;rw[dE K]at s;have b:=ZL (p:=fun z=>x.name==z) s
     have g:=wB (x.name == ·) ps
     have:=tail i (.inr K);rw[show idx (x.name == ·) ps = -1 by omega]at this
     exact this
    |cons z t H=>
     intro i j s;obtain⟨b,g,u⟩:=bM j;apply Xt;rw[show(aJ ps).length=ps.length from al ..]
     refine bj (by rw[bw (by omega)];rfl) ⟨z,by omega,aP b,ad (fun f=>⟨au,?_⟩) fun f=>⟨au,H (i+1) g (eM b s ?_)⟩⟩
     .have a0:=T7 (p:=(x.name == ·)) b (by rw[bZ f];simp) s
      have:=tail (i+1) (.inl (by omega))
      rw[a0]at this;exact this
     .rw[ko]at f⊢
      intro Z;exact f (by rw[bZ Z];simp)
   exact key ps 0 rfl (by simp)
def C26(u:fT)(ao:By)(K:∀name,I3 ao name=kG ao name)(r:gP)(a:Act)(h:og u)(q:Af r)(Q:r.cond.length<=1)(M:∀e∈r.cond,cz e=true):
  ak 26 [qm u,vS ao,zX a,qO r] [] [Y6 (eu u ao r a).1,vN (eu u ao r a).2] []:=by
 have v:(aJ r.params).length=r.params.length:=al ..;have a2:=q.pl;apply W26;refine⟨_,_,_,_,C9 ao r.call,?_⟩;rw[K];cases hcp:kG ao r.call with
 |none=>exact bj rfl (aZ (by rw[eu,hcp];rfl))
 |some c=>
  have J:=HZ hcp;have a1:=xG r c q.pl J;have D:(aJ c.params).length=c.params.length:=al ..;refine aw rfl ?_;show aI (decide (((aJ r.params).length:Int)>((aJ c.params).length:Int))) _ _
  rw[v,D];refine ad (fun f=>aZ (by rw[eu,hcp];simp only[dq,f];rfl)) fun f=>?_
  have a0:=bI f;have G:drop (toNat ((aJ r.params).length:Int)) (take (aJ c.params).length (aJ c.params))=aJ (c.params.drop r.params.length):=by
   rw[dE (ar _),toNat_cast,v,aJ,aJ,mV]
  have H:aJ r.params++aJ (c.params.drop r.params.length)=aJ (r.params++c.params.drop r.params.length):=by rw[aJ,aJ,aJ,bN]
  have F:(r.params++c.params.drop r.params.length).length<=2^40:=by simp;omega
  have key:∀(t:List By)(i:Nat),r.params.drop i=t->Nb i (u.aF.map cZ.row) (u.aB.map cW.row) (aJ u.main) u.ch.kind u.ch.data a.kind a.data r.call (aJ r.params) (r.cond.map Ex.row) 0 0 0 0 0 0 0 0 [] c.name c.nr (aJ c.params) (bif rW t (r.params.take i)then[Y6 OK,vN 8]else[Y6 (kH u.aF (r.params++c.params.drop r.params.length) c.nr a r.cond (.mk 1 0 0 0 0 [])).1,vN (kH u.aF (r.params++c.params.drop r.params.length) c.nr a r.cond (.mk 1 0 0 0 0 [])).2]) []:=by
   intro t;induction t with
   |nil=>
    intro i j;apply Xk;refine aQ (l:=r.params) (by simp[aJ]) j ?_
    rw[al];match hq:r.cond,Q with
    |[],_=>exact aw rfl (aZ rfl)
    |[e],_=>
     have E:e∈r.cond:=by rw[hq];simp
     have Z:=C51 u.aF _ ⟨h.dl,fun d g=>(h.aF d g).2,F⟩ _ e (ar _) (M e E) (q.cond e E).1
     refine bj rfl ?_;rw[G,H];refine⟨by omega,⟨by omega,by rw[v,D];omega,by omega⟩,by rw[aJ,al];omega,_,_,_,_,_,by omega,by rw[<-Ex.cu];rfl,_,_,_,_,_,_,_,Z,ad (fun b=>aZ ?_) fun b=>aZ ?_⟩
     .simp only[rW,kH,b];rfl
     .simp only[rW,kH,b];rfl
   |cons x t Y=>
    intro i j;obtain⟨w,I,R⟩:=bM j;have hlen:(r.params.take i).length=i:=by simp;omega
    have inner:∀(n k:Nat),k+n=i->(∀z∈r.params.take k,(x==z)=false)->Nc i k (u.aF.map cZ.row) (u.aB.map cW.row) (aJ u.main) u.ch.kind u.ch.data a.kind a.data r.call (aJ r.params) (r.cond.map Ex.row) 0 0 0 0 0 0 0 0 [] c.name c.nr (aJ c.params) (bif rW (x::t) (r.params.take i)then[Y6 OK,vN 8]else[Y6 (kH u.aF (r.params++c.params.drop r.params.length) c.nr a r.cond (.mk 1 0 0 0 0 [])).1,vN (kH u.aF (r.params++c.params.drop r.params.length) c.nr a r.cond (.mk 1 0 0 0 0 [])).2]) []:=by
     intro n;induction n with
     |zero=>
      intro k T p;obtain rfl:k=i:=by omega
      apply Xl;have o:gh x (r.params.take k)=false:=List.any_eq_false.2 fun y X=>by simp[p y X]
      have:=Y (k+1) I;rw[eE,w]at this;rw[rW,o];exact aw (by simp) ⟨au,this⟩
     |succ n A=>
      intro k T p;obtain⟨z,s⟩:∃z,r.params[k]?=some z:=⟨_,bo (by omega)⟩
      apply Xl;refine bj (bw (by omega)) ⟨x,by omega,aP w,z,by omega,aP s,ad (fun b=>aZ ?_) fun b=>⟨au,A (k+1) (by omega) (eM s p b)⟩⟩
      have o:gh x (r.params.take i)=true:=mY.2 ⟨z,aK (show(r.params.take i)[k]?=some z by rw[List.getElem?_take_of_lt (by omega)];exact s),b⟩
      rw[rW,o];rfl
    apply Xk;exact aL (l:=r.params) (by simp[aJ]) j (inner i 0 (by omega) (by simp))
  have m:=key r.params 0 rfl;rw[eu,hcp];simp only[dq,f,af];cases g:rW r.params []
  .rw[List.take_zero,g]at m;exact m
  .rw[List.take_zero,g]at m;exact m
inductive uv (ps:List cW):By->cQ->Prop
 |own (p:cW) (x:cQ):p∈ps->x∈p.aT->x.use=[]->uv ps p.name x
 |use (p:cW) (y x:cQ):p∈ps->y∈p.aT->y.use≠[]->uv ps y.use x->uv ps p.name x
structure Z7 (ps:List cW) (A:cQ->Prop) (s s':Fs):Prop where
 kn:∀k∈s'.kn,∀x∈k.2,uv ps k.1 x
 fq:∃l,s'.fq=s.fq++l/\∀x∈l,A x
def NM(h:∀k∈s.kn,∀x∈k.2,uv ps k.1 x)(a:∀x∈l,A x):Z7 ps A s (B1 s l).2:=⟨h,l,rfl,a⟩
def DK(f:p∈ps)(g:∀name s,(∀k∈s.kn,∀x∈k.2,uv ps k.1 x)->(rec name s).1=0->Z7 ps (uv ps name) s (rec name s).2):∀(l:List cQ)(s:Fs),(∀x∈l,x∈p.aT)->(∀k∈s.kn,∀x∈k.2,uv ps k.1 x)->(gS rec l s).1=0->Z7 ps (uv ps p.name) s (gS rec l s).2
 |[],s,_,h,_=>⟨h,[],by simp[gS],by simp⟩
 |x::t,s,i,h,b=>by
  unfold gS at b⊢;have j:=i x aW;cases a:(lZ rec s x).1 !=0<;>rw[a]at b
  .have c:(lZ rec s x).1=0:=by simpa using a
   have n:Z7 ps (uv ps p.name) s (lZ rec s x).2:=by
    unfold lZ at c⊢;cases hu:x.use==[]
    .rw[hu]at c
     obtain⟨k,l,e,d⟩:=g x.use s h c;exact⟨k,l,e,fun z a=>.use p x z f j (by simpa using hu) (d z a)⟩
    .exact NM h fun z a=>by simp at a;subst a;exact .own p z f j (by simpa using hu)
   obtain⟨k,l,e,d⟩:=n;obtain⟨q,u,m,v⟩:=DK f g t _ (fun y o=>i y (aV _ o)) k b
   exact⟨q,l++u,by rw[af,m,e,bq],fun z a=>(bp.1 a).elim (d z) (v z)⟩
  .rw[ai]at b;rw[b]at a;simp at a
def NN(ps:List cW):∀(n:Nat)(name:By)(s:Fs),(∀k∈s.kn,∀x∈k.2,uv ps k.1 x)->(kg ps n name s).1=0->Z7 ps (uv ps name) s (kg ps n name s).2
 |0,_,s,h,_=>⟨h,[],by simp[kg],by simp⟩
 |n+1,name,s,h,a=>by
  unfold kg at a⊢;cases hp:dx cW.name ps name with
  |none=>rw[hp]at a;simp at a
  |some p=>
   obtain⟨i,rfl⟩:=nv hp;rw[hp]at a;simp only at a⊢;cases hw:dx id s.w p.name with
   |some y=>rw[hw]at a;simp at a
   |none=>
    rw[hw]at a;simp only at a⊢;cases hk:dx (·.1) s.kn p.name with
    |some k=>
     obtain⟨f,g⟩:=nv hk;refine NM h fun x b=>?_
     rw[g];exact h k f x b
    |none=>
     rw[hk]at a;simp only at a⊢;unfold HU at a⊢;cases hz:(gS (kg ps n) p.aT {s with w:=iM id p.name s.w}).1 !=0<;>rw[hz]at a
     .obtain⟨k,l,e,d⟩:=DK i (NN ps n) p.aT {s with w:=iM id p.name s.w} (fun x b=>b) h (by simpa using hz)
      refine⟨fun q c x b=>?_,l,e,d⟩
      rcases vw c with rfl|c
      .have e:(gS (kg ps n) p.aT {s with w:=iM id p.name s.w}).2.fq.drop s.fq.length=l:=by rw[e];simp
       exact d x (by rw[<-e];exact b)
      .exact k q c x b
     .rw[ai]at a;rw[a]at hz;simp at hz
def DL(ps:List cW):∀(names:List By)(s:Fs),(∀k∈s.kn,∀x∈k.2,uv ps k.1 x)->(fx ps names s).1=0->Z7 ps (fun x=>∃c∈names,uv ps c x) s (fx ps names s).2
 |[],s,h,_=>⟨h,[],by simp[fx],by simp⟩
 |x::t,s,h,b=>by
  unfold fx at b⊢;cases a:(kg ps (ps.length+1) x s).1 !=0<;>rw[a]at b
  .obtain⟨k,l,e,i⟩:=NN ps _ x s h (by simpa using a)
   obtain⟨j,m,d,n⟩:=DL ps t _ k b;exact⟨j,l++m,by rw[af,d,e,bq],fun z a=>(bp.1 a).elim (fun h=>⟨x,aW,i z h⟩) fun h=>by obtain⟨c,f,g⟩:=n z h;exact⟨c,aV _ f,g⟩⟩
  .rw[ai]at b;rw[b]at a;simp at a
def VZ(h:uv ps a x):x.use=[]:=by
 induction h with
 |own _ _ _ _ h=>exact h
 |use _ _ _ _ _ _ _ h=>exact h
def V0(h:nx ps names = .ok l):∀x∈l,∃b∈names,uv ps b x:=by
 unfold nx at h;cases hd:HX ps []<;>rw[hd]at h
 .simp only[af]at h
  cases hz:(fx ps names ⟨[],[],[]⟩).1 !=0<;>rw[hz]at h
  .simp at h
   subst h;obtain⟨-,l,e,g⟩:=DL ps names ⟨[],[],[]⟩ (by simp) (by simpa using hz)
   intro x i;obtain⟨y,d,rfl⟩:=bh.1 i;rw[e]at d;obtain⟨b,f,c⟩:=g y (by simpa using d)
   refine⟨b,f,?_⟩;have e:nw y=y:=by have:=VZ c;obtain⟨u,a,r⟩:=y;obtain rfl:u=[]:=this;rfl
   rw[e];exact c
  .simp at h
 .simp at h
def V1{α:Type}(P:α->Prop):Except Int α->Prop
 |.error e=>(e !=0)=true
 |.ok l=>P l
def Pt(ps:List cW):Prop:=∀p∈ps,∀q∈ps,p.name=q.name->p=q
def ZM(e:Pt ps)(d:p∈ps)(h:uv ps p.name x):(x∈p.aT/\x.use=[])\/∃y∈p.aT,y.use≠[]/\uv ps y.use x:=by
 generalize c:p.name=nm at h;cases h with
 |own q x b f a=>obtain rfl:=e p d q b c;exact .inl ⟨f,a⟩
 |use q y x b g a h=>obtain rfl:=e p d q b c;exact .inr ⟨y,g,a,h⟩
def vZ(ps:List cW)(w:List By):Nat:=ps.countP fun p => !gh p.name w
def Jj:∀{ps:List cW},p∈ps->gh p.name w=false->vZ ps (w++[p.name])<vZ ps w
 |[],a,_=>by simp at a
 |q::ps,a,b=>by
  have mono:∀z:cW,(!gh z.name (w++[p.name]))=true->(!gh z.name w)=true:=fun z h=>by
   unfold gh at h⊢;rw[List.any_append]at h;cases hz:w.any (z.name == ·)<;>simp[hz]at h⊢
  have c:vZ ps (w++[p.name])<=vZ ps w:=List.countP_mono_left fun x _ h=>mono x h
  unfold vZ at c⊢;rw[List.countP_cons,List.countP_cons];rcases aY.1 a with rfl|a
  .have:gh p.name (w++[p.name])=true:=by unfold gh;simp
   rw[this,b];simp;omega
  .have:=Jj a b
   unfold vZ at this;have:=mono q;cases ha:(!gh q.name (w++[p.name]))
   .simp;omega
   .rw[this ha];simp;omega
def NO(Q:cQ->Prop)(A:cQ->Prop)(c a:Int)(n:Nat)(l:List cQ):Prop:=a=c+((l.length:Int)-n)/\a<=500/\(∀x∈l,Q x)/\∀x,A x->x∈l
def C50{Q:cQ->Prop}(ps:List cW)(hu:Pt ps)(hq:∀p∈ps,∀x∈p.aT,x.use=[]->Q x)(R:∀p∈ps,p.aT.length<=2^40)(a1:ps.length<=2^40):∀(n:Nat)(name:By)(w:List By)(c:Int),vZ ps w<n->w.length+n<=2^40+1->0<=c->c<=500 ->
  ∃E a,ak 50 [.az 0 0,vL 2 (ps.map cW.row),vS name,vL 1 (aJ w)] [.aH [vN c]] (Ms E) [.aH [vN a]]/\V1 (NO Q (uv ps name) c a 0) E
 |0,_,_,_,h,_,_,_=>absurd h (by omega)
 |n+1,name,w,c,hn,hw,c0,c5=>by
  have a3:∀(E:Except Int (List cQ))(a:Int),ak 50 [.az 0 0,vL 2 (ps.map cW.row),vS name,vL 1 (aJ w)] [.aH [vN c]] (rU E) [.aH [vN a]]->ak 50 [.az 0 0,vL 2 (ps.map cW.row),vS name,vL 1 (aJ w)] [.aH [vN c]] (Ms E) [.aH [vN a]]:=fun E a h=>by
   cases E with
   |error e=>exact h
   |ok l=>exact Go.Ac.ak.soft h rfl
  have body:∀(i:Nat)(p:cW),ps[i]?=some p->p.name=name->gh name w=false->∃E a,Ds (ps.map cW.row) (aJ (w++[name])) i [] 0 c (rU E) [.aH [vN a]]/\V1 (NO Q (uv ps name) c a 0) E:=by
   intro i p b Y D;subst Y;have M:=aK b;have a4:=Jj M D;have a6:=R p M;have a5:i<ps.length:=(aE.1 b).1;have key:∀(t:List cQ)(j:Nat)(z:Int)(g:List cQ),p.aT.drop j=t->0<=z->z<=500->z=c+g.length->(∀x∈g,Q x)->(∀x,x∈p.aT.take j->x.use=[]->x∈g)->(∀y∈p.aT.take j,y.use≠[]->∀x,uv ps y.use x->x∈g)->
     ∃E a,Ds (ps.map cW.row) (aJ (w++[p.name])) i (g.map cQ.row) j z (rU E) [.aH [vN a]]/\V1 (NO Q (uv ps p.name) c a 0) E:=by
    intro t;induction t with
    |nil=>
     intro j z g q z0 Z s K v r;have hd:=lj q;rw[dE hd]at v r;refine⟨.ok g,z,?_,by simpa using s,Z,K,fun x G=>?_⟩
     .apply IS
      exact⟨_,_,by omega,aP b,aQ (l:=p.aT) (by simp) q fi⟩
     .rcases ZM hu M G with⟨G,d⟩|⟨y,f,d,G⟩
      .exact v x G d
      .exact r y f d x G
    |cons x t H=>
     intro j z g q z0 Z s K v r;obtain⟨k,I,k3⟩:=bM q;have a2:=aK k;cases Z8:x.use==[]
     .have F:x.use≠[]:=by simpa using Z8
      obtain⟨E,a,o,m⟩:=C50 ps hu hq R a1 n x.use (w++[p.name]) z (by omega) (by simp;omega) z0 Z
      cases E with
      |error e=>
       refine⟨.error e,a,?_,m⟩;apply IS;exact⟨_,_,by omega,aP b,aL (l:=p.aT) (by simp) q ⟨_,_,by omega,aP b,_,_,_,_,by omega,aP k,aw Z8 ⟨_,_,_,o,bj m fi⟩⟩⟩
      |ok l=>
       obtain⟨g1,g2,g3,g4⟩:=m;have gl:(l.length:Int)<=500:=by omega
       obtain⟨E,T,J,A⟩:=H (j+1) a (g++l) I (by omega) g2 (by simp;omega) (fun y f=>(bp.1 f).elim (K y) (g3 y))
        (eM (P:=fun y=>y.use=[]->y∈g++l) k (fun y f d=>bp.2 (.inl (v y f d))) fun d=>absurd d F)
        (eM (P:=fun y=>y.use≠[]->∀x,uv ps y.use x->x∈g++l) k (fun y f d z s=>bp.2 (.inl (r y f d z s))) fun _ z s=>bp.2 (.inr (g4 z s)))
       refine⟨E,T,?_,A⟩;apply IS;refine⟨_,_,by omega,aP b,aL (l:=p.aT) (by simp) q ⟨_,_,by omega,aP b,_,_,_,_,by omega,aP k,aw Z8 ⟨_,_,_,o,aw rfl ⟨by simp;omega,au,?_⟩⟩⟩⟩
       rw[bN]at J;exact J
     .have d:x.use=[]:=by simpa using Z8
      cases h5:decide (z+1>500)
      .have h6:=bI h5
       obtain⟨E,T,J,A⟩:=H (j+1) (z+1) (g++[x]) I (by omega) (by omega) (by simp;omega) (fun y f=>(bp.1 f).elim (K y) fun f=>by simp at f;subst f;exact hq p M y a2 d)
        (eM (P:=fun y=>y.use=[]->y∈g++[x]) k (fun y f d=>bp.2 (.inl (v y f d))) fun _=>by simp)
        (eM (P:=fun y=>y.use≠[]->∀z,uv ps y.use z->z∈g++[x]) k (fun y f d z s=>bp.2 (.inl (r y f d z s))) fun F=>absurd d F)
       refine⟨E,T,?_,A⟩;apply IS;refine⟨_,_,by omega,aP b,aL (l:=p.aT) (by simp) q ⟨_,_,by omega,aP b,_,_,_,_,by omega,aP k,bj Z8 ⟨au,aw h5 ⟨by simp;omega,au,?_⟩⟩⟩⟩
       rw[bN]at J;exact J
      .refine⟨.error 9,z+1,?_,rfl⟩
       apply IS;exact⟨_,_,by omega,aP b,aL (l:=p.aT) (by simp) q ⟨_,_,by omega,aP b,_,_,_,_,by omega,aP k,bj Z8 ⟨au,bj h5 fi⟩⟩⟩
   exact key p.aT 0 c [] rfl c0 c5 (by simp) (by simp) (by simp) (by simp)
  have find:∀(t:List cW)(i:Nat)(u:Int),ps.drop i=t->(u = -1\/∃j:Nat,u=j/\∃p,ps[j]?=some p/\p.name=name)->
    ∃E a,IP (ps.map cW.row) name (aJ w) u i c (rU E) [.aH [vN a]]/\V1 (NO Q (uv ps name) c a 0) E:=by
   intro t;induction t with
   |nil=>
    intro i u b X;rcases X with rfl|⟨j,rfl,p,Y,a0⟩
    .refine⟨.error 7,c,?_,rfl⟩
     apply IQ;exact aQ (l:=ps) (by simp) b (bj rfl fi)
    .cases D:gh name w
     .obtain⟨E,a,o,m⟩:=body j p Y a0 D
      refine⟨E,a,?_,m⟩;have e1:aJ w++([[S name]]:Rw)=aJ (w++[name]):=by rw[aJ,aJ,bN];rfl
      apply IQ;rw[e1];exact aQ (l:=ps) (by simp) b (aw (bB (by omega)) ⟨_,C68 w name (by omega),aw D ⟨by simp[aJ];omega,by simp[aJ];omega,o⟩⟩)
     .refine⟨.error 5,c,?_,rfl⟩
      apply IQ;exact aQ (l:=ps) (by simp) b (aw (bB (by omega)) ⟨_,C68 w name (by omega),bj D fi⟩)
   |cons p t H=>
    intro i u b X;obtain⟨k,I,k3⟩:=bM b;cases hpn:p.name==name
    .obtain⟨E,a,o,m⟩:=H (i+1) u I X
     refine⟨E,a,?_,m⟩;apply IQ;exact aL (l:=ps) (by simp) b ⟨_,_,by omega,aP k,aw hpn ⟨au,o⟩⟩
    .obtain⟨E,a,o,m⟩:=H (i+1) i I (.inr ⟨i,rfl,p,k,bZ hpn⟩)
     refine⟨E,a,?_,m⟩;apply IQ;exact aL (l:=ps) (by simp) b ⟨_,_,by omega,aP k,bj hpn ⟨au,o⟩⟩
  obtain⟨E,a,o,m⟩:=find ps 0 (-1) rfl (.inl rfl);exact⟨E,a,a3 E a (by apply W50;exact o),m⟩
def Pu{ps:List cW}(k:ps[i]?=some p)(m:Pt (ps.take i))(h:∀q∈ps.take i,(q.name==p.name)=false):Pt (ps.take (i+1)):=by
 have j:∀q∈ps.take i,q.name≠p.name:=fun q l e=>by have:=h q l;rw[e]at this;simp at this
 intro a f b g e;rw[eE,k]at f g;rcases bp.1 f with c|c<;>rcases bp.1 g with d|d
 .exact m a c b d e
 .simp at d;subst d;exact absurd e (j a c)
 .simp at c;subst c;exact absurd e.symm (j b d)
 .simp at c d;rw[c,d]
def C25{Q:cQ->Prop}(ps:List cW)(names:List By)(A:∀p∈ps,∀x∈p.aT,x.use=[]->Q x)(F:∀p∈ps,p.aT.length<=2^40)(a1:ps.length<=2^40)(hn:names.length<=2^40):
  ∃E,ak 25 [vL 2 (ps.map cW.row),vL 1 (aJ names)] [] (Ms E) []/\V1 (fun l=>l.length<=500/\(∀x∈l,Q x)/\∀b∈names,∀x,uv ps b x->x∈l) E:=by
 have a3:Pt ps->∀(t:List By)(i:Nat)(c:Int)(j:List cQ),names.drop i=t->c=j.length->c<=500->(∀x∈j,Q x)->(∀b∈names.take i,∀x,uv ps b x->x∈j)->
   ∃E,Na (ps.map cW.row) (aJ names) (j.map cQ.row) i c (rU E) []/\V1 (fun l=>l.length<=500/\(∀x∈l,Q x)/\∀b∈names,∀x,uv ps b x->x∈l) E:=by
  intro o t;induction t with
  |nil=>
   intro i c j g Y H s q;rw[dE (lj g)]at q;refine⟨.ok j,?_,by omega,s,q⟩
   apply Tw;exact aQ (l:=names) (by simp[aJ]) g fi
  |cons b t D=>
   intro i c j g Y H s q;obtain⟨m,G,R⟩:=bM g;have a4:vZ ps []<=ps.length:=List.countP_le_length;obtain⟨E,J,f,d⟩:=C50 ps o A F a1 (vZ ps []+1) b [] c (by omega) (by simp;omega) (by omega) H
   cases E with
   |error e=>
    refine⟨.error e,?_,d⟩;apply Tw;exact aL (l:=names) (by simp[aJ]) g ⟨b,by omega,aP m,_,_,_,f,bj d fi⟩
   |ok l=>
    obtain⟨g1,K,M,T⟩:=d;obtain⟨E,I,a0⟩:=D (i+1) J (j++l) G (by simp;omega) K (fun y h=>(bp.1 h).elim (s y) (M y))
     (eM (P:=fun b=>∀x,uv ps b x->x∈j++l) m (fun y h x v=>bp.2 (.inl (q y h x v))) fun x v=>bp.2 (.inr (T x v)))
    refine⟨E,?_,a0⟩;apply Tw;refine aL (l:=names) (by simp[aJ]) g ⟨b,by omega,aP m,_,_,_,f,aw rfl ⟨by simp;omega,au,?_⟩⟩
    rw[bN]at I;exact I
 have key:∀(t:List cW)(i:Nat),ps.drop i=t->Pt (ps.take i)->∃E,M8 (ps.map cW.row) (aJ names) i (rU E) []/\V1 (fun l=>l.length<=500/\(∀x∈l,Q x)/\∀b∈names,∀x,uv ps b x->x∈l) E:=by
  intro t;induction t with
  |nil=>
   intro i g o;rw[dE (lj g)]at o;obtain⟨E,f,d⟩:=a3 o names 0 0 [] rfl rfl (by omega) (by simp) (by simp)
   refine⟨E,?_,d⟩;apply Xj;exact aQ (l:=ps) (by simp) g f
  |cons p t D=>
   intro i g o;obtain⟨m,G,R⟩:=bM g;have inner:∀(n k:Nat),k+n=i->(∀z∈ps.take k,(z.name==p.name)=false)->∃E,M9 (ps.map cW.row) (aJ names) i k (rU E) []/\V1 (fun l=>l.length<=500/\(∀x∈l,Q x)/\∀b∈names,∀x,uv ps b x->x∈l) E:=by
    intro n;induction n with
    |zero=>
     intro k Z u;obtain rfl:k=i:=by omega
     obtain⟨E,f,d⟩:=D (k+1) G (Pu m o u);refine⟨E,?_,d⟩;apply Tv;exact aw (by simp) ⟨au,f⟩
    |succ n a2=>
     intro k Z u;obtain⟨z,r⟩:∃z,ps[k]?=some z:=⟨_,bo (by omega)⟩
     cases hzp:z.name==p.name
     .obtain⟨E,f,d⟩:=a2 (k+1) (by omega) (eM r u hzp)
      refine⟨E,?_,d⟩;apply Tv;exact bj (bw (by omega)) ⟨_,_,by omega,aP r,_,_,by omega,aP m,aw hzp ⟨au,f⟩⟩
     .refine⟨.error 8,?_,rfl⟩
      apply Tv;exact bj (bw (by omega)) ⟨_,_,by omega,aP r,_,_,by omega,aP m,bj hzp fi⟩
   obtain⟨E,f,d⟩:=inner i 0 (by omega) (by simp)
   refine⟨E,?_,d⟩;apply Xj;exact aL (l:=ps) (by simp) g f
 obtain⟨E,f,d⟩:=key ps 0 rfl (fun a X=>by simp at X)
 refine⟨E,?_,d⟩;have w:ak 25 [vL 2 (ps.map cW.row),vL 1 (aJ names)] [] (rU E) []:=by
  apply W25;exact f
 cases E with
 |error e=>exact w
 |ok l=>exact Go.Ac.ak.soft w rfl
def V2(h:(dh ao).2=true):ao∈BK:=by
 unfold dh at h;cases h1:ao==[97,97,114,99,104,54,52]
 .cases h2:ao==[105,51,56,54]
  .cases h3:ao==[120,56,54,95,54,52]
   .rw[h1,h2,h3]at h;simp at h
   .rw[bZ h3];simp
  .rw[bZ h2];simp
 .rw[bZ h1];simp
def DM:∀{t:List cQ}{a o:List Bd},(∀p∈t,p.bk.length<=m)->gC u ao t a = .ok o->o.length<=a.length+t.length*m
 |[],a,o,_,h=>by simp[gC]at h;simp[h]
 |p::t,a,o,b,h=>by
  unfold gC at h;cases hz:iN u ao p.act p.bk a<;>rw[hz]at h
  .simp at h
  .have d:=Ap u ao p.act _ _ _ hz
   have e:=DM (fun q c=>b q (aV _ c)) h
   have f:=b p aW;rw[aD,cc,cR];omega
structure PB1 (x:cQ):Prop where
 pb:PB x
 one:∀r∈x.bk,r.cond.length<=1
def C12(u:fT)(ao:By)(a:og u)(a3:Pz u):∃E:Except Int (List Bd),ak 12 [qm u,vS ao] [] (abH E) []/\V1 (fun l=>ao∈BK/\l.length<=2^40/\∀I,eS u ao = .ok I->∀b∈I,b∈l) E:=by
 have a7:∀r,XO r->r.cond.length<=1:=fun r a1=>by
  rcases a1.cond with e|⟨z,e,-⟩<;>rw[e]<;>simp
 cases h1:(dh ao).2
 .refine⟨.error 1,?_,rfl⟩
  apply W12;exact⟨_,_,Zz ao,bj (by rw[h1];rfl) fi⟩
 .cases h2:jm u
  .refine⟨.error 1,?_,rfl⟩
   apply W12;exact⟨_,_,Zz ao,aw (by rw[h1];rfl) ⟨_,Z3 u a,bj (by rw[h2];rfl) fi⟩⟩
  .have Z:=V2 h1
   have k:=C24 u.aF a.dl fun d hd=>(a.aF d hd).2
   have hq:∀p∈u.aB,∀x∈p.aT,x.use=[]->PB1 x:=by
    intro p h x f a4;have M:=(cn (show(bif u.aF.all Ag then(bif(bif u.aB.all wR then decide ((u.main.length:Int)>0)else false)then(bif u.main.all bQ then(cg u.ch).2 else false)else false)else false)=true from h2)).2
    have Y:=(cn (cn M).1).1;have v:=bf.1 Y p h;have h6:=(cn (b:=bQ p.name) v).2;exact⟨Mw ((a.aB p h).aT x f) (bf.1 h6 x f) a4,fun r G=>a7 r (((a3.aB p h).2 x f).bk r G)⟩
   cases ht:oD u.aF with
   |error q=>
    rw[ht]at k;obtain⟨i,e⟩:=q;have R:(e !=0)=true:=wV ht;refine⟨.error e,?_,R⟩;apply W12;exact⟨_,_,Zz ao,aw (by rw[h1];rfl) ⟨_,Z3 u a,aw (by rw[h2];rfl) ⟨_,_,_,k,bj R fi⟩⟩⟩
   |ok q=>
    rw[ht]at k;obtain⟨F,X,Q⟩:=C25 u.aB u.main hq (fun p h=>(a.aB p h).pl) a.pl a.ml
    cases F with
    |error e=>
     refine⟨.error e,?_,Q⟩;apply W12;exact⟨_,_,Zz ao,aw (by rw[h1];rfl) ⟨_,Z3 u a,aw (by rw[h2];rfl) ⟨_,_,_,k,aw rfl ⟨_,_,X,bj Q fi⟩⟩⟩⟩
    |ok l=>
     obtain⟨a2,K,hA⟩:=Q;have key:∀(t:List cQ)(j:Nat)(g:List Bd),l.drop j=t->g.length<=j*2^20 ->
       MX ao (l.map cQ.row) (g.map Bd.row) j (u.aF.map cZ.row) (u.aB.map cW.row) (aJ u.main) u.ch.kind u.ch.data (OL (gC u ao t g)) []:=by
      intro t;induction t with
      |nil=>intro j g J _;apply W4;exact aQ (l:=l) (by simp) J fi
      |cons p t ih=>
       intro j g J ho;obtain⟨H,k2,k3⟩:=bM J;have h:=K p (aK H);have a8:=h.pb.sm.rl;have inner:∀(s:List gP)(i:Nat)(z:List Bd),p.bk.drop i=s->z.length+s.length<=j*2^20+p.bk.length ->
         MY ao (l.map cQ.row) (z.map Bd.row) j i (u.aF.map cZ.row) (u.aB.map cW.row) (aJ u.main) u.ch.kind u.ch.data (OL (match iN u ao p.act s z with|.error e=>.error e|.ok o=>gC u ao t o)) []:=by
        intro s;induction s with
        |nil=>
         intro i z D T;have:=lj D;apply Xa;exact⟨_,_,_,_,by omega,aP H,aQ (l:=p.bk) (by simp) D ⟨au,ih (j+1) z k2 (by
          have e:(j+1)*2^20=j*2^20+2^20:=by rw[cc,cR]
          simp only[cS]at T;omega)⟩⟩
        |cons r s a6=>
         intro i z D T;obtain⟨q1,q2,q3⟩:=bM D;simp only[aD]at T;have G:=aK q1;apply Xa;refine⟨_,_,_,_,by omega,aP H,aL (l:=p.bk) (by simp) D ⟨_,_,_,_,by omega,aP H,_,_,_,_,by omega,aP H,_,_,_,by omega,aP q1,_,_,_,_,_,_,_,_,_,_,C26 u ao (fun n=>Pm Z n) r p.act a (h.pb.sm.bk r G) (h.one r G) (h.pb.bool r G),ad (fun v=>aZ (by rw[iN,v];rfl)) fun v=>⟨by simp;omega,au,?_⟩⟩⟩
         have:=a6 (i+1) (z++[(eu u ao r p.act).1]) q2 (by simp;omega)
         rw[iN,v];rw[bN (l₁:=z),show[(eu u ao r p.act).1].map Bd.row=[bdC (eu u ao r p.act).1] by rw[<-Bd.cu];rfl]at this
         exact this
       apply W4;exact aL (l:=l) (by simp) J (inner p.bk 0 g rfl (by omega))
     have w:ak 12 [qm u,vS ao] [] (OL (gC u ao l [])) []:=by
      apply W12;exact⟨_,_,Zz ao,aw (by rw[h1];rfl) ⟨_,Z3 u a,aw (by rw[h2];rfl) ⟨_,_,_,k,aw rfl ⟨_,_,X,aw rfl (key l 0 [] rfl (by simp))⟩⟩⟩⟩
     cases hE:gC u ao l []with
     |error e=>
      rw[hE]at w;exact⟨.error e,w,xf hE⟩
     |ok r=>
      rw[hE]at w;refine⟨.ok r,Go.Ac.ak.soft w rfl,Z,?_,fun I c b A=>?_⟩
      .have M:=DM (m:=2^20) (fun p h=>(K p h).pb.sm.rl) hE
       have Y:l.length*2^20<=500*2^20:=dD _ a2;simp only[cS]at M;omega
      .obtain⟨er,-⟩:=xo l [] r (fun p h=>(K p h).one) hE
       unfold eS at c;rw[h1,h2,ht]at c;simp only[eB,af]at c;cases hf:nx u.aB u.main with
       |error e=>rw[hf]at c;simp at c
       |ok lp=>
        rw[hf]at c;simp only at c;have a0:∀x∈lp,x∈l:=fun x f=>by
         obtain⟨nm,n1,n2⟩:=V0 hf x f;exact hA nm n1 x n2
        obtain⟨eb,-⟩:=xo lp [] I (fun p h=>(K p (a0 p h)).one) c
        rw[eb,dP]at A;rw[er,dP];obtain⟨y,hy,rfl⟩:=bh.1 A;obtain⟨x,f,a5⟩:=eW.1 hy;exact bh.2 ⟨y,eW.2 ⟨x,a0 x f,a5⟩,rfl⟩
abbrev Jk:Cn:=.mk 1 0 0 0 0 []
def Jl:cA Jk=([[]],0):=by kernel_rfl
def one(l:List Sp):Prop:=l=[]\/∃a,l=[⟨[[]],a⟩]
def T8(h:one l)(a:Act):one (mI l ⟨[[]],a⟩):=by
 rcases h with rfl|⟨b,rfl⟩
 .exact .inr ⟨a,rfl⟩
 .exact .inr ⟨b,rfl⟩
def DN:∀(d:List Bd)(m a:List Mk),cE d m = .ok a->(∀b∈d,b.nr=nr->b.cond=Jk)->one (eH m nr)->one (eH a nr)
 |[],m,a,h,_,c=>by
  have:m=a:=by simpa[cE]using h
  subst this;exact c
 |b::t,m,a,h,f,c=>by
  unfold cE at h;cases h1 : !(cg b.act).2<;>rw[h1]at h
  .cases h2:(cA b.cond).2 !=0<;>rw[h2]at h
   .rw[af,af]at h
    refine DN t _ a h (fun x i=>f x (aV _ i)) ?_
    unfold eH;rw[AX];cases hn:nr==b.nr
    .exact c
    .have e:=bZ hn
     have g:=f b aW e.symm;rw[g,Jl,<-e];exact T8 c b.act
   .simp at h
  .simp at h
def V3(h:one l):(ie ⟨nr,l⟩ d).steps=[]:=by
 rcases h with rfl|⟨a,rfl⟩<;>rfl
def T9(d:Act)(h:cE f []=.ok m)(l:∀b∈f,0<=b.nr/\b.nr<4294967296)(n:∀b∈f,b.nr=nr->b.cond=Jk):∀x∈cC (bO m) d,x.lo<=nr->nr<=x.hi->x.steps=[]:=by
 obtain⟨-,j,-⟩:=po (sh (bO m) d) d (bO m) 0 [] (pn h l) rfl (fun x g=>by simp at g) fun _ _=>rfl
 intro x g a b;have e:=j x g nr a b;have i:(sh (bO m) d nr).1=x.steps:=by rw[e]
 rw[<-i];have e:=si (fun k=>⟨k,((gF m k).map (·.2)).getD []⟩) (fun k=>rfl) nr (gx (m.map (·.1)))
 have e:(bO m).find? (fun c=>nr==c.nr)=_:=e
 unfold sh;rw[e];cases(gx (m.map (·.1))).any (nr == ·)
 .rfl
 .exact V3 (DN f [] m h n (.inl rfl))
def Jm:∀{k l:List Int},k.Nodup->(∀x∈k,x∈l)->k.length<=l.length
 |[],l,_,_=>by simp
 |x::k,l,g,h=>by
  obtain⟨c,d⟩:=gX.1 g;have a:=h x aW;have f:=Jm (k:=k) (l:=l.erase x) d fun y b=>by
   have i:y≠x:=fun e=>c (e▸b)
   exact(List.mem_erase_of_ne i).2 (h y (aV _ b))
  rw[List.length_erase_of_mem a]at f;have:0<l.length:=List.length_pos_of_mem a;simp only[aD];omega
mutual
theorem LG(a:List cZ)(ps:List By):∀e,(dS a ps e).2=0->(dS a ps e).1.kind≠1
 |.mk k o n v l=>by
  intro h;unfold dS at h⊢;cases hk:k==4<;>rw[hk]at h
  .rw[af]at h⊢
   rw[BO a ps l _ _ h];cases k==1
   .cases k==2<;>simp
   .simp
  .rw[ai]at h⊢
   match l,h with
   |[],h=>simp[jh]at h
   |[_],h=>simp[jh]at h
   |x::y::_,h=>
    unfold jh at h⊢;simp only at h⊢;have d:∀i o m,(oE a i o m y).2=0->(oE a i o m y).1.kind≠1:=fun i o m c=>by
     unfold oE at c⊢;cases hz:(ck a y).2 !=0<;>rw[hz]at c
     .simp[Cn.kind]
     .simp[wU,Cn.kind]
    cases h1:decide (idx (x.name == ·) ps<0)<;>rw[h1]at h
    .rw[af]at h⊢
     cases h2:x.kind==6<;>rw[h2]at h
     .exact d _ _ _ h
     .rw[ai]at h⊢
      cases h3:(ck a (lx x 0)).2 !=0<;>rw[h3]at h
      .exact d _ _ _ h
      .simp[wU,Cn.kind]
    .simp at h
theorem BO(a:List cZ)(ps:List By):∀(l:List Ex)(b:List Cn)(k:Int),(hQ a ps l b k).2=0->(hQ a ps l b k).1.kind=k
 |[],b,k,_=>by rw[hQ];rfl
 |x::t,b,k,h=>by
  unfold hQ at h⊢;cases hz:(dS a ps x).2 !=0<;>rw[hz]at h
  .exact BO a ps t _ k h
  .rw[ai]at h;rw[show(dS a ps x).2=0 from h]at hz;simp at hz
end
def LH(s:og u)(q:Pz u)(h:eS u ao = .ok d):∀b∈d,b.cond.kind=1->b.cond=Jk:=by
 let Q:cQ->Prop:=fun x=>x.bk.length<=2^20/\∀r∈x.bk,r.cond.length<=1
 have o:∀r,XO r->r.cond.length<=1:=fun r h=>by
  rcases h.cond with e|⟨z,e,-⟩<;>rw[e]<;>simp
 refine(BF (Q:=Q) (P:=fun b=>b.cond.kind=1->b.cond=Jk) (n:=2^20) (fun x h=>h) (fun p f x i _=>⟨((s.aB p f).aT x i).rl,fun r a=>o r (((q.aB p f).2 x i).bk r a)⟩) (fun p g=>⟨g.1,fun r a j=>?_⟩) h).1
 obtain⟨c,t,v,k,l⟩:=xn (g.2 r a) j;rw[k];match hc:r.cond with
 |[]=>exact fun _=>rfl
 |e::_=>exact fun m=>absurd m (LG _ _ e (l e (by rw[hc];simp)))
def aja(i:TR u)(h:sw u ao=true):∃c code,eS u ao = .ok c/\fm code []=some (BG u ao)/\(∀x∈code,OP x)/\(∀x∈code,WZ x)/\code.length<=4096 /\
  ∀(d:Da)(nr:Int)(g:List Int)(D:Nat),C4 d->A8 nr->(∀b∈c,b.nr=nr->b.cond.kind=1)->(∀b∈c,b.nr∈g)->2*g.length+1<=2^D->∃v n,iB (kK (Z5 d ao nr)) code 0 v n/\n<=5+2*D:=by
 have K:(db u ao).2=0:=by
  unfold sw at h;cases f:decide (((fC u).length:Int)>20000)<;>rw[f]at h
  .exact bZ h
  .simp at h
 obtain⟨c,m,o,a⟩:=Bh (i.bk ao) K;obtain⟨b,s,Y⟩:=sn a.Z2;have e:BG u ao=b:=by rw[BG,h,s];rfl
 have z:=(i.bk ao c o).nr;refine⟨c,(db u ao).1,o,by rw[e];exact s,a.iok,Dh a.Z2 a.iok,(pt a.Z2).2.1,fun d nr g D H q r E T=>?_⟩
 have t:=Lz H ao q;have p:kK (Z5 d ao nr) 0=nr:=MW t;obtain⟨x,J,y,w,n,Q,G⟩:=a.run (kK (Z5 d ao nr)) (Dk t) (by rw[p];exact q)
 rw[p]at y w;have I:=T9 u.ch a.chain z (nr:=nr) (fun b f M=>LH i.sm i.rd o b f (r b f M)) x J y w
 have ok:=se c [] m a.chain (by simp) (by simp)
 have X:m.length<=g.length:=by
  have:=Jm ok.nodup (l:=g) fun k j=>by
   rcases ok.keys k j with j|⟨b,f,rfl⟩
   .simp at j
   .exact E b f
  simpa using this
 have Z:=(kL u.ch a.chain z).2;exact⟨_,n,Q,G I D (by omega)⟩
def acL(a b:Int):cf .or .u32 a b=cf .or .u32 b a:=by
 show wrap .u32 ((BitVec.ofInt 32 a ||| BitVec.ofInt 32 b).toNat:Int)=wrap .u32 ((BitVec.ofInt 32 b ||| BitVec.ofInt 32 a).toNat:Int)
 rw[BitVec.or_comm]
def acM(a b:Int):cf .or .u64 a b=cf .or .u64 b a:=by
 show wrap .u64 ((BitVec.ofInt 64 a ||| BitVec.ofInt 64 b).toNat:Int)=wrap .u64 ((BitVec.ofInt 64 b ||| BitVec.ofInt 64 a).toNat:Int)
 rw[BitVec.or_comm]
def V4(a:0<=n/\n<16777216)(b:0<=x/\x<256):cf .or .u32 (wrap .u32 (n*2^(min (toNat 8) (IntKind.bits .u32)))) (wrap .u32 x)=x+n*256:=by
 have c:(2:Int)^8=256:=rfl;rw[show min (toNat 8) (IntKind.bits .u32)=8 from rfl,vD (n:=x) (by omega) (by omega),vD (n:=n*2^8) (by omega) (by omega),acL,orI .u32 (.inl rfl) ⟨b.1,by omega⟩ a.1 (.inr (.inl ⟨rfl,by omega⟩)),c]
def V5(a:0<=n/\n<16777216)(b:0<=x/\x<256):cf .or .u64 (wrap .u64 (n*2^(min (toNat 8) (IntKind.bits .u64)))) (wrap .u64 x)=x+n*256:=by
 have c:(2:Int)^8=256:=rfl;rw[show min (toNat 8) (IntKind.bits .u64)=8 from rfl,kJ (n:=x) (by omega) (by omega),kJ (n:=n*2^8) (by omega) (by omega),acM,orI .u64 (.inr (.inl rfl)) ⟨b.1,by omega⟩ a.1 (.inr (.inr ⟨rfl,by omega⟩)),c]
def V6(h:b.drop (8*j)=ij x++d)(a:m<8)(c:n=((8*j+m:Nat):Int)):(gj b)[n.toNat]?=some [Y ((ij x).getD m 0)]:=by
 subst c;rw[toNat_cast,gj,bu,<-il,h,cj (by exact a),bR,bo (by exact a)]
 rfl
def C14(r:fm code []=some b)(q:∀x∈code,A8 x.k)(hl:code.length<=2^37):ak 14 [vL 1 (gj b)] [] [vL 4 (code.map In.row),vN 0] []:=by
 obtain⟨i,G⟩:=nG code [] b r;rw[dP]at i;have hlen:b.length=8*code.length:=by
  rw[i,List.length_flatMap];have:∀l:List In,(l.map fun x=>(ij x).length).sum=8*l.length:=by
   intro l;induction l with
   |nil=>rfl
   |cons x l d=>simp only[bG,eV,d,aD];show 8+_=_;omega
  exact this code
 have lb:(gj b).length=b.length:=al ..;have key:∀(t:List In)(j:Nat)(a:List In),code.drop j=t->b.drop (8*j)=t.flatMap ij->a=code.take j->Ni (gj b) (a.map In.row) ((8*j:Nat):Int) [.own 0 0 4 (code.map In.row),vN 0] []:=by
  intro t;induction t with
  |nil=>
   intro j a k g e;have:=lj k;rw[dE this]at e;subst e;apply Xw;rw[lb];exact aw (bB (by omega)) fi
  |cons x t d=>
   intro j a k g e;obtain⟨s,H,k3⟩:=bM k;have o:=aK s;rw[eX]at g;have T:b.drop (8*(j+1))=t.flatMap ij:=by
    rw[show 8*(j+1)=8*j+8 by omega,<-eC,g];rfl
   have d:=d (j+1) (a++[x]) H T (by rw[e,eE,s];rfl)
   have one:=Bf (G x o) (q x o) [];have v:=congrArg In.code one;have y:=congrArg In.jt one;have z:=congrArg In.jf one;have u:=q x o;have f:=u.1;have R:=u.2;have X:kB x.k 0=x.k%256:=by have:=xQ f 0 (by decide);simpa using this
   have Z:kB x.k 1=x.k/256%256:=xQ f 1 (by decide)
   have F:kB x.k 2=x.k/65536%256:=xQ f 2 (by decide)
   have A:kB x.k 3=x.k/16777216%256:=xQ f 3 (by decide)
   have I:=V4 (n:=0) (x:=kB x.k 3) ⟨by omega,by omega⟩ ⟨by omega,by omega⟩
   have J:=V4 (n:=kB x.k 3+0*256) (x:=kB x.k 2) ⟨by omega,by omega⟩ ⟨by omega,by omega⟩
   have M:=V4 (n:=kB x.k 2+(kB x.k 3+0*256)*256) (x:=kB x.k 1) ⟨by omega,by omega⟩ ⟨by omega,by omega⟩
   have Q:=V4 (n:=kB x.k 1+(kB x.k 2+(kB x.k 3+0*256)*256)*256) (x:=kB x.k 0) ⟨by omega,by omega⟩ ⟨by omega,by omega⟩
   have h:kB x.k 0+(kB x.k 1+(kB x.k 2+(kB x.k 3+0*256)*256)*256)*256=x.k:=by omega
   have a0:a.length<=j:=by rw[e];simp;omega
   have c:∀(m:Nat)(n:Int),m<8->n=((8*j+m:Nat):Int)->(gj b)[n.toNat]?=some [Y ((ij x).getD m 0)]:=fun m n D E=>V6 g D E
   have p:a.map In.row++([[N x.code,N x.jt,N x.jf,W x.k]]:Rw)=(a++[x]).map In.row:=by rw[bN];rfl
   apply Xw;rw[lb];refine bj (bw (by omega)) ⟨_,by omega,c 0 _ (by decide) rfl,au,_,by omega,c 1 _ (by decide) (by omega),by omega,au,_,by omega,c 2 _ (by decide) (by omega),au,_,by omega,c 3 _ (by decide) (by omega),?_⟩
   have K:Nj (gj b) (a.map In.row) ((8*j:Nat):Int) 7 x.code x.jt x.jf 0 [.own 0 0 4 (code.map In.row),vN 0] []:=by
    apply IU;refine bj rfl ⟨by omega,au,kB x.k 3,by omega,c 7 _ (by decide) (by omega),au,?_⟩
    rw[I];apply IU;refine bj rfl ⟨by omega,au,kB x.k 2,by omega,c 6 _ (by decide) (by omega),au,?_⟩
    rw[J];apply IU;refine bj rfl ⟨by omega,au,kB x.k 1,by omega,c 5 _ (by decide) (by omega),au,?_⟩
    rw[M];apply IU;refine bj rfl ⟨by omega,au,kB x.k 0,by omega,c 4 _ (by decide) (by omega),au,?_⟩
    rw[Q,h];apply IU;refine aw rfl ⟨by rw[p];simp;omega,au,?_⟩
    rw[p];rw[show 8*(j+1)=8*j+8 by omega]at d
    exact d
   rw[<-v,<-y,<-z]at K;exact K
 have w:ak 14 [vL 1 (gj b)] [] [.own 0 0 4 (code.map In.row),vN 0] []:=by
  apply W14;rw[lb,hlen];exact⟨by decide,aw (by rw[pB (by omega)];simp) (key code 0 [] rfl (by rw[Nat.mul_zero,fK];exact i) (by simp))⟩
 exact Go.Ac.ak.soft w rfl
def four{D:List Int}(z:∀x∈D,0<=x/\x<256)(Y:k+4<=D.length):kS ((D.take (k+4)).drop k)=D.getD k 0+D.getD (k+1) 0*256+D.getD (k+2) 0*65536+D.getD (k+3) 0*16777216:=by
 have g:∀i,i<D.length->∃x,D[i]?=some x/\D.getD i 0=x/\0<=x/\x<256:=fun i f=>⟨D[i],bo f,by rw[bR,bo f];rfl,z _ (fL f)⟩
 obtain⟨a,o,p,H,I⟩:=g k (by omega)
 obtain⟨b,q,s,J,K⟩:=g (k+1) (by omega)
 obtain⟨c,t,u,M,Q⟩:=g (k+2) (by omega)
 obtain⟨e,v,w,T,X⟩:=g (k+3) (by omega)
 have y:(D.take (k+4)).drop k=gG (a+b*256+c*65536+e*16777216) 4 0:=by
  have d:0<=a+b*256+c*65536+e*16777216:=by omega
  have j:=sj d 0 (by decide)
  have l:=sj d 1 (by decide)
  have m:=sj d 2 (by decide)
  have n:=sj d 3 (by decide)
  have E:(2:Int)^(8*1)=256:=rfl;have t2:(2:Int)^(8*2)=65536:=rfl;have G:(2:Int)^(8*3)=16777216:=rfl;have r:(2:Int)^(8*0)=1:=rfl;rw[r]at j;rw[E]at l;rw[t2]at m;rw[G]at n;have h:gG (a+b*256+c*65536+e*16777216) 4 0=[a,b,c,e]:=by
   simp only[gG];rw[show j9 (a+b*256+c*65536+e*16777216) 0=a by rw[show j9 (a+b*256+c*65536+e*16777216) 0=_ from j];omega,show j9 (a+b*256+c*65536+e*16777216) (0+1:Nat)=b by rw[show j9 (a+b*256+c*65536+e*16777216) (0+1:Nat)=_ from l];omega,
    show j9 (a+b*256+c*65536+e*16777216) (0+1+1:Nat)=c by rw[show j9 (a+b*256+c*65536+e*16777216) (0+1+1:Nat)=_ from m];omega,show j9 (a+b*256+c*65536+e*16777216) (0+1+1+1:Nat)=e by rw[show j9 (a+b*256+c*65536+e*16777216) (0+1+1+1:Nat)=_ from n];omega]
  rw[h];apply fe;intro i;rw[il,ff];match i with
  |0=>rw[aG (by omega)];exact o
  |1=>rw[aG (by omega)];exact q
  |2=>rw[aG (by omega)];exact t
  |3=>rw[aG (by omega)];exact v
  |i+4=>rw[aN (by omega)];rfl
 rw[y,Be (by omega) 4 (by decide),p,s,u,w]
 exact Int.emod_eq_of_lt (by omega) (by have:(2:Int)^(8*4)=4294967296:=rfl;omega)
def NP(n:Int):∀(k i:Nat),∀x∈gG n k i,0<=x/\x<256
 |0,_,x,h=>by simp[gG]at h
 |k+1,i,x,h=>by
  rcases aY.1 h with rfl|h
  .unfold j9;rw[Di];omega
  .exact NP n k _ x h
def V7(d:Da):∀x∈l6 d,0<=x/\x<256:=by
 intro x a;unfold l6 at a;simp only[bp]at a;rcases a with(((((((h|h)|h)|h)|h)|h)|h)|h)|h<;>exact NP _ _ _ x h
def C74{D:List Int}(b:∀x∈D,0<=x/\x<256)(d:k+4<=D.length)(u:D.length<=100):ak 74 [vL 1 (gj D),vN k,vN 4] [] [vU (kS ((D.take (k+4)).drop k))] []:=by
 have g:∀i,i<D.length->0<=D.getD i 0/\D.getD i 0<256:=fun i c=>by rw[bR,bo c];exact b _ (fL c)
 have a:∀(m:Nat)(n:Int),m<D.length->n=(m:Int)->(gj D)[n.toNat]?=some [Y (D.getD m 0)]:=fun m n e f=>by rw[f,toNat_cast];exact w8 e
 have r0:=g k (by omega)
 have j:=g (k+1) (by omega)
 have l:=g (k+2) (by omega)
 have o:=g (k+3) (by omega)
 have p:=V5 (n:=0) (x:=D.getD (k+3) 0) ⟨by omega,by omega⟩ o
 have q:=V5 (n:=D.getD (k+3) 0+0*256) (x:=D.getD (k+2) 0) ⟨by omega,by omega⟩ l
 have s:=V5 (n:=D.getD (k+2) 0+(D.getD (k+3) 0+0*256)*256) (x:=D.getD (k+1) 0) ⟨by omega,by omega⟩ j
 have t:=V5 (n:=D.getD (k+1) 0+(D.getD (k+2) 0+(D.getD (k+3) 0+0*256)*256)*256) (x:=D.getD k 0) ⟨by omega,by omega⟩ r0
 rw[four b d];apply W74;refine⟨au,?_⟩;apply IW;refine bj rfl ⟨by omega,au,_,by omega,a (k+3) _ (by omega) (by omega),au,?_⟩
 rw[p];apply IW;refine bj rfl ⟨by omega,au,_,by omega,a (k+2) _ (by omega) (by omega),au,?_⟩
 rw[q];apply IW;refine bj rfl ⟨by omega,au,_,by omega,a (k+1) _ (by omega) (by omega),au,?_⟩
 rw[s];apply IW;refine bj rfl ⟨by omega,au,_,by omega,a k _ (by omega) (by omega),au,?_⟩
 rw[t];apply IW;exact aw rfl (aZ (by congr 2;omega))
def C54(d:Da)(h:C4 d)(off:Int)(b:0<=off)(a:off%4=0)(e:off<=60):ak 54 [Li d,vW off] [] [vW (kK d off),vB true] []:=by
 obtain⟨k,rfl⟩:∃k:Nat,off=k:=⟨off.toNat,by omega⟩
 have hlen:(l6 d).length=64:=by unfold l6;simp[dT]
 have c:=C74 (V7 d) (k:=k) (by omega) (by omega)
 apply W54;rw[om (n:=(k:Int)) (by omega) (by omega)]
 refine⟨by decide,aw ?_ ⟨_,C19 d h,_,c,aZ ?_⟩⟩
 .rw[pB (by omega),a,bB (by omega)];rfl
 .unfold kK
  rw[toNat_cast,show toNat ((k:Int)+4)=k+4 by omega]
abbrev mr(A:Int):Bx:=K3 A 0 0 0 0 0 0 0 0 0 0 0 0 0 0 0 0 0
def ajb(h:MO c=true):ak 27 [vN c] [] [vB true] []:=by
 apply W27;rcases ly h with rfl|rfl|rfl
 .exact bj rfl fi
 .exact aw rfl (aw rfl (bj rfl fi))
 .exact aw rfl (aw rfl (aw rfl (aw rfl (bj rfl fi))))
def ajc(h:c=32\/c=84\/c=135):ak 27 [vN c] [] [vB false] []:=by
 apply W27;rcases h with rfl|rfl|rfl<;>exact aw rfl (aw rfl (aw rfl (aw rfl (aw rfl (aw rfl (aw rfl (aw rfl fi)))))))
def C28(A k:Int)(h:MO c=true):ak 28 [vN c,vW A,vW k] [] [vB (gE c A k)] []:=by
 apply W28;rcases ly h with rfl|rfl|rfl
 .exact bj rfl fi
 .exact aw rfl (aw rfl (bj rfl fi))
 .exact aw rfl (aw rfl (aw rfl (aw rfl (bj rfl fi))))
def C29(A k:Int)(h:MO c=true):ak 29 [.az 0 0,vN c,vW k] [mr A] [vW k] [mr A]:=by
 apply W29;rcases ly h with rfl|rfl|rfl<;>exact aw (by decide+kernel) fi
def ZN(d:Da)(A k:Int):ak 30 [.az 0 0,vN 84,vW k,Li d] [mr A] [vB true,vB false] [mr (Ip A k)]:=by
 have a:ak 52 [vN 84] [] [vB true] []:=by
  apply W52;exact aw rfl (aw rfl (aw rfl (aw rfl (aw rfl (aw rfl (aw rfl (aw rfl (aw rfl (aw rfl (bj rfl fi))))))))))
 have b:ak 53 [vN 84,vW A,vW k] [] [vW (Ip A k)] []:=by
  apply W53;exact aw rfl (aw rfl (aw rfl (aw rfl (aw rfl (aw rfl (aw rfl (aw rfl (aw rfl (aw rfl (bj rfl fi))))))))))
 apply W30;exact⟨_,a,bj rfl (aw (by decide+kernel) (aw rfl ⟨_,b,fi⟩))⟩
def acN(h:c=32\/c=135):ak 52 [vN c] [] [vB false] []:=by
 apply W52;rcases h with rfl|rfl<;>exact aw rfl (aw rfl (aw rfl (aw rfl (aw rfl (aw rfl (aw rfl (aw rfl (aw rfl (aw rfl (aw rfl (aw rfl (aw rfl (aw rfl (aw rfl (aw rfl (aw rfl (aw rfl fi)))))))))))))))))
def V8(d:Da)(A k:Int):ak 30 [.az 0 0,vN 135,vW k,Li d] [mr A] [vB true,vB false] [mr 0]:=by
 apply W30;exact⟨_,acN (.inr rfl),aw rfl (aw rfl (aw rfl (aw rfl (aw rfl (aw rfl (aw rfl (bj rfl fi)))))))⟩
def ZO(d:Da)(h:C4 d)(A:Int)(a:0<=k)(b:k%4=0)(c:k<=60):ak 30 [.az 0 0,vN 32,vW k,Li d] [mr A] [vB true,vB false] [mr (kK d k)]:=by
 apply W30;exact⟨_,acN (.inl rfl),aw rfl (aw rfl (aw rfl (aw rfl (aw rfl (aw rfl (aw rfl (aw rfl (bj rfl ⟨_,_,C54 d h k a b c,fi⟩))))))))⟩
def iB.ne{wd:Int->Int}(h:iB wd l A v n):l≠[]:=by cases h<;>simp
def NQ{wd:Int->Int}{l:List In}(b:l.drop i=x::t)(g:0<=j)(c:iB wd (t.drop j.toNat) A v m):(i:Int)+1+j<l.length:=by
 have a:=c.ne;obtain⟨k,d,n⟩:=bM b;have e:j.toNat<t.length:=Nat.lt_of_not_le fun h=>a (yo h)
 have f:t.length=l.length-(i+1):=by rw[<-d,gY]
 omega
def V9(l:List In)(d:Da)(r:C4 d)(M:l.length<=4096)(q:∀x∈l,WZ x)(H:iB (kK d) t A v m):∀(i n:Nat),l.drop i=t->n+m<=4096 ->
  qL (l.map In.row) i n d.nr d.ao d.ip d.a0 d.a1 d.a2 d.a3 d.a4 d.a5 A 0 0 0 0 0 0 0 0 0 0 0 0 0 0 0 0 0 [vW v,vN ((n+m:Nat):Int),vB true] []:=by
 have p:(l.map In.row).length=l.length:=al ..;have step:∀{x:In}{t:List In}{v B A:Int}{m i n:Nat},l.drop i=x::t->n+(m+1)<=4096->(x.code=32\/x.code=84\/x.code=135)->ak 30 [.az 0 0,vN x.code,vW x.k,Li d] [mr A] [vB true,vB false] [mr B]->
   qL (l.map In.row) ((i+1:Nat):Int) ((n+1:Nat):Int) d.nr d.ao d.ip d.a0 d.a1 d.a2 d.a3 d.a4 d.a5 B 0 0 0 0 0 0 0 0 0 0 0 0 0 0 0 0 0 [vW v,vN ((n+1+m:Nat):Int),vB true] []->
   qL (l.map In.row) i n d.nr d.ao d.ip d.a0 d.a1 d.a2 d.a3 d.a4 d.a5 A 0 0 0 0 0 0 0 0 0 0 0 0 0 0 0 0 0 [vW v,vN ((n+(m+1):Nat):Int),vB true] []:=by
  intro x t v B A m i n b f a G K;obtain⟨c,e,o⟩:=bM b;apply Nk;rw[p];refine bj (bw (by omega)) (aw (by rw[bB (by omega),af];exact bB (by omega)) ⟨x.code,x.jt,x.jf,x.k,by omega,aP c,au,aw (by rcases a with h|h|h<;>rw[h]<;>rfl) (aw (by rcases a with h|h|h<;>rw[h]<;>rfl) (aw (by rcases a with h|h|h<;>rw[h]<;>rfl)
   ⟨_,ajc a,aw rfl ⟨_,_,_,_,_,_,_,_,_,_,_,_,_,_,_,_,_,_,_,_,G,aw rfl (aw rfl ⟨au,?_⟩)⟩⟩))⟩)
  rw[show n+(m+1)=n+1+m by omega]
  exact K
 induction H with
 |@ld x t A v m a _ g=>
  intro i n b f;obtain⟨c,e,o⟩:=bM b;have k:=q x (aK c);have y:=k.ld a;exact step b f (.inl a) (by rw[a];exact ZO d r A k.k.1 y.1 y.2) (g (i+1) (n+1) e (by omega))
 |@an x t A v m a _ g=>
  intro i n b f;obtain⟨c,e,o⟩:=bM b;exact step b f (.inr (.inl a)) (by rw[a];exact ZN d A x.k) (g (i+1) (n+1) e (by omega))
 |@tx x t A v m a _ g=>
  intro i n b f;obtain⟨c,e,o⟩:=bM b;exact step b f (.inr (.inr a)) (by rw[a];exact V8 d A x.k) (g (i+1) (n+1) e (by omega))
 |@rt x t A a=>
  intro i n b f;obtain⟨c,e,o⟩:=bM b;apply Nk;rw[p];exact bj (bw (by omega)) (aw (by rw[bB (by omega),af];exact bB (by omega)) ⟨x.code,x.jt,x.jf,x.k,by omega,aP c,au,bj (by rw[a];rfl) ⟨au,aZ rfl⟩⟩)
 |@ja x t A v m a u g=>
  intro i n b f;obtain⟨c,e,o⟩:=bM b;have k:=q x (aK c);have I:=k.k;have D:=NQ b I.1 u;have K:=g (i+1+x.k.toNat) (n+1) (by rw[<-e,eC]) (by omega)
  apply Nk;rw[p];refine bj (bw (by omega)) (aw (by rw[bB (by omega),af];exact bB (by omega)) ⟨x.code,x.jt,x.jf,x.k,by omega,aP c,au,aw (by rw[a];rfl) (aw (by rw[a];rfl) (bj (by rw[a];rfl) ?_))⟩)
  rw[kJ (n:=x.k) (by omega) (by omega),kJ (n:=(l.length:Int)) (by omega) (by omega),om (n:=x.k) (by omega) (by omega)]
  refine aw (bB (by omega)) ⟨au,au,?_⟩
  rw[show(i:Int)+1+x.k=((i+1+x.k.toNat:Nat):Int) by omega,show n+(m+1)=n+1+m by omega]
  exact K
 |@jp x t A v m a u g=>
  intro i n b f;obtain⟨c,e,o⟩:=bM b;have k:=q x (aK c);have Q:=k.jt;have D:=k.jf;have w:0<=(bif gE x.code A x.k then x.jt else x.jf):=by cases gE x.code A x.k<;>simp only[ai,af]<;>omega
  have J:=NQ b w u;have K:=g (i+1+(bif gE x.code A x.k then x.jt else x.jf).toNat) (n+1) (by rw[<-e,eC]) (by omega)
  have s:=ly a;have join:∀j:Int,(bif gE x.code A x.k then x.jt else x.jf)=j->so (l.map In.row) ((i:Int)+1) n j d.nr d.ao d.ip d.a0 d.a1 d.a2 d.a3 d.a4 d.a5 A 0 0 0 0 0 0 0 0 0 0 0 0 0 0 0 0 0 [vW v,vN ((n+(m+1):Nat):Int),vB true] []:=by
   intro j E;rw[E]at w J K;apply Zx;rw[p];refine aw (bB (by omega)) (aw (bB (by omega)) ⟨au,au,?_⟩)
   rw[show(i:Int)+1+j=((i+1+j.toNat:Nat):Int) by omega,show n+(m+1)=n+1+m by omega]
   exact K
  have both:∃z,ak 29 [.az 0 0,vN x.code,vW x.k] [mr A] [vW z] [mr A]/\∃jumps,ak 28 [vN x.code,vW A,vW z] [] [vB jumps] []/\aI jumps (so (l.map In.row) ((i:Int)+1) n x.jt d.nr d.ao d.ip d.a0 d.a1 d.a2 d.a3 d.a4 d.a5 A 0 0 0 0 0 0 0 0 0 0 0 0 0 0 0 0 0 [vW v,vN ((n+(m+1):Nat):Int),vB true] [])
    (so (l.map In.row) ((i:Int)+1) n x.jf d.nr d.ao d.ip d.a0 d.a1 d.a2 d.a3 d.a4 d.a5 A 0 0 0 0 0 0 0 0 0 0 0 0 0 0 0 0 0 [vW v,vN ((n+(m+1):Nat):Int),vB true] []):=
   ⟨_,C29 A x.k a,_,C28 A x.k a,ad (fun h=>join _ (by rw[h];rfl)) fun h=>join _ (by rw[h];rfl)⟩
  apply Nk;rw[p];exact bj (bw (by omega)) (aw (by rw[bB (by omega),af];exact bB (by omega)) ⟨x.code,x.jt,x.jf,x.k,by omega,aP c,au,aw (by rcases s with h|h|h<;>rw[h]<;>rfl) (aw (by rcases s with h|h|h<;>rw[h]<;>rfl) (aw (by rcases s with h|h|h<;>rw[h]<;>rfl)
   ⟨_,ajb a,bj rfl ⟨both,both⟩⟩))⟩)
def C16(l:List In)(d:Da)(a:C4 d)(c:l.length<=4096)(b:∀x∈l,WZ x)(H:iB (kK d) l 0 v m):ak 16 [vL 4 (l.map In.row),Li d] [] [vW v,vN m,vB true] []:=by
 apply W16;have:=V9 l d a c b H 0 0 rfl (by have:=H.len;omega)
 rw[cv]at this;exact this
def Ua(n:Int):List PV:=[W n]
def Jn{k:Nat}(h:k<=45):wrap .i64 ((1:Int)*2^(min (toNat (wrap .u64 (k:Int))) (IntKind.bits .i64)))=((2^k:Nat):Int):=by
 have a:(2:Nat)^k<=2^45:=yj (by decide) h
 rw[kJ (n:=(k:Int)) (by omega) (by omega),toNat_cast,show min k (IntKind.bits .i64)=k by simp[IntKind.bits];omega,Int.one_mul]
 have e:((2:Int)^k)=((2^k:Nat):Int):=by push_cast;rfl
 rw[e];generalize 2^k=M at*;rw[om (by omega) (by omega)]
def C5(u:fT)(hu:I1 u)(hr:Rng u)(ao:By)(nr:Int)(H:A8 nr)(d:Da)(G:C4 d):ak 5 [qm u,vS ao,vW nr,Li d] [] [vB true] []:=by
 apply W5;refine⟨_,C6,aw rfl ⟨_,C8 u hu,ad (fun _=>fi) fun hg=>?_⟩⟩
 obtain⟨b1,b4⟩:=Bp (b :=!TQ u) hg;have p:=TS hr (by simpa using b1)
 obtain⟨E,T,D⟩:=C12 u ao p.sm p.rd;cases E with
 |error e=>exact⟨_,_,C10 u ao p,_,_,T,bj (by rw[show(e !=0)=true from D];cases sw u ao<;>rfl) fi⟩
 |ok l=>
  obtain⟨ha,b5,D⟩:=D;refine⟨_,_,C10 u ao p,_,_,T,ad (fun _=>fi) fun a1=>?_⟩
  have ho:sw u ao=true:=by
   cases hq:sw u ao
   .rw[hq]at a1;simp at a1
   .rfl
  obtain⟨bs,code,a9,A,a4,a6,R,a7⟩:=aja p ho;have J:=D bs a9;have k2:∀(m k:Nat)(h:List Int),k+m=45->h.length<=2^40->(∀b∈l,b.nr=nr->b.cond.kind=1)->(∀b∈l,b.nr∈h)->VP ao nr (gj (BG u ao)) (h.map Ua) k d.nr d.ao d.ip d.a0 d.a1 d.a2 d.a3 d.a4 d.a5 [vB true] []:=by
   intro m;induction m with
   |zero=>
    intro k h j I c f;obtain rfl:k=45:=by omega
    obtain⟨v,n,r,b3⟩:=a7 d nr h 45 G H (fun b a=>c b (J b a)) (fun b a=>f b (J b a)) (by omega)
    have hlen:=r.len;apply acD;rw[Jn (by omega),show(h.map Ua).length=h.length from al ..,kJ (n:=((45:Nat):Int)) (by omega) (by omega)]
    refine⟨by omega,au,au,aw (bB (by omega)) ⟨_,_,C14 A (fun x M=>(a4 x M).k) (by omega),_,_,Zz ao,_,_,_,C16 code (Z5 d ao nr) (Lz G ao H) R a6 r,bj rfl ⟨au,au,aZ ?_⟩⟩⟩
    rw[bw (by omega),show(code.map In.row).length=code.length from al ..,bw (by omega)];rfl
   |succ m b2=>
    intro k h j I c f;apply acD;rw[Jn (by omega),show(h.map Ua).length=h.length from al ..,kJ (n:=(k:Int)) (by omega) (by omega)]
    refine⟨by omega,au,au,ad (fun _=>⟨au,b2 (k+1) h (by omega) I c f⟩) fun a2=>?_⟩
    have a2:=bI a2;obtain⟨v,n,r,b3⟩:=a7 d nr h k G H (fun b a=>c b (J b a)) (fun b a=>f b (J b a)) (by omega)
    have hlen:=r.len;refine⟨_,_,C14 A (fun x M=>(a4 x M).k) (by omega),_,_,Zz ao,_,_,_,C16 code (Z5 d ao nr) (Lz G ao H) R a6 r,bj rfl ⟨au,au,aZ ?_⟩⟩
    rw[bw (by omega),show(code.map In.row).length=code.length from al ..,bw (by omega)];rfl
  have k0:∀(t:List Bd)(i:Nat)(h:List Int),l.drop i=t->h.length<=i->h.length<=l.length->(∀b∈l.take i,b.nr=nr->b.cond.kind=1)->(∀b∈l.take i,b.nr∈h)->Pg ao nr (gj (BG u ao)) (l.map Bd.row) (h.map Ua) i d.nr d.ao d.ip d.a0 d.a1 d.a2 d.a3 d.a4 d.a5 [vB true] []:=by
   intro t;induction t with
   |nil=>
    intro i h q I a5 c f;have b0:=lj q;rw[dE b0]at c f;apply acB;exact aQ (l:=l) (by simp) q (k2 45 0 h (by omega) (by omega) c f)
   |cons b t X=>
    intro i h q I a5 c f;obtain⟨w,Z,q3⟩:=bM q;have a:(l.map Bd.row)[toNat (i:Int)]?=some [W b.nr,N b.act.kind,N b.act.data,N b.cond.kind,N b.cond.arg,N b.cond.op,U b.cond.mask,U b.cond.value,L 6 (da b.cond.kids)]:=(aP w).trans (by rw[Bd.cu];rfl)
    have inner:(b.nr=nr->b.cond.kind=1)->∀(s:List Int)(k:Nat)(there:Bool),h.drop k=s->(there=true->b.nr∈h)->(there=false->∀z∈h.take k,z≠b.nr)->Ph ao nr (gj (BG u ao)) (l.map Bd.row) (h.map Ua) i there k d.nr d.ao d.ip d.a0 d.a1 d.a2 d.a3 d.a4 d.a5 [vB true] []:=by
     intro F s;induction s with
     |nil=>
      intro k there j K a0;apply acC;refine aQ (l:=h) (by simp) j (ad (fun g=>⟨_,_,_,_,_,_,_,_,_,by omega,a,by simp;omega,au,?_⟩) fun g=>⟨au,?_⟩)
      .have:=X (i+1) (h++[b.nr]) Z (by simp;omega) (by simp;omega) (eM w c F) (eM (P:=fun b'=>b'.nr∈h++[b.nr]) w (fun y hy=>bp.2 (.inl (f y hy))) (by simp))
       rw[bN]at this;exact this
      .exact X (i+1) h Z (by omega) a5 (eM w c F) (eM (P:=fun b'=>b'.nr∈h) w f (K (by simpa using g)))
     |cons z s a3=>
      intro k there j K a0;obtain⟨Q,Y,p3⟩:=bM j;apply acC;refine aL (l:=h) (by simp) j (ad (fun g=>⟨au,a3 (k+1) true Y (fun _=>K g) (by simp)⟩) fun g=>⟨z,by omega,aP Q,_,_,_,_,_,_,_,_,_,by omega,a,au,a3 (k+1) (z==b.nr) Y (fun o=>by rw[<-bZ o];exact aK Q) fun o=>eM Q (a0 g) (by simpa using o)⟩)
    apply acB;refine aL (l:=l) (by simp) q ⟨_,_,_,_,_,_,_,_,_,by omega,a,ad (fun g=>⟨_,_,_,_,_,_,_,_,_,by omega,a,ad (fun _=>fi) fun o=>?_⟩) fun g=>?_⟩
    .exact inner (fun _=>by simpa using o) h 0 false rfl (by simp) (by simp)
    .exact inner (fun a8=>by simp at g;exact absurd a8 g) h 0 false rfl (by simp) (by simp)
  exact k0 l 0 [] rfl (by simp) (by simp) (by simp) (by simp)
end Go.Ac.S4
end
section
namespace Go.Proofs.YtifcddmbgnmnjaaGreatDoor.yN
open Go Go.Ac Go.ChangeShapes Go.WideShapes Go.ChangeAt Go.RowKit
set_option maxRecDepth 100000 in
theorem lifted(os:Os)(started:os.Started)(H:Type)(enc:TypeId×Value->H):
  ReturnsInHanded {} Tryz.checked os 5 .any (fun w args=>(Rows.topCostSpec.pre enc Tryz.prog Tryz.f5 Rows.topCostRow.domain false w args/\laidMetH Tryz.prog xY w)/\sizedMet enc Tryz.prog Tryz.f5 (OpenSpec.ofChange Rows.topCostSpec) false w args)
   (Rows.topCostSpec.post enc Tryz.prog Tryz.f5 false true false false):=by
 refine handed (C:=Tryz.checked) (X:=fun w _=>laidMetH Tryz.prog xY w) (fun _ _ _ hh h=>h.of_heap hh) own started (by kernel_rfl) Tryz.func5
  (ChangeSpec.witness_shaped (enc:=enc) (C:=Tryz.checked) (os:=os) (X:=fun w _=>laidMetH Tryz.prog xY w) false (World.laidAll Tryz.prog os xY)
   #[.agg #[.slice none 0 0,.slice none 0 0,.slice none 0 0,.int .i64 0,.int .i64 0],.string ⟨#[]⟩,.int .u32 0,.agg #[.int .u32 0,.int .u32 0,.int .u64 0,.int .u64 0,.int .u64 0,.int .u64 0,.int .u64 0,.int .u64 0,.int .u64 0]] 8 (World.laidAll_os _ _ _)
   (World.shaped_of_ZipB (by kernel_rfl) (by kernel_rfl)) (by kernel_rfl) (by kernel_rfl) (by kernel_rfl) (ai7 os _)) ?_
 intro W b4 args E F before b6 I b5 A a9;have T:(DataW.weightsEach Tryz.prog (Tryz.f5.params.toList++Rows.topCostSpec.plain.varTypes Tryz.prog) (E++F)).all (· <= reachBytes)=true:=b5
 have f:∀(j:Nat)t v,Tryz.f5.params[j]?=some t->args[j]?=some v->Value.okWide Tryz.prog W .any b4 t v:=b6;have a1:=I;obtain⟨p,q,a0,R,rfl,c1,c2⟩:=I;have G:DataW.TrodAll enc Tryz.prog W 0 (fun _=>true) true Tryz.f5.params.toList args.toList E p:=a0
 rw[Tryz.params5]at G f T;obtain⟨J,c3,y,b7,p0,q0,c7,rfl,rfl,i,r0⟩:=trodAll_cons G;obtain⟨K,c4,z,b8,p1,q1,rfl,rfl,rfl,k,r1⟩:=trodAll_cons r0;obtain⟨M,c5,r,b9,p2,q2,rfl,rfl,rfl,l,r2⟩:=trodAll_cons r1;obtain⟨Q,c6,D,c0,p3,q3,rfl,rfl,rfl,o,r3⟩:=trodAll_cons r2;obtain⟨rfl,rfl,rfl⟩:=trodAll_nil r3;obtain rfl:args = #[J,K,M,Q]:=by cases args;simp_all
 have g:=fun n b=>aU (bf.1 T n b)
 have w0:o0 Tryz.prog 28 y:=lh g 0 28 y rfl rfl;have w1:o0 Tryz.prog 9 z:=lh g 1 9 z rfl rfl;have w2:o0 Tryz.prog 29 r:=lh g 2 29 r rfl rfl;have w3:o0 Tryz.prog 33 D:=lh g 3 33 D rfl rfl;obtain⟨rfl,rfl⟩:=trodVars_none R;have b0:∀x∈p0,x.block<W.heap.size:=by
  obtain⟨m,a⟩:=i;exact DataW.trod_lt m _ _ _ a
 have b1:∀x∈p1,x.block<W.heap.size:=by
  obtain⟨m,a⟩:=k;exact DataW.trod_lt m _ _ _ a
 have b2:∀x∈p2,x.block<W.heap.size:=by
  obtain⟨m,a⟩:=l;exact DataW.trod_lt m _ _ _ a
 have b3:∀x∈p3,x.block<W.heap.size:=by
  obtain⟨m,a⟩:=o;exact DataW.trod_lt m _ _ _ a
 obtain⟨X0,rfl⟩:=Go.Ac.okWide_struct Tryz.underlying28 (f 0 28 J rfl rfl);obtain⟨X3,rfl⟩:=Go.Ac.okWide_struct Tryz.underlying33 (f 3 33 Q rfl rfl);obtain⟨_,⟨u,hu,hr,rfl⟩,a2⟩:=LX i w0 fun m=>S4.VX m
 obtain⟨_,a7,a3⟩:=LW k w1 (fun m=>S4.xX m) (Go.Ac.okWide_string Tryz.underlying9 (f 1 9 K rfl rfl)) (fun p s=>by obtain⟨n,b⟩:=s;exact⟨_,b⟩)
 obtain⟨ao,Y⟩:=a7;cases Y;obtain⟨_,a8,a4⟩:=LW l w2 (fun m=>S4.LF m) (Go.Ac.okWide_int Tryz.underlying29 (f 2 29 M rfl rfl)) (fun p s=>by obtain⟨n,-,b⟩:=s;exact⟨_,b⟩)
 obtain⟨nr,a6,Z⟩:=a8;cases Z;obtain⟨_,⟨d,hd,rfl⟩,a5⟩:=LX o w3 fun m=>S4.ZJ m
 refine(Oo (by kernel_rfl) (by kernel_rfl) (S4.C5 u hu hr ao nr a6 d hd) (VY A a9) (pO a2 (pO a3 (pO a4 (pO a5 Oq))))).mono fun e W'⟨he,c⟩=>?_
 subst he;exact⟨_,rfl,_,_,_,[],_,[],a1,trodAll_mk1 (shut_bool Tryz.underlying4 _),(trodAll_cons_mk (Below.trod laidOut (by kernel_rfl) (aU (by kernel_rfl)) i c b0) (trodAll_cons_mk (Below.trod laidOut (by kernel_rfl) (aU (by kernel_rfl)) k c b1) (trodAll_cons_mk (Below.trod laidOut (by kernel_rfl) (aU (by kernel_rfl)) l c b2) (trodAll_cons_mk (Below.trod laidOut (by kernel_rfl) (aU (by kernel_rfl)) o c b3) trodAll_mk0)))),rfl,c.frame _,fun h=>by cases h⟩
end Go.Proofs.YtifcddmbgnmnjaaGreatDoor.yN
end
section
namespace Go.Proofs.YtifcddmbgnmnjaaGreatDoor.yN
open Go Go.Ac
set_option maxRecDepth 100000
def unf:Tryz.prog.unfollowed 5=true:=by kernel_rfl
def rec:Tryz.prog.recurses 5=true:=by unfold Program.recurses;rw[unf];rfl
def inp:Tryz.prog.inPlace 5=Rows.topCostRow.inPlace:=by kernel_rfl
def nam:Tryz.prog.varsNamed 5=Rows.topCostRow.named:=by kernel_rfl
def closed:joinedFacts Tryz.prog 5 Tryz.f5 Rows.topCostSpec Rows.topCostRow=true:=by
 unfold joinedFacts;rw[inp,unf,rec,nam];kernel_rfl
def acO:Tryz.prog.funcNamed "tipstaff/tipstafftop.TopCost" = some 5:=by kernel_rfl
def inst:Tryz.f5.isInstance Tryz.prog Rows.topCostRow.origin Rows.topCostRow.targs:=aU (by kernel_rfl)
def wrapper:Tryz.f5.isWrapper Tryz.prog Rows.topCostRow.wrapper Rows.topCostRow.mainSum:=by unfold Func.isWrapper;first|(rw[aG (by decide+kernel)];kernel_rfl)|(rw[aN (by decide+kernel)];exact⟨rfl,rfl⟩)
def proved:Rows.TopCostSaid:=
 OpenClaim.holds_of_wide 5 Tryz.f5 rfl rfl rfl rfl rfl rfl rfl ⟨rfl,rfl,rfl,rfl,rfl⟩ rfl rfl rfl rfl rfl acO Tryz.func5 closed inst wrapper
  (fun os started H enc _=>lifted os started H enc)
def ZP:Rows.topCostRow.wfByText (OpenSpec.ofChange Rows.topCostSpec)=true:=by kernel_rfl
def mainIs:Tryz.prog.mainIs=some (true, "1c29be2401b4ea8089541c1e8962e13fa9932ea8ca124efafeb7dd744b117b3b".toList):=by kernel_rfl
def looks:true=Tryz.prog.looks []:=by kernel_rfl
def Wa:([28,9,29,33].all fun u => !Tryz.prog.wantsStandIn u)=true:=by kernel_rfl
def goes:false=Rows.topCostRow.goesBy Tryz.prog:=by kernel_rfl
end Go.Proofs.YtifcddmbgnmnjaaGreatDoor.yN
namespace Go.Proofs.YtifcddmbgnmnjaaGreatDoor
open yN in
theorem topCost_holds:Rows.TopCostCardSaid:=
 Claim7.holds_tied_plain_at .later [] [.data,.listed,.data,.pinned] true (true, "1c29be2401b4ea8089541c1e8962e13fa9932ea8ca124efafeb7dd744b117b3b") true
  proved (fun _ h=>by cases h) ZP (fun _ h=>by cases h) topCost_row_tie rfl ⟨rfl,rfl⟩ mainIs rfl
  (fun f fn b d=>by
   obtain rfl:f=5:=ax (acO.symm.trans b) |>.symm;obtain rfl:fn=Tryz.f5:=(ax (Tryz.func5.symm.trans d)).symm;exact⟨looks,fun j t a=>by
    rw[Tryz.params5]at a;have c:t∈[28,9,29,33]:=by simpa using DZ a
    exact(show Tryz.prog.wantsStandIn t=false by simpa using bf.1 Wa t c)⟩)
  goes
end Go.Proofs.YtifcddmbgnmnjaaGreatDoor
end
