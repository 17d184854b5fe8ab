/-
Lemmas1
-/
import Derived.Orders
import Derived.KernelRfl
import Derived.Laws.Sem
import Derived.Below
import Derived.Laws.World
import Derived.Laws.StructEq
import Derived.Laws.Cells
import Derived.Laws.BytesString
import Derived.Laws.Strings
import Derived.Laws.NewFold
import Derived.Laws.Rows
import Derived.Laws.MakeOwn
import Derived.Laws.CopyRow
import Derived.Deep.AppendSrc
import Derived.Laws.AppendOwn
import Derived.MapKept
import Derived.MapFrom
import Derived.WideMake
import Derived.Calls
set_option linter.all false
set_option autoImplicit true
set_option relaxedAutoImplicit true
section
def aN :=@if_neg
def aG :=@if_pos
def ai :=@cond_true
def af :=@cond_false
def mT :=@Prod.mk.inj
def jn :=@Nat.le_succ
def oL :=@Int.pow_pos
def eA :=@Int.le_refl
def cR :=@Nat.one_mul
def dV :=@Nat.zero_le
def cc :=@Nat.add_mul
def ar :=@Nat.le_refl
def jo :=@Int.le_of_lt
def ki :=@Int.ne_of_gt
def mU :=@List.all_nil
def oM :=@List.map_nil
def oN :=@Nat.add_comm
def qR :=@Nat.lt_trans
def dW :=@List.map_map
def bh :=@List.mem_map
def lL :=@Nat.mul_comm
def cv :=@Nat.zero_add
def qS :=@List.set_set
def bY :=@Nat.lt_or_ge
def iC :=@Nat.add_zero
def lM :=@Nat.sub_self
def dX :=@Nat.le_trans
def mV :=@List.map_drop
def kj :=@List.any_cons
def iD :=@List.map_take
def eV :=@List.sum_cons
def aY :=@List.mem_cons
def bJ :=@List.all_cons
def mW :=@Bool.false_or
def bG :=@List.map_cons
def eB :=@Bool.not_true
def aA :=@Prod.mk.injEq
def gU :=@Nat.add_assoc
def bw :=@decide_eq_true
def iE :=@Nat.mul_le_mul
def uw :=@Int.mul_nonneg
def fK :=@List.drop_zero
def eC :=@List.drop_drop
def dY :=@List.mem_range
def km :=@Bool.not_false
def gV :=@ne_of_beq_false
def bB :=@decide_eq_false
def ux :=@List.cons.injEq
def jq :=@Nat.not_lt_zero
def mX :=@Int.emod_nonneg
def cp :=@List.find?_cons
def al :=@List.length_map
def eD :=@List.mem_filter
def qT :=@List.find?_some
def gW :=@Bool.or_eq_true
def gX :=@List.nodup_cons
def bN :=@List.map_append
def dP :=@List.nil_append
def fr :=@List.append_nil
def bp :=@List.mem_append
def ft :=@List.length_set
def cS :=@List.length_nil
def qU :=@Option.map_none
def de :=@Option.map_some
def ax :=@Option.some.inj
def lN :=@List.not_mem_nil
def gY :=@List.length_drop
def dt :=@List.cons_append
def oO :=@List.length_take
def qV :=@List.nodup_range
def mY :=@List.any_eq_true
def eW :=@List.mem_flatMap
def fL :=@List.getElem_mem
def mZ :=@Nat.mod_eq_of_lt
def gu :=@Option.bind_some
def m0 :=@Option.getD_some
def cd :=@Bool.and_eq_true
def aD :=@List.length_cons
def bf :=@List.all_eq_true
def m1 :=@Array.toList_inj
def aU :=@of_decide_eq_true
def fM :=@decide_eq_true_eq
def eX :=@List.flatMap_cons
def eE :=@List.take_add_one
def uy :=@List.push_toArray
def bq :=@List.append_assoc
def ko :=@Bool.eq_false_iff
def gZ :=@Bool.not_eq_true'
def uz :=@List.nodup_append
def sy :=@List.size_toArray
def iS :=@List.getElem?_set
def bu :=@List.getElem?_map
def uA :=@Int.toNat_natCast
def fe :=@List.ext_getElem?
def ay :=@Option.some.injEq
def bI :=@of_decide_eq_false
def yc :=@BitVec.toNat_ofNat
def DO :=@Nat.lt_of_le_of_lt
def pA :=@Int.emod_lt_of_pos
def lF :=@List.pairwise_cons
def DP :=@Nat.eq_zero_or_pos
def dC :=@List.length_append
def kp :=@Bool.false_eq_true
def DQ :=@Array.getElem?_map
def aW :=@List.mem_cons_self
def ff :=@List.getElem?_take
def cP :=@List.mem_singleton
def il :=@List.getElem?_drop
def gL :=@Nat.lt_of_lt_of_le
def gk :=@beq_eq_false_iff_ne
def DR :=@List.mem_map_of_mem
def sA :=@List.drop_succ_cons
def ye :=@List.append_toArray
def yf :=@List.take_succ_cons
def yg :=@List.filter_eq_self
def yh :=@Bool.or_eq_true_iff
def sB :=@List.map_congr_left
def DS :=@Function.comp_apply
def uB :=@Array.toList_append
def DT :=@List.length_pos_iff
def mz :=@List.getElem?_range
def mA :=@Array.length_toList
def yi :=@BitVec.ofInt_natCast
def uC :=@List.dropLast_subset
def uD :=@List.mem_of_getLast?
def yj :=@Nat.pow_le_pow_right
def DU :=@List.getElem?_of_mem
def yk :=@Array.replicate_zero
def yl :=@Array.replicate_succ
def DV :=@Array.toArray_toList
def DW :=@Bool.or_eq_false_iff
def DX :=@List.getElem?_modify
def dD :=@Nat.mul_le_mul_right
def bT :=@List.getElem?_set_ne
def aK :=@List.mem_of_getElem?
def uE :=@List.mem_of_mem_drop
def sC :=@List.mem_of_mem_take
def ef :=@List.mem_append_left
def aV :=@List.mem_cons_of_mem
def uF :=@List.take_append_drop
def DY :=@List.dropLast_eq_take
def ym :=@UInt8.le_iff_toNat_le
def sD :=@List.mem_iff_getElem?
def uG :=@List.getElem?_toArray
def yn :=@Array.getElem?_modify
def iq :=@Array.getElem?_toList
def eJ :=@List.getElem?_eq_none
def fD :=@List.mem_append_right
def DZ :=@Array.mem_of_getElem?
def yo :=@List.drop_eq_nil_of_le
def dE :=@List.take_of_length_le
def sE :=@Array.getElem?_eq_none
def bU :=@List.getElem?_set_self
def bc :=@Option.map_eq_some_iff
def D1 :=@Array.getElem?_extract
def D2 :=@List.IsPrefix.length_le
def D3 :=@Nat.add_sub_cancel_left
def ir :=@List.length_eq_zero_iff
def D4 :=@List.getElem?_replicate
def yq :=@List.getElem?_cons_zero
def sF :=@List.getElem?_cons_succ
def cV :=@Option.bind_eq_some_iff
def iT :=@Int.eq_ofNat_of_zero_le
def D5 :=@List.mem_of_mem_eraseIdx
def uH :=@Option.isSome_iff_exists
def bo :=@List.getElem?_eq_getElem
def uI :=@List.drop_eq_getElem_cons
def yr :=@List.getLast?_eq_getElem?
def kq :=@List.getLastD_eq_getLast?
def mB :=@List.mem_of_find?_eq_some
def yt :=@List.pairwise_iff_getElem
def cj :=@List.getElem?_append_left
def uJ :=@List.mem_or_eq_of_mem_set
def cX :=@Array.getElem?_eq_getElem
def aE :=@List.getElem?_eq_some_iff
def yu :=@Int.fdiv_eq_ediv_of_nonneg
def pB :=@Int.tmod_eq_emod_of_nonneg
def D6 :=@List.isPrefixOf_iff_prefix
def yv :=@Int.tdiv_eq_ediv_of_nonneg
def eN :=@List.getElem?_append_right
def ia :=@Array.getElem?_eq_some_iff
def bR :=@List.getD_eq_getElem?_getD
def yO :=@List.idxOf_lt_length_of_mem
def Js :=@Array.eraseIdxIfInBounds_eq
def jG :=@Array.getD_eq_getD_getElem?
def yP :=@List.dropLast_concat_getLast
def jH :=@List.getLast?_eq_some_getLast
def Jt :=@Int.mul_le_mul_of_nonneg_right
def PA :=@Array.getElem?_setIfInBounds_self_of_lt
namespace Go.Ac
open Go
inductive PV where
 |bool (b:Bool)
 |int (k:IntKind) (n:Int)
 |str (s:List UInt8)
 |nP (k:FloatKind) (o:Option (Nat×Nat))
 |D7 (k:FloatKind)
 |sl (n:Nat) (aj:List (List PV))
 |nil
 deriving Inhabited
inductive AV where
 |none
 |v (p:PV)
 |agg (cs:List PV)
 |D8 (cs:List AV)
 |own (t ver n:Nat) (aj:List (List PV))
 |ke (n:Nat) (aj:List (List PV))
 |az (b off:Nat)
 |jr (b base n len:Nat) (i:Int) (j:Nat)
 |gg (b n:Nat) (i:Int) (j:Nat)
 |kX (cs:List PV)
 |bA (b:Nat)
 |mp (b:Nat)
 |fn (f:Fn) (first cap:List AV)
 |xZ (vs:List AV)
 |xp (o:Option (TypeId×List PV))
 |opt (c:Bool) (j:Nat) (w:Bool) (a:AV)
 deriving Inhabited
inductive Bx where
 |cells (cs:List AV)
 |bn (n:Nat) (aj:List (List PV))
 |uK (n:Nat) (aj:List (List PV))
 |map (t:TypeId) (es:List (PV×AV))
 |dead
 |free
 deriving Inhabited
structure St where
 tmps:List AV
 ae:List (Option Nat)
 heap:List Bx
def Uh:Value->Option PV
 |.bool b=>some (.bool b)
 |.int k n=>some (.int k n)
 |.string s=>some (.str s.data.toList)
 |.complex k c a=>some (.nP k (some (c,a)))
 |.slice .none 0 0=>some .nil
 |_=>.none
def Gm:List Value->Option (List PV)
 |[]=>some []
 |v::a=>match Uh v,Gm a with
  |some p,some ps=>some (p::ps)
  |_,_=>.none
def mC:Value->AV
 |.agg cs=>match Gm cs.toList with
  |some ps=>.agg ps
  |.none=>.none
 |.nilIface=>.xp .none
 |v=>match Uh v with
  |some p=>.v p
  |.none=>.none
def fJ(a:List AV):Operand->AV
 |.tmp t=>a.getD t .none
 |.const v=>mC v
 |.func f=>.fn (.func f) [] []
 |.global _=>.none
def AV.pv:AV->Option PV
 |.v p=>some p
 |.own _ _ n aj=>some (.sl n aj)
 |.ke n aj=>some (.sl n aj)
 |_=>.none
def AV.bits:AV->Option (List PV)
 |.agg cs=>some cs
 |a=>match a.pv with
  |some p=>some [p]
  |.none=>.none
def AV.uL(n:Nat):AV->Option (List (List PV))
 |.v (.sl m aj)=>if m=n then some aj else .none
 |.v .nil=>some []
 |.own _ _ m aj=>if m=n then some aj else .none
 |_=>.none
inductive CT where
 |bool|int (k:IntKind)|str|Wb (k:FloatKind)|nP (k:FloatKind)|sl (n:Nat)|other
structure An where
 fz:Bool:=false
 take:Bool:=false
 bF:Bool:=false
 vec:Bool:=false
 uK:Bool:=false
 wrap:Bool:=false
 spec:Bool:=false
 cons:List Nat:=[]
 fn:Nat:=0
 fb:Option (List Nat):=.none
inductive Kd where
 |d
 |row (r:List PV)
 |cell (a:AV)
 |put (cs:List AV)
 |pk (b:Bool)
 |call (r:List AV) (hp:List Bx)
 |look (o:Option AV)
 |Ui (o:Option (List PV))
 |conv (l:List UInt8)
 deriving Inhabited
structure Gn where
 f:FuncId
 args:List AV
 heap:List Bx
 r:List AV
 th:List Bx
structure l8 where
 v:AV
 ae:List (Option Nat)
 heap:List Bx
 dN:List Prop:=[]
 calls:List Gn:=[]
structure ou where
 hr:Bool:=false
 hw:Bool:=false
 tk:Bool:=false
 bx:Option (List Nat):=.none
def cY(o:Op)(an:An)(nb:Nat):ou:=
 match o with
 |.load .. => match an.fz with
  |true=>{}
  |false=>{hr:=true,hw:=an.take,tk:=an.take,bx:=an.fb}
 |.alloc _|.makeSlice .. |.makeMap .. => {hw:=true,bx:=some [nb]}
 |.box .. => {hw:=true,tk:=an.take,bx:=some [nb]}
 |.store .. |.mapUpdate .. => {hr:=true,hw:=true,tk:=an.take,bx:=an.fb}
 |.lookup .. => {hr:=true,hw:=an.take,tk:=an.take,bx:=an.fb}
 |.buildSlice .. => {tk:=an.bF,hw:=an.vec,bx:=some [nb]}
 |.slice .. => {hr:=an.vec,hw:=an.vec,bx:=an.fb}
 |.call c=>match c.callee with
  |.builtin .append=>{tk:=true,hr:=an.vec,hw:=an.vec,bx:=an.fb}
  |.builtin .delete=>{hr:=true,hw:=true,bx:=an.fb}
  |.builtin .len=>{hr:=an.vec,bx:=an.fb}
  |.builtin _=>{}
  |_=>{hr :=!an.fz,hw :=!an.fz,tk:=an.bF || !an.cons.isEmpty,bx:=an.fb}
 |.indexAddr .. => {hr:=an.vec,bx:=an.fb}
 |_=>{}
def B7(l:List Nat):Nat->List Bx->List Bx
 |_,[]=>[]
 |b,x::h=>(match l.contains b with|true=>x|false=>.dead)::B7 l (b+1) h
def v8(l:List Nat):Nat->List Bx->List Bx->List Bx
 |_,[],_=>[]
 |b,x::h,a=>(match l.contains b with|true=>a.headD .dead|false=>x)::v8 l (b+1) h a.tail
def ou.view(c:ou)(a:List Bx):List Bx:=
 match c.hr||c.hw with
 |true=>match c.bx with
  |.none=>a
  |some l=>B7 l 0 a
 |false=>[]
def ou.merge(c:ou)(a b:List Bx):List Bx:=
 match c.hw with
 |true=>match c.bx with
  |.none=>b
  |some l=>v8 l 0 a b
 |false=>a
def PC(P:Program)(o:Op)(an:An):Nat:=
 match o with
 |.alloc _|.makeSlice .. |.makeMap .. |.box .. => 1
 |.slice .. |.buildSlice .. => match an.vec with|true=>1|false=>0
 |.call c=>match c.callee with
  |.builtin .append=>match an.vec with|true=>1|false=>0
  |.value (.func g)=>match P.funcs[g]? with
   |some fn=>(fn.resultTypes.toList.filter fun t=>match P.underlying t with
    |some (.slice _)=>an.vec
    |some (.map _ _)|some (.func _ _ _)=>true
    |_=>false).length
   |.none=>0
  |_=>0
 |_=>0
def Gp(op:BinOp)(k:IntKind)(x y:Int):Option Int:=
 let a:=BitVec.ofInt k.bits x
 let b:=BitVec.ofInt k.bits y
 match op with
 |.and=>some (k.wrap (a &&& b).toNat)
 |.or=>some (k.wrap (a ||| b).toNat)
 |.xor=>some (k.wrap (a ^^^ b).toNat)
 |.andNot=>some (k.wrap (a &&& ~~~b).toNat)
 |_=>.none
def PD(op:BinOp)(x y:Int):Option Bool:=
 match op with
 |.eql=>some (x==y)
 |.neq=>some (x !=y)
 |.lss=>some (decide (x<y))
 |.leq=>some (decide (x<=y))
 |.gtr=>some (decide (x>y))
 |.geq=>some (decide (x>=y))
 |_=>.none
def Wc(k:IntKind)(n:Int):Prop:=k.min<=n/\n<=k.max
def wa(op:BinOp)(k:IntKind)(x y:Int)(a:Bool):Option (Int×List Prop):=
 let put (n:Int):Option (Int×List Prop):=match a || !k.signed with
  |true=>some (k.wrap n,[])
  |false=>some (n,[Wc k n])
 match op with
 |.add=>put (x+y)
 |.sub=>put (x-y)
 |.mul=>put (x*y)
 |.quo=>some (k.wrap (x.tdiv y),[y≠0])
 |.rem=>some (x.tmod y,[y≠0])
 |.shl=>some (k.wrap (x*2^(min y.toNat k.bits)),[0<=y])
 |.shr=>some (x.fdiv (2^(min y.toNat k.bits)),[0<=y])
 |_=>(Gp op k x y).map fun n=>(n,[])
def XS(op:BinOp)(x y:List UInt8):Option Bool:=
 match op with
 |.eql=>some (x==y)
 |.neq=>some (!(x==y))
 |.lss=>some (Op.bytesLess x y)
 |.leq=>some (Op.bytesLess x y||x==y)
 |.gtr=>some (!(Op.bytesLess x y||x==y))
 |.geq=>some (!(Op.bytesLess x y))
 |_=>.none
def Z9(k:FloatKind):Option (Nat×Nat)->Option (Nat×Nat)->Bool
 |some (a,b),some (c,d)=>Op.floatEq k a c&&Op.floatEq k b d
 |_,_=>false
section
variable (P:Program)
def du(t:TypeId):Option Bool:=
 match P.underlying t with
 |some (.struct _)|some (.array _ _)=>some true
 |some _=>some false
 |.none=>.none
def cw(t:TypeId):Option Nat:=(P.info? t).map (·.size)
def yQ(t:TypeId):Option Nat:=(P.info? t).map (·.bytes)
def qW(t:TypeId):Option AV:=((P.info? t).bind (·.zero)).map mC
def Ju:Nat->TypeId->List CT
 |0,_=>[.other]
 |d+1,t=>match P.underlying t with
  |some .bool=>[.bool]
  |some (.int k)=>[.int k]
  |some .string=>[.str]
  |some (.float k)=>[.Wb k]
  |some (.complex k)=>[.nP k]
  |some (.slice e)=>match cw P e with
   |some n=>[.sl n]
   |.none=>[.other]
  |some (.struct a)=>a.toList.flatMap fun f=>Ju d f.type
  |some (.array len e)=>(List.replicate len (Ju d e)).flatten
  |_=>[.other]
def kr(t:TypeId):List CT:=Ju P 20 t
def CT.norm:CT->PV->PV
 |.sl n,.nil=>.sl n []
 |_,p=>p
def kY:List CT->List PV->List PV
 |c::cs,p::ps=>c.norm p::kY cs ps
 |_,ps=>ps
def yR(t:TypeId):AV->AV
 |.v p=>match kr P t with
  |[c]=>.v (c.norm p)
  |_=>.v p
 |.agg ps=>.agg (kY (kr P t) ps)
 |a=>a
def rowOf(t:TypeId)(a:AV):Option (List PV):=(a.bits).map (kY (kr P t))
def eqFields(eq:TypeId->Bool->List PV->List PV->Option (Bool×List Prop))(xs c:List PV):List Field->Bool->Option (Bool×List Prop)
 |[],pre=>some (pre,[])
 |f::d,pre=>
  match f.name == "_" with
  |true=>eqFields eq xs c d pre
  |false=>match cw P f.type with
   |.none=>.none
   |some n=>
    match eq f.type pre ((xs.drop f.offset).take n) ((c.drop f.offset).take n)with
    |.none=>.none
    |some (a,l)=>match eqFields eq xs c d a with
     |some (b,m)=>some (b,l++m)
     |.none=>.none
def mD(eq:Bool->List PV->List PV->Option (Bool×List Prop))(n:Nat)(xs c:List PV):Nat->Nat->Bool->Option (Bool×List Prop)
 |0,_,pre=>some (pre,[])
 |k+1,i,pre=>match eq pre ((xs.drop (i*n)).take n) ((c.drop (i*n)).take n)with
  |.none=>.none
  |some (a,l)=>match mD eq n xs c k (i+1) a with
   |some (b,m)=>some (b,l++m)
   |.none=>.none
def Jv:Nat->TypeId->Bool->List PV->List PV->Option (Bool×List Prop)
 |0,_,_,_,_=>.none
 |d+1,t,pre,xs,c=>
  match P.underlying t,xs,c with
  |some .bool,[.bool a],[.bool b]=>some (pre&&(a==b),[])
  |some (.int _),[.int k a],[.int f b]=>if k=f then some (pre&&(a==b),[])else .none
  |some .string,[.str a],[.str b]=>some (pre&&(a==b),[])
  |some (.complex k),[.nP g a],[.nP i b]=>if k=g/\k=i then some (pre&&Z9 k a b,[pre=true->a.isSome=true/\b.isSome=true])else .none
  |some (.struct fields),xs,c=>
   match P.stoodInHeld t with
   |true=>.none
   |false=>eqFields P (Jv d) xs c fields.toList pre
  |some (.array len e),xs,c=>match cw P e with
   |some n=>mD (Jv d e) n xs c len 0 pre
   |.none=>.none
  |_,_,_=>.none
def D9(t:TypeId):Option (List AV):=((P.info? t).bind (·.zero)).bind fun z=>match z.cells.toList.all Value.oneCell' with
 |true=>some (z.cells.toList.map mC)
 |false=>.none
def NR(n:Nat):List (List PV)->Nat->List PV->Option (List (List PV))
 |[],_,_=>.none
 |_::a,0,x=>if x.length=n then some (x::a)else .none
 |r::a,i+1,x=>(NR n a i x).map (r :: ·)
def putAt{α:Type}:List α->Nat->List α->List α
 |l,_,[]=>l
 |l,off,x::xs=>putAt (l.set off x) (off+1) xs
def lO(e:TypeId)(n:Nat)(ρ:Operand->AV):List (Nat×Operand)->List (List PV)->Option (List (List PV))
 |[],aj=>some aj
 |(i,x)::ps,aj=>match rowOf P e (ρ x)with
  |some r=>match NR n aj i r with
   |some a=>lO e n ρ ps a
   |.none=>.none
  |.none=>.none
def AV.cells:AV->List AV
 |.agg cs=>cs.map .v
 |.D8 cs=>cs
 |a=>[a]
def AV.inner:AV->Bool
 |.v _|.az _ _|.bA _|.mp _=>true
 |_=>false
def AV.soft:AV->AV
 |.own _ _ n aj=>.v (.sl n aj)
 |a=>a
def jU(place:Nat->Option (Nat×Nat))(ρ:Operand->AV):List (Nat×Operand)->List AV->Option (List AV)
 |[],cs=>some cs
 |(i,x)::ps,cs=>match place i,(ρ x).soft.cells with
  |some (off,a),r=>if r.length=a&&off+a<=cs.length&&r.all AV.inner then jU place ρ ps (putAt cs off r)else .none
  |_,_=>.none
def sG:List AV->Option (List PV)
 |[]=>some []
 |.v p::l=>(sG l).map (p :: ·)
 |_=>.none
def B8(cs:List AV):AV:=match sG cs with
 |some ps=>.agg ps
 |.none=>.D8 cs
def placesOf(t:TypeId):Option (Nat->Option (Nat×Nat)):=
 match P.underlying t with
 |some (.struct fields)=>match fields.toList.all fun f=>(cw P f.type).isSome with
  |true=>some fun i=>match fields[i]? with
   |some f=>(cw P f.type).map fun n=>(f.offset,n)
   |.none=>.none
  |false=>.none
 |some (.array _ elem)=>(cw P elem).map fun n=>fun i=>some (i*n,n)
 |_=>.none
def bytesOf:List (List PV)->Option (List UInt8)
 |[]=>some []
 |[.int .u8 n]::a=>(bytesOf a).map (UInt8.ofNat n.toNat :: ·)
 |_=>.none
def plain(o:Op)(an:An)(k:Kd)(ρ:Operand->AV):Option (AV×List Prop):=
 match o,k with
 |.move x,_|.assign x,_=>some (ρ x,[])
 |.pick c a b,.pk t=>match ρ c with
  |.v (.bool B)=>some (if t then ρ a else ρ b,[B=t])
  |_=>.none
 |.pick c a b,_=>match ρ c with
  |.v (.bool B)=>match ρ a,ρ b with
   |.v (.bool x),.v (.bool y)=>some (.v (.bool (bif B then x else y)),[])
   |x,y=>match B with
    |true=>some (x,[])
    |false=>some (y,[])
  |_=>.none
 |.build t aT,_=>match D9 P t,placesOf P t with
  |some z,some pl=>(jU pl ρ aT.toList z).map fun cs=>(B8 cs,[])
  |_,_=>.none
 |.buildSlice t len aT,_=>match P.underlying t with
  |some (.slice e)=>match cw P e,(qW P e).bind (rowOf P e)with
   |some n,some z=>if z.length=n&&n≠0&&len*n<=2^24 then(lO P e n ρ aT.toList (List.replicate len z)).map fun aj=>(.v (.sl n aj),[])else .none
   |_,_=>.none
  |_=>.none
 |.load t a,_=>match ρ a with
  |.kX cs=>match du P t,cw P t with
   |some true,some n=>if n<=cs.length then some (.agg (cs.take n),[])else .none
   |some false,some 1=>match cs with
    |p::_=>some (.v p,[])
    |[]=>.none
   |_,_=>.none
  |_=>.none
 |.nilCheck x,_=>match ρ x with
  |.az b off=>some (.az b off,[])
  |.jr b s n l i j=>some (.jr b s n l i j,[])
  |.gg b n i j=>some (.gg b n i j,[])
  |.kX cs=>some (.kX cs,[])
  |_=>.none
 |.binOp op t x y _,_=>match ρ x,ρ y with
  |.v (.int q a),.v (.int w b)=>
   match op with
   |.shl|.shr=>(wa op q a b an.wrap).map fun(n,l)=>(.v (.int q n),l)
   |_=>if q=w then
     match PD op a b with
     |some B=>some (.v (.bool B),[])
     |.none=>(wa op q a b an.wrap).map fun(n,l)=>(.v (.int q n),l)
    else .none
  |.v (.str a),.v (.str b)=>match op with
   |.add=>some (.v (.str (a++b)),[a.length+b.length<=9223372036854775807])
   |_=>(XS op a b).map fun B=>(.v (.bool B),[])
  |.v (.bool a),.v (.bool b)=>match op,P.underlying t with
   |.eql,some .bool=>some (.v (.bool (a==b)),[])
   |.neq,some .bool=>some (.v (.bool (!(a==b))),[])
   |_,_=>.none
  |.v (.D7 q),.v (.D7 w)=>match op with
   |.add=>if q=w then some (.v (.D7 q),[])else .none
   |_=>.none
  |.agg xs,.agg H=>match P.eqGuardType P.depth t,du P t with
   |false,some true=>match op,Jv P 20 t true xs H with
    |.eql,some (B,l)=>some (.v (.bool B),l)
    |.neq,some (B,l)=>some (.v (.bool (!B)),l)
    |_,_=>.none
   |_,_=>.none
  |.xp o,.xp .none=>match op,P.underlying t,y with
   |.eql,some (.interface _),.const _=>some (.v (.bool o.isNone),[])
   |.neq,some (.interface _),.const _=>some (.v (.bool o.isSome),[])
   |_,_,_=>.none
  |_,_=>.none
 |.unOp op _ x,_=>match op,ρ x with
  |.not,.v (.bool b)=>some (.v (.bool (!b)),[])
  |.neg,.v (.int k n)=>some (.v (.int k (k.wrap (0-n))),[])
  |.xor,.v (.int k n)=>(Gp .xor k (if k.signed then -1 else k.max) n).map fun m=>(.v (.int k m),[])
  |_,_=>.none
 |.convert s d x,k=>match P.underlying s,P.underlying d,ρ x with
  |some (.int _),some (.int k),.v (.int _ n)=>some (.v (.int k (k.wrap n)),[])
  |some (.int _),some (.float k),.v (.int _ _)=>some (.v (.D7 k),[])
  |some (.slice e),some .string,a=>match P.underlying e,a.uL 1 with
   |some (.int .u8),some aj=>match k with
    |.conv l=>some (.v (.str l),[bytesOf aj=some l])
    |_=>(bytesOf aj).map fun l=>(.v (.str l),[])
   |_,_=>.none
  |_,_,_=>.none
 |.makeInterface t x,_=>match P.underlying t with
  |some (.interface _)=>.none
  |some (.struct _)=>match ρ x with
   |.agg cs=>some (.xp (some (t,cs)),[])
   |_=>.none
  |some _=>some (.none,[])
  |_=>.none
 |.typeAssert x _ t ok,.Ui o=>match ρ x,P.underlying t,ok with
  |.xp i,some (.struct _),true=>match o,qW P t with
   |some cs,_=>some (.xZ [.agg cs,.v (.bool true)],[i=some (t,cs)])
   |.none,some (.agg z)=>some (.xZ [.agg z,.v (.bool false)],[∀cs,i≠some (t,cs)])
   |_,_=>.none
  |.xp i,some (.struct _),false=>match o with
   |some cs=>some (.agg cs,[i=some (t,cs)])
   |_=>.none
  |_,_,_=>.none
 |.makeFunc f first cap,_=>some (.fn f (first.toList.map ρ) (cap.toList.map ρ),[])
 |.fieldAddr s x f,_=>match P.underlying s with
  |some (.struct fields)=>match fields[f]? with
   |some g=>match cw P g.type with
    |some 0=>.none
    |some _=>match ρ x with
     |.az b off=>some (.az b (off+g.offset),[])
     |.jr b s n l i j=>some (.jr b s n l i (j+g.offset),[])
     |.gg b n i j=>some (.gg b n i (j+g.offset),[])
     |.kX cs=>some (.kX (cs.drop g.offset),[])
     |_=>.none
    |.none=>.none
   |.none=>.none
  |_=>.none
 |.field t x f,_=>match P.underlying t,ρ x with
  |some (.struct fields),.agg cs=>match fields[f]? with
   |some g=>part cs g.type g.offset
   |.none=>.none
  |_,_=>.none
 |.indexAddr t x v,k=>match ρ v with
  |.v (.int _ i)=>match P.underlying t,ρ x with
   |some (.array len e),.az b off=>match cw P e with
    |some n=>some (.jr b off n len i 0,[0<=i/\i<len])
    |.none=>.none
   |some (.array len e),.kX cs=>match cw P e with
    |some n=>some (.kX (cs.drop (i.toNat*n)),[0<=i/\i<len])
    |.none=>.none
   |some (.slice e),a=>match cw P e with
    |some n=>match a.uL n with
     |some aj=>match k with
      |.row r=>match decide (r.length=n)with
       |true=>some (.kX r,[0<=i,aj[i.toNat]?=some r])
       |false=>.none
      |_=>.none
     |.none=>.none
    |.none=>.none
   |_,_=>.none
  |_=>.none
 |.index t x v,k=>match ρ v,P.underlying t,ρ x with
  |.v (.int _ i),some (.array len e),.agg cs=>match du P e,cw P e,k with
   |some false,some 1,.cell (.v p)=>some (.v p,[0<=i/\i<len,cs[i.toNat]?=some p])
   |_,_,_=>.none
  |.v (.int _ i),some .string,.v (.str s)=>some (.v (.int .u8 (s.getD i.toNat 0).toNat),[0<=i/\i<s.length])
  |_,_,_=>.none
 |.extract x i,_=>match ρ x with
  |.xZ G=>(G[i]?).map fun a=>(a,[])
  |_=>.none
 |.slice t x lo D E,_=>match E,P.underlying t with
  |.none,some (.slice e)=>
   match cw P e with
   |some n=>match(ρ x).uL n with
    |some aj=>match bound (lo.map ρ) 0,bound (D.map ρ) aj.length with
     |some l,some h=>some (.v (.sl n ((aj.take h.toNat).drop l.toNat)),[0<=l/\l<=h/\h<=aj.length])
     |_,_=>.none
    |_=>.none
   |.none=>.none
  |.none,some .string=>
   match ρ x with
   |.v (.str s)=>match bound (lo.map ρ) 0,bound (D.map ρ) s.length with
    |some l,some h=>some (.v (.str ((s.take h.toNat).drop l.toNat)),[0<=l/\l<=h/\h<=s.length])
    |_,_=>.none
   |_=>.none
  |_,_=>.none
 |.call {callee:=.builtin .len,args,argTypes},_=>match args.toList,argTypes.toList with
  |[x],[t]=>match P.underlying t,ρ x with
   |some (.slice e),a=>match cw P e with
    |some n=>(a.uL n).map fun aj=>(.v (.int .i64 aj.length),[])
    |.none=>.none
   |some (.array n _),_=>some (.v (.int .i64 n),[])
   |some .string,.v (.str s)=>some (.v (.int .i64 s.length),[])
   |_,_=>.none
  |_,_=>.none
 |.call {callee:=.builtin .real,args, ..},_|.call {callee:=.builtin .imag,args, ..},_=>match args.toList.map ρ with
  |[.v (.nP k _)]=>some (.v (.D7 k),[])
  |_=>.none
 |.call {callee:=.builtin .complex,args, ..},_=>match args.toList.map ρ with
  |[.v (.D7 k),.v (.D7 u)]=>if k=u then some (.v (.nP k .none),[])else .none
  |_=>.none
 |.call {callee:=.builtin .max,args, ..},_=>match args.toList.map ρ with
  |[.v (.int k a),.v (.int u b)]=>if k=u then some (.v (.int k (if b>a then b else a)),[])else .none
  |_=>.none
 |.call {callee:=.builtin .min,args, ..},_=>match args.toList.map ρ with
  |[.v (.int k a),.v (.int u b)]=>if k=u then some (.v (.int k (if b<a then b else a)),[])else .none
  |_=>.none
 |_,_=>.none
where
 part (cs:List PV) (t:TypeId) (off:Nat):Option (AV×List Prop):=
  match du P t,cw P t with
  |some true,some n=>if off+n<=cs.length then some (.agg ((cs.drop off).take n),[])else .none
  |some false,some 1=>(cs[off]?).map fun p=>(.v p,[])
  |_,_=>.none
 bound (x:Option AV) (d:Nat):Option Int:=
  match x with
  |.none=>some d
  |some (.v (.int _ i))=>some i
  |_=>.none
end
def AV.nQ:AV->List Nat
 |.az b _|.jr b .. |.gg b .. |.bA b|.mp b=>[b]
 |_=>[]
def AV.refs:AV->List Nat
 |.fn _ first cap=>(first++cap).flatMap AV.nQ
 |.D8 cs=>cs.flatMap AV.nQ
 |a=>a.nQ
def Bx.refs:Bx->List Nat
 |.cells cs=>cs.flatMap AV.refs
 |_=>[]
def reach(c:List Bx):Nat->List Nat->List Nat->List Nat
 |0,_,a=>a
 |_,[],a=>a
 |n+1,b::l,a=>match a.contains b with
  |true=>reach c n l a
  |false=>reach c n ((c.getD b .dead).refs++l) (a++[b])
def AV.uM(f:Nat->Nat):AV->AV
 |.az b off=>.az (f b) off
 |.jr b s n l i j=>.jr (f b) s n l i j
 |.gg b n i j=>.gg (f b) n i j
 |.bA b=>.bA (f b)
 |.mp b=>.mp (f b)
 |a=>a
def AV.dM(f:Nat->Nat):AV->AV
 |.fn g first cap=>.fn g (first.map (AV.uM f)) (cap.map (AV.uM f))
 |.D8 cs=>.D8 (cs.map (AV.uM f))
 |a=>a.uM f
def Bx.dM(f:Nat->Nat):Bx->Bx
 |.cells cs=>.cells (cs.map (AV.dM f))
 |b=>b
def AV.simple:AV->Bool
 |.none|.v _|.agg _|.az .. |.bA _|.mp _|.xp _|.ke .. => true
 |.fn _ first cap=>(first++cap).all fun
  |.v _|.az .. |.mp _=>true
  |_=>false
 |_=>false
def Bx.alive:Bx->Bool
 |.dead|.free=>false
 |_=>true
def Bx.there:Bx->Bool
 |.free=>false
 |_=>true
def kZ:List Nat->Bool
 |[]=>true
 |a::l => !(l.contains a)&&kZ l
def Bx.simple:Bx->Bool
 |.cells cs=>cs.all AV.simple
 |_=>true
def AV.qX:AV->Bool
 |.az .. |.bA _|.mp _|.xp _=>true
 |.fn f first cap=>(AV.fn f first cap).simple
 |_=>false
def k8(c:CT)(a:AV)(ae:List (Option Nat)):Option (AV×List (Option Nat)):=
 match a with
 |.own t b n aj=>match decide (ae[t]?=some (some b))with
  |true=>some (.ke n aj,ae.set t .none)
  |false=>some (.v (.sl n aj),ae)
 |.v p=>match c with
  |.sl n=>match p with
   |.nil=>some (.ke n [],ae)
   |p=>some (.v p,ae)
  |_=>some (.v p,ae)
 |a=>match a.qX with
  |true=>some (a,ae)
  |false=>.none
def cellsIn:List CT->List AV->List (Option Nat)->Option (List AV×List (Option Nat))
 |_,[],ae=>some ([],ae)
 |c,a::d,ae=>match k8 (c.headD .other) a ae with
  |some (b,ae)=>match cellsIn c.tail d ae with
   |some (e,ae)=>some (b::e,ae)
   |.none=>.none
  |.none=>.none
def AV.view:AV->AV
 |.ke n aj=>.v (.sl n aj)
 |a=>a
section
variable (P:Program)
def cellsOf(t:TypeId)(a:AV)(ae:List (Option Nat)):Option (List AV×List (Option Nat)):=cellsIn (kr P t) a.cells ae
def varOf(t:TypeId)(cs:List AV)(off:Nat):Option AV:=
 match du P t,cw P t with
 |some true,some n=>if off+n<=cs.length then(sG (((cs.drop off).take n).map AV.view)).map .agg else .none
 |some false,some 1=>(cs[off]?).map AV.view
 |_,_=>.none
def Ea(t:TypeId)(cs:List AV)(off:Nat)(a:AV)(ae:List (Option Nat)):Option (List AV×List (Option Nat)):=
 match cw P t,cellsOf P t a ae with
 |some n,some (xs,ae)=>if xs.length=n&&off+n<=cs.length then some (putAt cs off xs,ae)else .none
 |_,_=>.none
def cF(aj:List (List PV))(i j:Nat)(ps:List PV):List (List PV):=aj.modify i fun r=>putAt r j ps
def l9:PV->PV->Bool
 |.int _ a,.int _ b=>a==b
 |.str a,.str b=>a==b
 |_,_=>false
def cK:List (PV×AV)->PV->Option AV
 |[],_=>.none
 |e::a,k=>if l9 k e.1 then some e.2 else cK a k
def cB:List (PV×AV)->PV->AV->List (PV×AV)
 |[],k,a=>[(k,a)]
 |e::b,k,a=>if l9 k e.1 then(k,a)::b else e::cB b k a
def k9:List (PV×AV)->PV->List (PV×AV)
 |[],_=>[]
 |e::a,k=>if l9 k e.1 then a else e::k9 a k
def kT(t:TypeId)(p:PV):Bool:=
 match P.underlying t,p with
 |some (.int k),.int a _=>decide (k=a)
 |some .string,.str _=>true
 |_,_=>false
def ti(t:TypeId)(a:AV)(ae:List (Option Nat)):Option (AV×List (Option Nat)):=
 match a with
 |.agg ps=>some (.agg (kY (kr P t) ps),ae)
 |a=>match a with
  |.own .. |.v _=>k8 ((kr P t).headD .other) a ae
  |_=>.none
def uN(t:Option TypeId)(own:Bool)(f:Nat->Nat)(a:AV)(ae:List (Option Nat))(k:Nat):Option (AV×List (Option Nat)×Nat):=
 match own with
 |true=>match a with
  |.own tk b n aj=>match decide (ae[tk]?=some (some b))with
   |true=>some (.own k 0 n aj,ae.set tk .none,k+1)
   |false=>.none
  |.v .nil=>match t.map (kr P)with
   |some [.sl n]=>some (.own k 0 n [],ae,k+1)
   |_=>.none
  |_=>.none
 |false=>match a with
  |.own _ _ n aj=>some (.v (.sl n aj),ae,k)
  |a=>match a.simple with
   |true=>match t with
    |some t=>some (yR P t (a.dM f),ae,k)
    |.none=>some (a.dM f,ae,k)
   |false=>.none
def iF(f:Nat->Nat)(cons:List Nat):List TypeId->Nat->List AV->List (Option Nat)->Nat->Option (List AV×List (Option Nat)×Nat)
 |_,_,[],ae,k=>some ([],ae,k)
 |c,i,a::d,ae,k=>match uN P c.head? (cons.contains i) f a ae k with
  |some (b,ae,k)=>match iF f cons c.tail (i+1) d ae k with
   |some (e,ae,k)=>some (b::e,ae,k)
   |.none=>.none
  |.none=>.none
def iU(bF:Bool)(f:Nat->Nat)(n:Nat):List AV->Nat->Option (List AV×List (Option Nat))
 |[],_=>some ([],[])
 |a::c,k=>
  match a with
  |.own j 0 m aj=>
   if bF then if j=k then(iU bF f n c (k+1)).map fun(b,t)=>(.own (n+k) 0 m aj::b,some 0::t)else .none
   else(iU bF f n c k).map fun(b,t)=>(.v (.sl m aj)::b,t)
  |.own .. => .none
  |a=>match a.simple with
   |true=>(iU bF f n c k).map fun(b,t)=>(a.dM f::b,t)
   |false=>.none
def cx(nb:Nat):List Bx->List Bx->Option (List Bx)
 |[],a=>some a
 |x::xs,a=>match a[nb]? with
  |some .free=>cx (nb+1) xs (a.set nb x)
  |_=>.none
def iu(f:Nat->Nat):List Nat->List Bx->List Bx->List Bx
 |b::c,x::xs,a=>iu f c xs (a.set b (x.dM f))
 |_,_,a=>a
def Eb:List AV->AV
 |[a]=>a
 |l=>.xZ l
def Ec(f:AV):Option (FuncId×List AV×List AV):=
 match f with
 |.fn (.func f) first cap=>some (f,first,cap)
 |_=>.none
def uO(f:FuncId):Bool:=
 match P.funcs[f]? with
 |some fn=>fn.body.isSome && !(fn.name == "runtime.NumGoroutine")
 |.none=>false
def adj(f:FuncId):Bool:=
 match P.funcs[f]? with
 |some fn => !(fn.name == "runtime.NumGoroutine")
 |.none=>false
def PF(f:FuncId):List TypeId:=
 match P.funcs[f]? with
 |some fn=>fn.params.toList
 |.none=>[]
def PG(cons:List Nat)(g:FuncId):List TypeId:=match cons.contains 99 with
 |true=>[]
 |false=>PF P g
def freeze:List AV->List Bx->Option (List AV×List Bx)
 |[],c=>some ([],c)
 |.bA b::d,c=>match c[b]? with
  |some (.bn n aj)|some (.uK n aj)=>(freeze d (c.set b (.uK n aj))).map fun(e,h)=>(.v (.sl n aj)::e,h)
  |_=>.none
 |a::d,c=>(freeze d c).map fun(e,h)=>(a::e,h)
def LI(an:An)(args:List AV)(a:List Bx):Option (List AV×List Bx):=
 match an.uK with
 |true=>freeze args a
 |false=>some (args,a)
def Ed(nb:Nat)(an:An)(g:FuncId)(args:List AV)(r:List AV)(c:List Bx)(ae:List (Option Nat))(heap:List Bx):Option l8:=
 let a:=match an.fz with
  |true=>[]
  |false=>reach heap 100 (args.flatMap AV.refs) []
 let d:=a.map fun b=>heap.getD b .dead
 let f:=fun b=>a.idxOf b
 let back:=fun j=>match decide (j<a.length)with
  |true=>a.getD j 0
  |false=>nb+(j-a.length)
 match adj P g&&kZ a&&(d.flatMap Bx.refs).all a.contains&&d.all Bx.simple&&d.all Bx.alive&&c.all Bx.simple&&c.all Bx.there&&decide (a.length<=c.length)&&(args.flatMap AV.refs).all a.contains&&(c.flatMap Bx.refs).all (decide <| · < c.length)&&(r.flatMap AV.refs).all (decide <| · < c.length),
  iF P f an.cons (PG P an.cons g) 0 args ae 0 with
 |true,some (e,hF,_)=>
  match iU an.bF back hF.length r 0,cx nb ((c.drop a.length).map (Bx.dM back)) (iu back a c heap)with
  |some (k,new),some i=>some {v:=Eb k,ae:=hF++new,heap:=i,calls:=[{f:=g,args:=e,heap:=d.map (Bx.dM f),r,th:=c}]}
  |_,_=>.none
 |_,_=>.none
def qY(nb:Nat)(an:An)(g:FuncId)(c:List AV)(r:List AV)(a:List Bx)(ae:List (Option Nat))(d:List Bx):Option l8:=
 match LI an c d with
 |some (args,b)=>Ed P nb an g args r a ae b
 |.none=>.none
def yS(nb:Nat)(e:Bool)(s:AV)(n c:Nat)(a:List (List PV))(ae:List (Option Nat))(heap:List Bx):Option l8:=
 match s with
 |.v .nil=>match e with
  |true=>(cx nb [.bn n a] heap).map fun h=>{v:=.bA nb,ae,heap:=h,dN:=[a.length*c<=2^47]}
  |false=>some {v:=.own ae.length 0 n a,ae:=ae++[some 0],heap,dN:=[a.length*c<=2^47]}
 |.own t d m aj=>match decide (m=n),decide (ae[t]?=some (some d))with
  |true,true=>some {v:=.own t (d+1) n (aj++a),ae:=ae.set t (some (d+1)),heap,dN:=[(aj++a).length*c<=2^47]}
  |_,_=>.none
 |.bA b=>match heap[b]? with
  |some (.bn m aj)=>match decide (m=n)with
   |true=>(cx nb [.bn n (aj++a)] (heap.set b .dead)).map fun h=>{v:=.bA nb,ae,heap:=h,dN:=[(aj++a).length*c<=2^47]}
   |false=>.none
  |_=>.none
 |_=>.none
def core(nb:Nat)(o:Op)(an:An)(k:Kd)(ρ:Operand->AV)(ae:List (Option Nat))(heap:List Bx):Option l8:=
 match o with
 |.alloc t=>match(D9 P t).bind (fun z=>cellsIn (kr P t) z ae),cw P t with
  |some (cs,bz),some n=>match decide (cs.length=n)with
   |true=>(cx nb [.cells cs] heap).map fun h=>{v:=.az nb 0,ae:=bz,heap:=h}
   |false=>.none
  |_,_=>.none
 |.box t x=>match cellsOf P t (ρ x) ae,cw P t with
  |some (cs,bz),some n=>match decide (cs.length=n)with
   |true=>(cx nb [.cells cs] heap).map fun h=>{v:=.az nb 0,ae:=bz,heap:=h}
   |false=>.none
  |_,_=>.none
 |.makeSlice t l c=>match P.underlying t with
  |some (.slice e)=>match cw P e,yQ P e,(qW P e).bind (rowOf P e),ρ l,ρ c with
   |some n,some w,some z,.v (.int _ m),.v (.int _ K)=>match decide (z.length=n/\0<n/\0<w)with
    |true=>(cx nb [.bn n (List.replicate m.toNat z)] heap).map fun h=>{v:=.bA nb,ae,heap:=h,dN:=[K=m,0<=m,m*w<=2^47]}
    |false=>.none
   |_,_,_,_,_=>.none
  |_=>.none
 |.makeMap t .none=>match P.underlying t with
  |some (.map _ _)=>(cx nb [.map t []] heap).map fun h=>{v:=.mp nb,ae,heap:=h}
  |_=>.none
 |.lookup t m i ok=>match ρ m,(ρ i).pv,P.underlying t,k with
  |.mp b,some key,some (.map u D),.look o=>match heap[b]?,qW P D,kT P u key with
   |some (.map d q),some z,true=>match decide (d=t)with
    |true=>
     let y (a:AV) (B:Bool) (ae:List (Option Nat)) (heap:List Bx):Option l8:=some {v:=match ok with|true=>.xZ [a,.v (.bool B)]|false=>a,ae,heap,dN:=[cK q key=o]}
     match o with
     |some (.ke n aj)=>match an.take with
      |true=>y (.own ae.length 0 n aj) true (ae++[some 0]) (heap.set b (.map t (cB q key (.v (.sl n aj)))))
      |false=>y (.v (.sl n aj)) true ae heap
     |some a=>match an.take with
      |true=>.none
      |false=>y a true ae heap
     |.none=>y z false ae heap
    |false=>.none
   |_,_,_=>.none
  |_,_,_,_=>.none
 |.mapUpdate t m i x=>match ρ m,(ρ i).pv,P.underlying t with
  |.mp b,some key,some (.map u D)=>match heap[b]?,ti P D (ρ x) ae,kT P u key with
   |some (.map d q),some (a,bz),true=>match decide (d=t)with
    |true=>some {v:=.none,ae:=bz,heap:=heap.set b (.map t (cB q key a))}
    |false=>.none
   |_,_,_=>.none
  |_,_,_=>.none
 |.call {callee:=.builtin .delete,args,argTypes}=>match args.toList.map ρ,argTypes.toList with
  |[.mp b,i],t::_=>match heap[b]?,i.pv,P.underlying t with
   |some (.map d q),some key,some (.map u _)=>match decide (d=t),kT P u key with
    |true,true=>some {v:=.none,ae,heap:=heap.set b (.map t (k9 q key))}
    |_,_=>.none
   |_,_,_=>.none
  |_,_=>.none
 |.store t a x=>match ρ a with
  |.az b off=>match heap[b]? with
   |some (.cells cs)=>(Ea P t cs off (ρ x) ae).map fun(cs,ae)=>{v:=.none,ae,heap:=heap.set b (.cells cs)}
   |_=>.none
  |.jr b s n l i j=>match heap[b]?,k with
   |some (.cells cs),.put J=>match du P t,cw P t,ρ x with
    |some false,some 1,.v p=>match decide (s+l*n<=cs.length),p with
     |true,.nil=>.none
     |true,p=>some {v:=.none,ae,heap:=heap.set b (.cells J),dN:=[j<n,putAt cs (s+i.toNat*n+j) [.v p]=J]}
     |_,_=>.none
    |_,_,_=>.none
   |_,_=>.none
  |.gg b n i j=>match heap[b]?,cw P t,rowOf P t (ρ x)with
   |some (.bn m aj),some c,some ps=>match decide (m=n/\ps.length=c)with
    |true=>some {v:=.none,ae,heap:=heap.set b (.bn n (cF aj i.toNat j ps)),dN:=[j+c<=n]}
    |false=>.none
   |_,_,_=>.none
  |_=>.none
 |.load t a=>match an.fz,ρ a with
  |false,.az b off=>match heap[b]? with
   |some (.cells cs)=>match an.take,cs[off]?,du P t with
    |true,some (.ke n aj),some false=>some {v:=.own ae.length 0 n aj,ae:=ae++[some 0],heap:=heap.set b (.cells (cs.set off (.v (.sl n aj))))}
    |_,_,_=>(varOf P t cs off).map fun v=>{v,ae,heap}
   |_=>.none
  |false,.jr b s n l i j=>match heap[b]?,du P t,cw P t,k with
   |some (.cells cs),some false,some 1,.cell (.v p)=>match decide (s+l*n<=cs.length)with
    |true=>some {v:=.v p,ae,heap,dN:=[cs[s+i.toNat*n+j]?=some (.v p)]}
    |false=>.none
   |_,_,_,_=>.none
  |false,.gg b n i j=>match heap[b]?,du P t,cw P t,k with
   |some (.bn m aj),some true,some c,.row r|some (.uK m aj),some true,some c,.row r=>match decide (m=n/\j+c<=n/\r.length=n)with
    |true=>some {v:=.agg ((r.drop j).take c),ae,heap,dN:=[aj[i.toNat]?=some r]}
    |false=>.none
   |some (.bn m aj),some false,some 1,.cell (.v p)|some (.uK m aj),some false,some 1,.cell (.v p)=>match decide (m=n)with
    |true=>some {v:=.v p,ae,heap,dN:=[(aj[i.toNat]?).bind (·[j]?)=some p]}
    |false=>.none
   |_,_,_,_=>.none
  |_,_=>(plain P (.load t a) an k ρ).map fun(v,l)=>{v,ae,heap,dN:=l}
 |.indexAddr t x G=>match ρ x with
  |.bA b=>match heap[b]?,ρ G with
   |some (.bn n aj),.v (.int _ i)|some (.uK n aj),.v (.int _ i)=>match P.underlying t with
    |some (.slice e)=>match decide (cw P e=some n)with
     |true=>some {v:=.gg b n i 0,ae,heap,dN:=[0<=i/\i<aj.length]}
     |false=>.none
    |_=>.none
   |_,_=>.none
  |.gg b n i j=>match ρ G,P.underlying t with
   |.v (.int _ m),some (.array len e)=>match cw P e with
    |some c=>some {v:=.gg b n i (j+m.toNat*c),ae,heap,dN:=[0<=m/\m<len]}
    |.none=>.none
   |_,_=>.none
  |_=>(plain P (.indexAddr t x G) an k ρ).map fun(v,l)=>{v,ae,heap,dN:=l}
 |.slice t x lo H I=>match ρ x with
  |.bA b=>match heap[b]?,lo,H.map ρ,I with
   |some (.bn n aj),.none,some (.v (.int _ h)),.none=>match P.underlying t with
    |some (.slice e)=>match cw P e with
     |some _=>(cx nb [.bn n (aj.take h.toNat)] (heap.set b .dead)).map fun E=>{v:=.bA nb,ae,heap:=E,dN:=[0<=h/\h<=aj.length]}
     |.none=>.none
    |_=>.none
   |_,_,_,_=>.none
  |_=>(plain P (.slice t x lo H I) an k ρ).map fun(v,l)=>{v,ae,heap,dN:=l}
 |.buildSlice t len aT=>match an.vec,an.bF,plain P (.buildSlice t len aT) an k ρ with
  |true,_,some (.v (.sl n aj),l)=>(cx nb [.bn n aj] heap).map fun h=>{v:=.bA nb,ae,heap:=h,dN:=l}
  |false,true,some (.v (.sl n aj),l)=>some {v:=.own ae.length 0 n aj,ae:=ae++[some 0],heap,dN:=l}
  |false,false,some (v,l)=>some {v,ae,heap,dN:=l}
  |_,_,_=>.none
 |.call {callee:=.builtin .append,args,argTypes}=>match args.toList,argTypes.toList with
  |[s,x],[t,d]=>match P.underlying t,P.underlying d with
   |some (.slice e),some (.slice _)=>match cw P e,yQ P e,(qW P e).bind (rowOf P e)with
    |some n,some w,some z=>match decide (z.length=n/\0<n/\0<w),(ρ x).uL n with
     |true,some M=>yS nb an.vec (ρ s) n w M ae heap
     |_,_=>.none
    |_,_,_=>.none
   |_,_=>.none
  |_,_=>.none
 |.call {callee:=.builtin .len,args,argTypes}=>match args.toList.map ρ,argTypes.toList with
  |[.bA b],[t]=>match heap[b]?,P.underlying t with
   |some (.bn _ aj),some (.slice _)|some (.uK _ aj),some (.slice _)=>some {v:=.v (.int .i64 aj.length),ae,heap}
   |_,_=>.none
  |_,_=>(plain P (.call {callee:=.builtin .len,args,argTypes}) an k ρ).map fun(v,l)=>{v,ae,heap,dN:=l}
 |.call {callee:=.value f,args, ..}=>match Ec (ρ f),k with
  |some (g,first,cap),.call r E=>qY P nb an g (first++args.toList.map ρ++cap) r E ae heap
  |_,_=>.none
 |o=>(plain P o an k ρ).map fun(v,l)=>{v,ae,heap,dN:=l}
def Ub(nb:Nat)(o:Op)(an:An)(k:Kd)(ρ:Operand->AV)(ae:List (Option Nat))(heap:List Bx):Option l8:=
 let c:=cY o an nb
 match core P nb o an k ρ (if c.tk then ae else[]) (c.view heap)with
 |some r=>some {r with ae:=if c.tk then r.ae else ae,heap:=c.merge heap r.heap}
 |.none=>.none
def St.put(s:St)(d:Option Tmp)(v:AV):List AV:=
 match d with
 |some d=>s.tmps.set d v
 |.none=>s.tmps
structure Step where
 st:St
 dN:List Prop:=[]
 calls:List Gn:=[]
def AV.strip:AV->AV
 |.opt _ _ _ a=>a
 |a=>a
def AV.conds:AV->List (Bool×Nat×Bool)
 |.opt c j w _=>[(c,j,w)]
 |_=>[]
def guardOf(ops:List Oper)(s:St)(j:Nat)(want:Bool):Option Bool:=
 match(ops[j]?).bind (·.dst)with
 |some t=>match s.tmps.getD t .none,want with
  |.v (.bool b),true=>some b
  |.v (.bool b),false=>some (!b)
  |.opt c _ _ (.v (.bool b)),true=>some (c&&b)
  |.opt c _ _ (.v (.bool b)),false=>some (c && !b)
  |_,_=>.none
 |.none=>.none
def je(d:List AV)(o:Op):List ((Bool×Nat×Bool)×Option (Bool×Bool)):=
 match o with
 |.pick c a b=>
  (fJ d c).conds.map (fun D=>(D,.none)) ++
  match(fJ d c).strip with
  |.v (.bool B)=>(fJ d a).conds.map (fun D=>(D,some (true,B)))++(fJ d b).conds.map (fun D=>(D,some (false,!B)))
  |_=>[]
 |o=>o.operands.toList.flatMap fun x=>(fJ d x).conds.map (fun D=>(D,.none))
inductive Gd where
 |yes|no
 |spec
 deriving Inhabited
structure En where
 g:Gd:=.yes
 k:Kd:=.d
 deriving Inhabited
def AV.Jw:AV->Bool
 |.opt .. => false
 |_=>true
def qM(nb:Nat)(o:Oper)(an:An)(k:Kd)(G:Option (Bool×Nat×Bool))(s:St):Option Step:=
 match Ub P nb o.op an k (fun x=>(fJ s.tmps x).strip) s.ae s.heap with
 |some r=>match G with
  |.none=>match r.v.Jw with
   |true=>some {st:={tmps:=s.put o.dst r.v,ae:=r.ae,heap:=r.heap},dN:=r.dN,calls:=r.calls}
   |false=>.none
  |some (g,j,w)=>match(cY o.op an nb).hw||(cY o.op an nb).tk || !r.calls.isEmpty || !r.dN.isEmpty with
   |true=>.none
   |false=>some {st:={tmps:=s.put o.dst (.opt g j w r.v),ae:=r.ae,heap:=r.heap}}
 |.none=>.none
def jI(o:Oper)(s:St):Step:={st:={s with tmps:=s.put o.dst (match o.guard with|some (j,w)=>.opt false j w .none|.none=>.none)}}
end
end Go.Ac
end
section
namespace Go.Ac
open Go
set_option maxRecDepth 100000
def jA(ops:List Oper)(o:Oper):List Tmp:=
 (o.op.operands.toList.filterMap fun|.tmp t=>some t|_=>.none) ++
 (match o.guard with
  |some (g,_)=>((ops[g]?).bind (·.dst)).toList
  |.none=>[])
def Jx(ops:List Oper)(x y:Oper):Bool:=
 (match x.dst with
  |some d => !(jA ops y).contains d&&y.dst !=some d
  |.none=>true) &&
 (match y.dst with
  |some d => !(jA ops x).contains d
  |.none=>true)
def meets(a b:Option (List Nat)):Bool:=
 match a,b with
 |some l,some m=>l.any m.contains
 |_,_=>true
def ou.fits(a b:ou):Bool :=!((a.hw&&(b.hr||b.hw)||b.hw&&a.hr)&&meets a.bx b.bx) && !(a.tk&&b.tk)
def kt:List Oper->List Nat->List Nat
 |[],a=>a
 |o::os,a=>kt os (a++[o.after.toList.foldl (fun s e=>if Region.binds .any e then s ||| 2^e.on ||| a.getD e.on 0 else s) 0])
def LJ(ops:List Oper)(an:Nat->An)(nb:Nat->Nat)(j i:Nat):Bool:=
 match ops[j]?,ops[i]? with
 |some x,some y=>Jx ops x y&&(cY x.op (an j) (nb j)).fits (cY y.op (an i) (nb i))
 |_,_=>false
def LK(ops:List Oper)(an:Nat->An)(nb:Nat->Nat)(ms:List Nat)(j i:Nat):Bool:=(ms.getD i 0).testBit j||LJ ops an nb j i
def Jy(ops:List Oper):Bool:=
 Region.noSelect ops.toArray&&(List.range ops.length).all fun i=>
  match ops[i]? with
  |some o=>o.after.toList.all fun e => !(Region.binds .any e)||decide (e.on<i)
  |.none=>false
def Jz(ops:List Oper)(an:Nat->An)(nb:Nat->Nat)(ms:List Nat):Bool:=
 (List.range ops.length).all fun i=>(List.range i).all fun j=>LK ops an nb ms j i
def ji(ops:List Oper)(a:List Nat)(i:Nat):Bool:=
 match ops[i]? with
 |some o=>o.after.toList.all fun e => !(Region.binds .any e) || !a.contains e.on
 |.none=>false
def XT(ops:List Oper)(an:Nat->An)(nb:Nat->Nat)(ms:List Nat)(a:List Nat):Option Nat:=
 a.find? fun i=>ji ops a i&&a.all fun j=>j==i||(ms.getD j 0).testBit i||LJ ops an nb j i
def oP:List CT->(List PV->Prop)->Prop
 |[],k=>k []
 |.bool::l,k=>∃b:Bool,oP l fun ps=>k (.bool b::ps)
 |.int a::l,k=>∃n:Int,oP l fun ps=>k (.int a n::ps)
 |.str::l,k=>∃s:List UInt8,oP l fun ps=>k (.str s::ps)
 |.sl n::l,k=>∃aj:List (List PV),oP l fun ps=>k (.sl n aj::ps)
 |.nP a::l,k=>∃o:Option (Nat×Nat),oP l fun ps=>k (.nP a o::ps)
 |_::l,k=>∃p:PV,oP l fun ps=>k (p::ps)
section
variable (P:Program)
def qZ(an:An)(a:Nat):List TypeId->Nat->List Bx->(List AV->List Bx->Prop)->Prop
 |[],_,bx,k=>k [] bx
 |t::b,j,bx,k=>match P.underlying t,kr P t with
  |some (.struct _),c|some (.array _ _),c=>oP c fun ps=>qZ an a b j bx fun r bx=>k (.agg ps::r) bx
  |some (.interface _),_=>∃o:Option (TypeId×List PV),qZ an a b j bx fun r bx=>k (.xp o::r) bx
  |some (.slice _),[.sl n]=>match an.vec,an.bF with
   |true,_=>∃aj:List (List PV),qZ an a b j (bx++[.bn n aj]) fun r uP=>k (.bA (a+bx.length)::r) uP
   |_,true=>∃aj:List (List PV),qZ an a b (j+1) bx fun r bx=>k (.own j 0 n aj::r) bx
   |_,_=>∃aj:List (List PV),qZ an a b j bx fun r bx=>k (.v (.sl n aj)::r) bx
  |some (.map _ _),_=>∃d:List (PV×AV),qZ an a b j (bx++[.map t d]) fun r uP=>k (.mp (a+bx.length)::r) uP
  |some (.func _ _ _),_=>qZ an a b j (bx++[.cells [.mp 0]]) fun r uP=>k (.fn (.func an.fn) [] [.az (a+bx.length) 0]::r) uP
  |_,c=>oP c fun ps=>match ps with
   |[p]=>qZ an a b j bx fun r bx=>k (.v p::r) bx
   |_=>False
def Ee:AV->(AV->Prop)->Prop
 |.v (.bool _),k=>∃b:Bool,k (.v (.bool b))
 |.v (.int c _),k=>∃n:Int,k (.v (.int c n))
 |.v (.str _),k=>∃s:List UInt8,k (.v (.str s))
 |.v (.sl n _),k=>∃aj:List (List PV),k (.v (.sl n aj))
 |.v (.nP c _),k=>∃o:Option (Nat×Nat),k (.v (.nP c o))
 |.v _,k=>∃p:PV,k (.v p)
 |.ke n _,k=>∃aj:List (List PV),k (.ke n aj)
 |.xp _,k=>∃o,k (.xp o)
 |a,k=>k a
def pC(c:Bool)(idx:List Nat):Nat->List AV->(List AV->Prop)->Prop
 |_,[],k=>k []
 |i,a::l,k=>match c||idx.contains i with
  |true=>Ee a fun b=>pC c idx (i+1) l fun m=>k (b::m)
  |false=>match idx.contains (i+1000)with
   |true=>Ee a.view fun b=>pC c idx (i+1) l fun m=>k (b::m)
   |false=>pC c idx (i+1) l fun m=>k (a::m)
def XU(idx:List Nat):Bx->(Bx->Prop)->Prop
 |.cells cs,k=>pC idx.isEmpty idx 0 cs fun c=>k (.cells c)
 |.bn n _,k=>match idx with
  |[]=>∃aj:List (List PV),k (.bn n aj)
  |_=>k .dead
 |.map t _,k=>∃a:List (PV×AV),k (.map t a)
 |b,k=>k b
def PH(a:List (Nat×List Nat)):Nat->List Bx->(List Bx->Prop)->Prop
 |_,[],k=>k []
 |i,b::l,k=>match a.lookup i with
  |some idx=>XU idx b fun x=>PH a (i+1) l fun m=>k (x::m)
  |.none=>PH a (i+1) l fun m=>k (b::m)
def PI(t:TypeId)(k:AV->Prop):Prop:=
 match du P t,kr P t with
 |some true,a=>oP a fun ps=>k (.agg ps)
 |_,[.sl n]=>∃aj:List (List PV),k (.ke n aj)
 |_,a=>oP a fun ps=>match ps with
  |[p]=>k (.v p)
  |_=>False
def XV(o:Op)(an:An)(q:List (Nat×List Nat))(ρ:Operand->AV)(i:List Bx)(k:Kd->Prop):Prop:=
 match o with
 |.load t a=>match ρ a,du P t with
  |.jr ..,_=>oP (kr P t) fun ps=>match ps with|[p]=>k (.cell (.v p))|_=>False
  |.gg ..,some true=>oP (kr P t) fun ps=>k (.row ps)
  |.gg ..,_=>oP (kr P t) fun ps=>match ps with|[p]=>k (.cell (.v p))|_=>False
  |_,_=>k .d
 |.store _ a _=>match ρ a with
  |.jr b s n l _ _=>match i[b]? with
   |some (.cells cs)=>pC false ((List.range (l*n)).map (s + ·)) 0 cs fun m=>k (.put m)
   |_=>False
  |_=>k .d
 |.indexAddr t x _=>match P.underlying t,ρ x with
  |some (.slice _),.bA _=>k .d
  |some (.slice e),_=>oP (kr P e) fun ps=>k (.row ps)
  |_,_=>k .d
 |.index t _ _=>match P.underlying t with
  |some (.array _ e)=>oP (kr P e) fun ps=>match ps with|[p]=>k (.cell (.v p))|_=>False
  |_=>k .d
 |.lookup t _ _ _=>match P.underlying t with
  |some (.map _ e)=>k (.look .none)\/PI P e fun a=>k (.look (some a))
  |_=>False
 |.typeAssert _ _ t ok=>match ok with
  |true=>k (.Ui .none)\/oP (kr P t) fun ps=>k (.Ui (some ps))
  |false=>oP (kr P t) fun ps=>k (.Ui (some ps))
 |.call {callee:=.value f,args, ..}=>match Ec (ρ f)with
  |some (g,first,cap)=>
   let c:=first++args.toList.map ρ++cap
   let c:=match an.uK with
    |true=>c.filter fun(a:AV)=>match a with|.bA _=>false|_=>true
    |false=>c
   let d:=match an.fz with
    |true=>[]
    |false=>reach i 100 (c.flatMap AV.refs) []
   qZ P an d.length ((match P.funcs[g]? with|some fn=>fn.resultTypes.toList|.none=>[])) 0 [] fun r bx=>
    PH q 0 (d.map fun b=>(i.getD b .dead).dM fun b=>d.idxOf b) fun j=>k (.call r (j++bx))
  |.none=>False
 |_=>k .d
variable (E:FuncId->List AV->List Bx->List AV->List Bx->Prop)
def aI(b:Bool)(x y:Prop):Prop:=
 match b with
 |true=>x
 |false=>y
def JA:List Prop->Prop->Prop
 |[],k=>k
 |p::l,k=>p/\JA l k
def yT:List Gn->Prop->Prop
 |[],k=>k
 |c::l,k=>E c.f c.args c.heap c.r c.th/\yT l k
abbrev Env:=List (Nat×Bool)
def Wd(ops:List Oper):Nat->Option (Nat×Bool)->Nat×Bool->Bool
 |0,_,_=>false
 |_,.none,_=>false
 |n+1,some g,d=>g==d||Wd ops n ((ops[g.1]?).bind (·.guard)) d
def covered(ops:List Oper)(a:Env)(o:Oper)(D:Bool×Nat×Bool)(x:Option (Bool×Bool)):Bool:=
 a.contains (D.2.1,D.2.2)||Wd ops 20 o.guard (D.2.1,D.2.2) ||
 match o.op,x with
 |.pick (.tmp c) _ _,some (b,_)=>match ops[D.2.1]? with
  |some x=>x.dst==some c&&D.2.2==b
  |.none=>false
 |_,_=>false
def oQ(ops:List Oper)(a:Env)(o:Oper):List ((Bool×Nat×Bool)×Option (Bool×Bool))->Prop->Prop
 |[],k=>k
 |(D,x)::l,k=>match covered ops a o D x with
  |true=>oQ ops a o l k
  |false=>(match x with|.none=>D.1=true|some B=>B.2=true->D.1=true)/\oQ ops a o l k
structure Cut where
 bl:List Nat:=[]
 cN:List (Nat×Nat):=[]
 owns:List Nat:=[]
 iV:List (Nat×Nat):=[]
 wc:List (Nat×Nat):=[]
structure td where
 an:Nat->Nat->An:=fun _ _=>{}
 mod:Nat->Nat->List (Nat×List Nat):=fun _ _=>[]
 rf:Bool:=false
 join:Nat->Option Cut:=fun _=>.none
def NS(nb:Nat->Nat)(ops:List Oper)(A:td)(id:Nat)(i:Nat)(o:Oper)(g:Option (Bool×Nat×Bool))(s:St)(a:Env)(k:St->Env->Prop):Prop:=
 oQ ops a o (je s.tmps o.op)
  (XV P o.op (A.an id i) (A.mod id i) (fun x=>(fJ s.tmps x).strip) s.heap fun b=>
   match qM P (nb i) o (A.an id i) b g s with
   |some x=>JA x.dN (yT E x.calls (k x.st a))
   |.none=>False)
def we(ops:List Oper)(a:Env)(c:Operand):Option Bool:=
 match c with
 |.tmp t=>match a.find? fun x=>((ops[x.1]?).bind (·.dst))==some t with
  |some x=>some x.2
  |.none=>.none
 |_=>.none
def isB:AV->Bool
 |.v (.bool _)=>true
 |_=>false
def We(t:Option Tmp)(b:List AV):Bool:=
 match t with
 |some t=>match b.getD t .none with
  |.opt c _ _ a=>match a with
   |.none => !c
   |_=>false
  |_=>false
 |.none=>false
def wg(nb:Nat->Nat)(ops:List Oper)(A:td)(id:Nat)(i:Nat)(o:Oper)(x:Operand)(t:Bool)(s:St)(a:Env)(k:St->Env->Prop):Prop:=
 oQ ops a o ((fJ s.tmps x).conds.map fun D=>(D,.none)) (match qM P (nb i) o (A.an id i) (.pk t) .none s with
  |some x=>k x.st a
  |.none=>False)
def yU(nb:Nat->Nat)(ops:List Oper)(A:td)(id:Nat)(i:Nat)(o:Oper)(s:St)(d:Env)(k:St->Env->Prop):Prop:=
 match o.op with
 |.pick c a b=>
  match we ops d c with
  |some true=>wg P nb ops A id i o a true s d k
  |some false=>wg P nb ops A id i o b false s d k
  |.none=>match isB (fJ s.tmps a).strip&&isB (fJ s.tmps b).strip with
   |true=>NS P E nb ops A id i o .none s d k
   |false=>match fJ s.tmps c with
    |.v (.bool B)=>aI B (wg P nb ops A id i o a true s d k) (wg P nb ops A id i o b false s d k)
    |_=>False
 |_=>NS P E nb ops A id i o .none s d k
def wpOp(nb:Nat->Nat)(ops:List Oper)(A:td)(id:Nat)(i:Nat)(s:St)(d:Env)(k:St->Env->Prop):Prop:=
 match ops[i]? with
 |.none=>False
 |some o=>
  match o.guard with
  |.none=>yU P E nb ops A id i o s d k
  |some (j,w)=>match d.lookup j with
   |some b=>match b==w with
    |true=>yU P E nb ops A id i o s d k
    |false=>k (jI o s).st d
   |.none=>match(A.an id i).spec with
    |true=>match We ((ops[j]?).bind (·.dst)) s.tmps with
     |true=>k (jI o s).st d
     |false=>match guardOf ops s j w with
      |some G=>NS P E nb ops A id i o (some (G,j,w)) s d k
      |.none=>False
    |false=>match(ops[j]?).bind (·.dst)with
     |some t=>match s.tmps.getD t .none with
      |.v (.bool B)=>match w with
       |true=>aI B (yU P E nb ops A id i o s ((j,true)::d) k) (k (jI o s).st ((j,false)::d))
       |false=>aI B (k (jI o s).st ((j,true)::d)) (yU P E nb ops A id i o s ((j,false)::d) k)
      |.opt c _ _ a=>match a with
       |.none=>match c with
        |false=>k (jI o s).st d
        |true=>False
       |_=>False
      |_=>False
     |.none=>False
def Gq(nb:Nat->Nat)(ops:List Oper)(A:td)(id:Nat):List Nat->St->Env->(St->Prop)->Prop
 |[],s,_,k=>k s
 |i::l,s,a,k=>wpOp P E nb ops A id i s a fun s a=>Gq nb ops A id l s a k
def Ef:List Nat->(Nat->Prop)->Prop
 |[],_=>True
 |[i],k=>k i
 |i::l,k=>k i/\Ef l k
def wh(nb:Nat->Nat)(ops:List Oper)(A:td)(id:Nat)(ms:List Nat):Nat->List Nat->St->Env->(St->Prop)->Prop
 |0,_,_,_,_=>False
 |_,[],s,_,k=>k s
 |n+1,b,s,a,k=>match XT ops (A.an id) nb ms b with
  |some i=>wpOp P E nb ops A id i s a fun s a=>wh nb ops A id ms n (b.filter (· != i)) s a k
  |.none=>Ef (b.filter (ji ops b)) fun i=>wpOp P E nb ops A id i s a fun s a=>wh nb ops A id ms n (b.filter (· != i)) s a k
def XW(ops:List Oper):Bool:=
 kZ (ops.filterMap (·.dst))&&(List.range ops.length).all fun i=>
  match(ops[i]?).bind (·.guard)with
  |some (j,_)=>decide (j<i)&&(match ops[i]? with|some o=>o.after.toList.any fun e=>Region.binds .any e&&e.on==j|.none=>false)
  |.none=>true
def pD:AV->AV
 |.opt .. => .none
 |a=>a
def slotsOf(an:Nat->An):List Oper->Nat->Nat->List Nat
 |[],_,_=>[]
 |o::os,i,b=>b::slotsOf an os (i+1) (b+PC P o.op (an i))
def LL(an:Nat->An):List Oper->Nat->Nat
 |[],_=>0
 |o::os,i=>PC P o.op (an i)+LL an os (i+1)
def LM(ops:List Oper)(A:td)(id:Nat)(draw:Bool)(s:St)(k:St->Prop):Prop:=
 let a (s:St):Prop:=k {s with tmps:=s.tmps.map pD}
 let sl:=slotsOf P (A.an id) ops 0 s.heap.length
 let nb:=fun i=>sl.getD i 0
 let s:={s with tmps:=s.tmps.map pD,heap:=s.heap++List.replicate (LL P (A.an id) ops 0) .free}
 match XW ops,draw with
 |false,_=>False
 |true,false=>Gq P E nb ops A id (List.range ops.length) s [] a
 |true,true=>match Jy ops with
  |false=>False
  |true=>
   let ms:=kt ops []
   match Jz ops (A.an id) nb ms with
   |true=>Gq P E nb ops A id (List.range ops.length) s [] a
   |false=>wh P E nb ops A id ms (ops.length+1) (List.range ops.length) s [] a
def AV.under(n:Nat)(a:AV):Bool:=a.refs.all (decide <| · < n)
def oR:List (Nat×Nat)->List AV->List (Option Nat)->List AV×List (Option Nat)
 |[],a,ae=>(a,ae)
 |(i,n)::b,a,ae=>match a.getD i .none with
  |.v .nil=>oR b (a.set i (.own ae.length 0 n [])) (ae++[some 0])
  |_=>oR b a ae
def sH:List (Nat×Nat)->List AV->List Bx->List AV×List Bx
 |[],b,a=>(b,a)
 |(i,n)::c,b,a=>match b.getD i .none with
  |.v .nil=>sH c (b.set i (.bA a.length)) (a++[.bn n []])
  |_=>sH c b a
def Eg(a:List AV)(ae:List (Option Nat)):List Nat->Option (List Nat)
 |[]=>some []
 |i::b=>match a.getD i .none with
  |.own t c _ _=>match decide (ae[t]?=some (some c))with
   |true=>(Eg a ae b).map (t :: ·)
   |false=>.none
  |_=>.none
def Cut.slot(c:Cut)(f:Nat->Nat)(i:Nat)(a:AV):AV:=
 match c.bl.contains i with
 |false=>.none
 |true=>
  match a with
  |.own _ _ n aj=>match c.owns.idxOf? i with
   |some j=>.own j 0 n aj
   |.none=>.v (.sl n aj)
  |a=>match a.simple with
   |true=>a.dM f
   |false=>.none
def iW{α β:Type}(f:Nat->α->β):Nat->List α->List β
 |_,[]=>[]
 |i,a::l=>f i a::iW f (i+1) l
def Cut.refs(c:Cut)(b:List AV):List Nat:=c.bl.flatMap fun i=>match b.getD i .none with
 |.jr .. |.gg .. => []
 |a=>a.refs
def Bx.under(n:Nat)(b:Bx):Bool:=b.refs.all (decide <| · < n)
def la(l:List (Nat×Nat)):Nat->List Bx->List Bx
 |_,[]=>[]
 |b,.cells cs::h=>.cells (iW (fun i a=>match l.contains (b,i)with|true=>a.view|false=>a) 0 cs)::la l (b+1) h
 |b,x::h=>x::la l (b+1) h
def Cut.app(c:Cut)(d:Nat)(s:St):Option St:=
 match oR c.cN s.tmps s.ae with
 |(tmps,ae)=>match sH c.iV tmps s.heap with
  |(tmps,heap)=>match Eg tmps ae c.owns with
   |some e=>
    let a:=reach heap 100 (c.refs tmps) (List.range d)
    let f:=fun b=>a.idxOf b
    let h:=a.map fun b=>heap.getD b .dead
    match kZ e&&(c.refs tmps).all a.contains&&(h.flatMap Bx.refs).all a.contains&&h.all Bx.simple with
    |true=>some {tmps:=iW (c.slot f) 0 tmps,ae:=c.owns.map fun _=>some 0,heap:=la c.wc 0 (h.map (Bx.dM f))}
    |false=>.none
   |.none=>.none
def m2:Code->Option Nat
 |.region id _ _=>some id
 |.seq a b=>match m2 a with
  |some n=>some n
  |.none=>m2 b
 |.block _ b|.loop b=>m2 b
 |.cond _ a b=>match m2 a with
  |some n=>some n
  |.none=>m2 b
 |_=>.none
def Eh(s:St):ResultVar->Option AV
 |.tmp t=>some (s.tmps.getD t .none)
 |.cell a t=>match s.tmps.getD a .none with
  |.az b off=>match s.heap[b]? with
   |some (.cells cs)=>varOf P t cs off
   |_=>.none
  |_=>.none
def uQ(a:Nat)(b:Nat)(c:List Bx)(bx:List Bx):Option (Nat×List Bx×List Bx):=
 match c[b]? with
 |some x=>match x.simple&&x.under a with
  |true=>some (a+bx.length,c.set b .dead,bx++[x])
  |false=>.none
 |.none=>.none
def lG(d:Nat):List AV->List Bx->List Bx->Option (List AV×List Bx×List Bx)
 |[],c,bx=>some ([],c,bx)
 |.az b off::l,c,bx=>match decide (b<d)with
  |true=>(lG d l c bx).map fun(m,r)=>(.az b off::m,r)
  |false=>match uQ d b c bx with
   |some (b',c,bx)=>(lG d l c bx).map fun(m,r)=>(.az b' off::m,r)
   |.none=>.none
 |a::l,c,bx=>match a.under d with
  |true=>(lG d l c bx).map fun(m,r)=>(a::m,r)
  |false=>.none
def hH(a:Bool):List TypeId->Option Nat
 |t::_=>match a,yR P t (.v .nil)with
  |true,.v (.sl n _)=>some n
  |_,_=>.none
 |[]=>.none
def kU(e:Bool)(d:Nat):List TypeId->List AV->List (Option Nat)->List Bx->List Bx->Nat->Option (List AV×List Bx×List Bx)
 |_,[],_,c,bx,_=>some ([],c,bx)
 |f,a::i,ae,c,bx,k=>
  let norm (a:AV):AV:=match f with
   |t::_=>yR P t a
   |[]=>a
  match a with
  |.v .nil=>match hH P e f with
   |some n=>(kU e d f.tail i ae c bx (k+1)).map fun(l,h)=>(.own k 0 n []::l,h)
   |.none=>(kU e d f.tail i ae c bx k).map fun(l,h)=>(norm (.v .nil)::l,h)
  |.own t j n aj=>match decide (ae[t]?=some (some j))with
   |true=>(kU e d f.tail i (ae.set t .none) c bx (k+1)).map fun(l,h)=>(.own k 0 n aj::l,h)
   |false=>(kU e d f.tail i ae c bx k).map fun(l,h)=>(.v (.sl n aj)::l,h)
  |.bA b=>match c[b]? with
   |some (.bn n aj)=>match e with
    |true=>(kU e d f.tail i ae (c.set b (.uK n aj)) bx k).map fun(l,h)=>(.v (.sl n aj)::l,h)
    |false=>(kU e d f.tail i ae (c.set b .dead) (bx++[.bn n aj]) k).map fun(l,h)=>(.bA (d+bx.length)::l,h)
   |some (.uK n aj)=>(kU e d f.tail i ae c bx k).map fun(l,h)=>(.v (.sl n aj)::l,h)
   |_=>.none
  |.mp b=>match decide (b<d)with
   |true=>(kU e d f.tail i ae c bx k).map fun(l,h)=>(.mp b::l,h)
   |false=>match uQ d b c bx with
    |some (b',c,bx)=>(kU e d f.tail i ae c bx k).map fun(l,h)=>(.mp b'::l,h)
    |.none=>.none
  |.fn g first cap=>match(AV.fn g first cap).simple&&first.all (AV.under d),lG d cap c bx with
   |true,some (cap,c,bx)=>(kU e d f.tail i ae c bx k).map fun(l,h)=>(.fn g first cap::l,h)
   |_,_=>.none
  |a=>match a.simple&&a.under d with
   |true=>(kU e d f.tail i ae c bx k).map fun(l,h)=>(norm a::l,h)
   |false=>.none
def wi(s:St):List ResultVar->Option (List AV)
 |[]=>some []
 |r::b=>match Eh P s r,wi s b with
  |some a,some l=>some (a::l)
  |_,_=>.none
def fin(fn:Func)(c:Bool)(a:Nat)(s:St):Option (List AV×List Bx):=
 match wi P s fn.results.toList with
 |.none=>.none
 |some l=>match kU P c a fn.resultTypes.toList l s.ae s.heap [] 0 with
  |some (r,h,bx)=>match decide (a<=s.heap.length)&&(h.take a).all fun b=>b.simple&&b.under a with
   |true=>some (r,h.take a++bx)
   |false=>.none
  |.none=>.none
variable (K:Func->List Item->St->Nat->List AV->List Bx->Prop)
def PJ(ops:List Oper)(a:List (Tmp×Bool)):List (Tmp×Bool):=a.filter fun x=>ops.all fun o=>o.dst !=some x.1
def Fi(r:List AV)(h:List Bx)(b:List AV)(a:List Bx):Prop:=b=r/\a=h
def wp(fn:Func)(d:Nat)(A:td)(f:Nat->Option Cut)(r:List AV)(h:List Bx):Nat->List Item->St->List (Tmp×Bool)->Prop
 |0,_,_,_=>False
 |n+1,m,s,e=>
  let done:Prop:=match fin P fn A.rf d s with
   |some (l,i)=>Fi r h l i
   |.none=>False
  let head (b:Code) (k:List Item):Prop:=match(m2 b).bind f with
   |some c=>match c.app d s with
    |some g=>K fn (.code b :: .inLoop b::k) g d r h
    |.none=>False
   |.none=>wp fn d A f r h n (.code b :: .inLoop b::k) s e
  match m with
  |[]=>done
  |.code c::k=>match c with
   |.skip|.label _=>wp fn d A f r h n k s e
   |.seq a b=>wp fn d A f r h n (.code a :: .code b::k) s e
   |.block id b=>wp fn d A f r h n (.code b :: .inBlock id::k) s e
   |.loop b=>head b k
   |.exit id=>match exitTo id k with
    |some j=>wp fn d A f r h n j s e
    |.none=>False
   |.ret=>done
   |.cond (.tmp x) a b=>match e.lookup x with
    |some true=>wp fn d A f r h n (.code a::k) s e
    |some false=>wp fn d A f r h n (.code b::k) s e
    |.none=>match s.tmps.getD x .none with
     |.v (.bool B)=>aI B (wp fn d A f r h n (.code a::k) s ((x,true)::e)) (wp fn d A f r h n (.code b::k) s ((x,false)::e))
     |_=>False
   |.region id ops draw=>match A.join id with
    |some c=>match c.app d s with
     |some g=>K fn (.code (.region id ops draw)::k) g d r h
     |.none=>False
    |.none=>LM P E ops.toList A id draw s fun s=>wp fn d A f r h n k s (PJ ops.toList e)
   |_=>False
  |.inBlock _::k=>wp fn d A f r h n k s e
  |.inLoop b::k=>head b k
  |_=>False
def aO(n:Nat)(l:List (Nat×AV)):List AV:=(List.range n).map fun i=>(l.lookup i).getD .none
def cD:List AV->List (Option Nat)
 |[]=>[]
 |.own .. :: l=>some 0::cD l
 |_::l=>cD l
def Ei(fn:Func)(args:List AV)(heap:List Bx):St:=
 {tmps:=args++List.replicate (fn.ntmps-args.length) .none,ae:=cD args,heap}
def pE:Code->List Item->List (List Item)
 |.seq a b,k=>pE a (.code b::k)++pE b k
 |.cond _ a b,k=>pE a k++pE b k
 |.block id c,k=>pE c (.inBlock id::k)
 |.loop c,k=>(.code c :: .inLoop c::k)::pE c (.inLoop c::k)
 |_,_=>[]
def tu(id:Nat):Code->List Item->Option (List Item)
 |.seq a b,k=>match tu id a (.code b::k)with
  |some l=>some l
  |.none=>tu id b k
 |.cond _ a b,k=>match tu id a k with
  |some l=>some l
  |.none=>tu id b k
 |.block n c,k=>tu id c (.inBlock n::k)
 |.loop c,k=>tu id c (.inLoop c::k)
 |.region n ops draw,k=>match n==id with
  |true=>some (.code (.region n ops draw)::k)
  |false=>.none
 |_,_=>.none
def aaa(fn:Func)(id:Nat):List Item:=(tu id (fn.body.getD .skip) []).getD []
def wpJ(fn:Func)(b:Nat)(A:td)(a:Nat->Option Cut)(r:List AV)(h:List Bx)(n:Nat)(c:List Item)(s:St):Prop:=
 match c with
 |.code (.region id ops draw)::k=>LM P E ops.toList A id draw s fun s=>wp P E K fn b A a r h n k s []
 |_=>False
def XX(fn:Func)(k:Nat):List Item:=(pE (fn.body.getD .skip) []).getD k []
end
def kf(aj:List (List PV))(i j:Nat):Option PV:=(aj[i]?).bind (·[j]?)
def AV.xq:AV->Bool
 |.none|.v _|.az _ _|.bA _|.mp _|.xp _=>true
 |_=>false
def AV.JB:AV->Bool
 |.v _|.agg _|.ke .. => true
 |_=>false
inductive cm (bX:Nat->Nat) (w:World):Value->PV->Prop
 |bool (b:Bool):cm bX w (.bool b) (.bool b)
 |int (k:IntKind) (n:Int):cm bX w (.int k n) (.int k n)
 |str (s:ByteArray):cm bX w (.string s) (.str s.data.toList)
 |nP (k:FloatKind) (re im:Nat):cm bX w (.complex k re im) (.nP k (some (re,im)))
 |Gr (k:FloatKind) (re im:Nat):cm bX w (.complex k re im) (.nP k none)
 |Wb (k:FloatKind) (b:Nat):cm bX w (.float k b) (.D7 k)
 |nil:cm bX w (.slice none 0 0) .nil
 |m3 (n:Nat):cm bX w (.slice none 0 0) (.sl n [])
 |Jo (a:Addr) (n:Nat):cm bX w (.slice (some a) 0 0) (.sl n [])
 |sl (b off len cap n:Nat) (aj:List (List PV)) (u:Nat->Nat->Value) (hl:aj.length=len) (hc:len<=cap) (hr:∀r∈aj,r.length=n)
   (aje:∀i j p,kf aj i j=some p->w.cell? ⟨b,off+i*n+j,none⟩=some (u i j)/\off+i*n+j<bX b)
   (hp:∀i j p,kf aj i j=some p->cm bX w (u i j) p):cm bX w (.slice (some ⟨b,off,none⟩) len cap) (.sl n aj)
inductive Hd where
 |box (b:Nat)
 |cell (b j:Nat)
 |ov (b:Nat) (k:PV)
 |tok (t:Nat)
structure Gh where
 bX:Nat->Nat
 h:Hd->Option Nat
 val:Nat->Value
 bD:Nat->Prop
def Room(G:Gh)(x:Hd)(w:World)(A:Option Addr)(len cap n:Nat):Prop:=
 len<cap->∃(b off:Nat)(X:Array Value)(elem:TypeId),A=some ⟨b,off,none⟩/\G.h x=some b/\G.bX b=off+len*n/\w.heap[b]?=some (.cells X elem (0,0))/\off+cap*n<=X.size
inductive aS (G:Gh) (ae:List (Option Nat)) (w:World):Value->AV->Prop
 |none (v:Value):aS G ae w v .none
 |v {v:Value} {p:PV} (h:cm G.bX w v p):aS G ae w v (.v p)
 |agg {cs:Array Value} {ps:List PV} (hs:cs.size=ps.length) (h:∀(i:Nat)v p,cs[i]?=some v->ps[i]?=some p->cm G.bX w v p):aS G ae w (.agg cs) (.agg ps)
 |D8 {cs:Array Value} {l:List AV} (hs:cs.size=l.length) (hi:∀a∈l,a.xq=true) (ho:∀(i:Nat)v,cs[i]?=some v->v.oneCell'=true) (h:∀(i:Nat)v a,cs[i]?=some v->l[i]?=some a->aS G ae w v a):aS G ae w (.agg cs) (.D8 l)
 |own {t ver n:Nat} {aj:List (List PV)} {A:Option Addr} {len cap:Nat} (ht:t<ae.length) (hle:∀(m:Nat),ae[t]?=some (some m)->ver<=m)
   (h:cm G.bX w (.slice A len cap) (.sl n aj)) (hr:ae[t]?=some (some ver)->Room G (.tok t) w A len cap n):aS G ae w (.slice A len cap) (.own t ver n aj)
 |az {b off Ej:Nat} (he:G.bD b) (h:G.val b = .pointer (some ⟨Ej,0,Option.none⟩)):aS G ae w (.pointer (some ⟨Ej,off,Option.none⟩)) (.az b off)
 |jr {b base n len j Ej:Nat} {i:Int} (he:G.bD b) (hi:0<=i/\i<len) (h:G.val b = .pointer (some ⟨Ej,0,Option.none⟩)):aS G ae w (.pointer (some ⟨Ej,base+i.toNat*n+j,Option.none⟩)) (.jr b base n len i j)
 |gg {b n j Ej off len cap:Nat} {i:Int} (he:G.bD b) (hi:0<=i/\i.toNat<len) (h:G.val b = .slice (some ⟨Ej,off,Option.none⟩) len cap):aS G ae w (.pointer (some ⟨Ej,off+i.toNat*n+j,Option.none⟩)) (.gg b n i j)
 |kX {cs:List PV} {b off:Nat} (u:Nat->Value) (hc:∀(j:Nat)p,cs[j]?=some p->w.cell? ⟨b,off+j,Option.none⟩=some (u j)/\off+j<G.bX b)
   (hp:∀(j:Nat)p,cs[j]?=some p->cm G.bX w (u j) p):aS G ae w (.pointer (some ⟨b,off,Option.none⟩)) (.kX cs)
 |bA {b:Nat} (he:G.bD b) (ho:(G.val b).oneCell'=true):aS G ae w (G.val b) (.bA b)
 |mp {b:Nat} (he:G.bD b) (ho:(G.val b).oneCell'=true):aS G ae w (G.val b) (.mp b)
 |fn {f:Fn} {fi ca:Array Value} {first cap:List AV} (h1:fi.size=first.length) (h2:ca.size=cap.length)
   (h3:∀(i:Nat)v a,fi[i]?=some v->first[i]?=some a->aS G ae w v a) (h4:∀(i:Nat)v a,ca[i]?=some v->cap[i]?=some a->aS G ae w v a):aS G ae w (.func f fi ca) (.fn f first cap)
 |xZ {vs:Array Value} {l:List AV} (h1:vs.size=l.length) (h2:∀(i:Nat)v a,vs[i]?=some v->l[i]?=some a->aS G ae w v a):aS G ae w (.tuple vs) (.xZ l)
 |qN:aS G ae w .nilIface (.xp Option.none)
 |B9 {t:TypeId} {cs:Array Value} {ps:List PV} (hs:cs.size=ps.length) (h:∀(i:Nat)v p,cs[i]?=some v->ps[i]?=some p->cm G.bX w v p):aS G ae w (.iface t (.agg cs)) (.xp (some (t,ps)))
 |opt {c:Bool} {j:Nat} {g:Bool} {a:AV} {v:Value} (h:c=true->aS G ae w v a) (hu:c=false->v=undef):aS G ae w v (.opt c j g a)
structure Grow (bX:Nat->Nat) (w:World) (hK:Nat->Nat) (w':World):Prop where
 le:∀b,bX b<=hK b
 cell:∀b o,o<bX b->w'.cell? ⟨b,o,none⟩=w.cell? ⟨b,o,none⟩
def Grow.refl(a:Nat->Nat)(w:World):Grow a w a w:=⟨fun _=>ar _,fun _ _ _=>rfl⟩
def Grow.trans(h:Grow c f d g)(k:Grow d g e i):Grow c f e i:=
 ⟨fun b=>dX (h.le b) (k.le b),fun b o a=>(k.cell b o (gL a (h.le b))).trans (h.cell b o a)⟩
def cm.grow(g:Grow f w hK w')(h:cm f w v p):cm hK w' v p:=by
 induction h with
 |bool b=>exact .bool b
 |int k n=>exact .int k n
 |str s=>exact .str s
 |nP k d c=>exact .nP k d c
 |Gr k d c=>exact .Gr k d c
 |Wb k b=>exact .Wb k b
 |nil=>exact .nil
 |m3 n=>exact .m3 n
 |Jo a n=>exact .Jo a n
 |sl b off len cap n aj u o m t y z x=>
  refine .sl b off len cap n aj u o m t (fun i j p q=>?_) x
  obtain⟨l,e⟩:=y i j p q;exact⟨(g.cell _ _ e).trans l,gL e (g.le b)⟩
structure cq (G:Gh) (ae:List (Option Nat)) (w:World) (G':Gh) (bz:List (Option Nat)) (w':World):Prop where
 grow:Grow G.bX w G'.bX w'
 bD:∀b,G.bD b->G'.bD b
 val:∀b,G.bD b->G'.val b=G.val b
 len:ae.length<=bz.length
 tok:∀(t:Nat)n,bz[t]?=some (some n)->t<ae.length->∃m,ae[t]?=some (some m)/\(m<n\/(m=n/\∀b,G.h (.tok t)=some b->G'.h (.tok t)=some b/\G'.bX b=G.bX b/\w'.heap[b]?=w.heap[b]?))
def cq.refl(G:Gh)(ae:List (Option Nat))(w:World):cq G ae w G ae w:=
 ⟨Grow.refl _ _,fun _ h=>h,fun _ _=>rfl,ar _,fun _ n h _=>⟨n,h,.inr ⟨rfl,fun _ a=>⟨a,rfl,rfl⟩⟩⟩⟩
def cq.trans(h:cq e o q f t2 s)(k:cq f t2 s g p u):cq e o q g p u:=by
 refine⟨h.grow.trans k.grow,fun b d=>k.bD _ (h.bD _ d),fun b i=>(k.val b (h.bD b i)).trans (h.val b i),dX h.len k.len,fun t n r j=>?_⟩
 obtain⟨m,z,c⟩:=k.tok t n r (gL j h.len);obtain⟨l,y,a⟩:=h.tok t m z j;refine⟨l,y,?_⟩;rcases c with c|⟨rfl,c⟩
 .rcases a with a|⟨rfl,_⟩
  .exact .inl (by omega)
  .exact .inl c
 .rcases a with a|⟨rfl,a⟩
  .exact .inl a
  .refine .inr ⟨rfl,fun b d=>?_⟩
   obtain⟨v,w,x⟩:=a b d;obtain⟨D,E,G⟩:=c b v;exact⟨D,E.trans w,G.trans x⟩
def Room.bF(h:Room G x w A len cap n)(k:∀b,G.h x=some b->a.h y=some b/\a.bX b=G.bX b/\w'.heap[b]?=w.heap[b]?):Room a y w' A len cap n:=by
 intro m;obtain⟨b,off,X,elem,c,d,e,f,g⟩:=h m;obtain⟨i,j,l⟩:=k b d;exact⟨b,off,X,elem,c,i,j.trans e,l.trans f,g⟩
def aS.bF(k:cq G ae w z bz w'){v:Value}(h:aS G ae w v a):aS z bz w' v a:=by
 induction h with
 |none v=>exact .none v
 |v h=>exact .v (h.grow k.grow)
 |agg l h=>exact .agg l fun i v p c d=>(h i v p c d).grow k.grow
 |D8 l g e h o=>exact .D8 l g e o
 |@own t Y n aj A len cap x r h I=>
  refine .own (gL x k.len) (fun m E=>?_) (h.grow k.grow) fun K=>?_
  .obtain⟨y,q,f⟩:=k.tok t m E x
   have:=r y q;rcases f with f|⟨rfl,_⟩<;>omega
  .obtain⟨y,q,f⟩:=k.tok t _ K x
   have Z:=r y q;rcases f with f|⟨rfl,f⟩
   .omega
   .exact(I q).bF f
 |az b h=>exact .az (k.bD _ b) ((k.val _ b).trans h)
 |jr b g h=>exact .jr (k.bD _ b) g ((k.val _ b).trans h)
 |gg b g h=>exact .gg (k.bD _ b) g ((k.val _ b).trans h)
 |kX u D H=>
  refine .kX u (fun j p s=>?_) fun j p s=>(H j p s).grow k.grow
  obtain⟨c,d⟩:=D j p s;exact⟨(k.grow.cell _ _ d).trans c,gL d (k.grow.le _)⟩
 |bA b e=>rw[<-k.val _ b]at e⊢; exact .bA (k.bD _ b) e
 |mp b e=>rw[<-k.val _ b]at e⊢; exact .mp (k.bD _ b) e
 |fn c d T X M Q=>exact .fn c d M Q
 |xZ c d o=>exact .xZ c o
 |qN=>exact .qN
 |B9 l h=>exact .B9 l fun i v p c d=>(h i v p c d).grow k.grow
 |opt h J o=>exact .opt o J
def cm.gm(h:cm a w v p):v.oneCell'=true:=by cases h<;>rfl
def ow{v:Value}(h:v.oneCell'=true):v.cells = #[v]:=by cases v<;>first|rfl|simp[Value.oneCell']at h
def cm.cells(h:cm a w v p):v.cells = #[v]:=ow h.gm
def cm.norm(c:CT)(h:cm a w v p):cm a w v (c.norm p):=by
 unfold CT.norm;split
 .cases h;exact .m3 _
 .exact h
def aS.pv{v:Value}(h:aS G ae w v a)(b:a.pv=some p):cm G.bX w v p:=by
 cases h with
 |v h=>simp[AV.pv]at b;exact b▸h
 |own d e h c=>simp[AV.pv]at b;exact b▸h
 |_=>simp[AV.pv]at b
def eO(G:Gh)(w:World)(x:Hd)(v:Value)(a:AV):Prop:=
 v.oneCell'=true/\match a with
 |.ke n aj=>∃A len cap,v = .slice A len cap/\cm G.bX w v (.sl n aj)/\Room G x w A len cap n
 |a=>aS G [] w v a
def oS(G:Gh)(w:World)(x:Hd)(v:Value)(a:AV):Prop:=
 match a with
 |.agg ps=>aS G [] w v (.agg ps)
 |a=>eO G w x v a
def x0(a:Array MapEntry)(clock n:Nat):Prop:=a.size=n/\(∀x∈a.toList,x.born<clock)/\(a.toList.map (·.born)).Nodup
def gH(P:Program)(G:Gh)(w:World)(b:Nat):Bx->Prop
 |.cells cs=>∃c X elem,G.bD b/\G.h (.box b)=some c/\G.val b = .pointer (some ⟨c,0,none⟩)/\w.heap[c]?=some (.cells X elem (0,0))/\X.size=cs.length/\G.bX c=0/\∀(j:Nat)v a,X[j]?=some v->cs[j]?=some a->eO G w (.cell b j) v a
 |.bn n aj=>G.bD b/\(∀r∈aj,r.length=n)/\
   ((∃c X elem cap,G.h (.box b)=some c/\G.val b = .slice (some ⟨c,0,none⟩) aj.length cap/\aj.length<=cap/\w.heap[c]?=some (.cells X elem (0,0))/\cap*n<=X.size/\G.bX c=0 /\
    ∀(i j:Nat)v p,X[i*n+j]?=some v->kf aj i j=some p->cm G.bX w v p) \/
    (aj=[]/\∃A,G.val b = .slice A 0 0))
 |.uK n aj=>G.bD b/\cm G.bX w (G.val b) (.sl n aj)
 |.map t d=>∃c f clock,G.bD b/\G.h (.box b)=some c/\G.val b = .map (some c)/\w.heap[c]?=some (.map f clock)/\x0 f clock d.length /\
   (∀e∈d,e.2.JB=true/\∃g l,P.underlying t=some (.map g l)/\kT P g e.1=true)/\
   (d.map (·.1)).Pairwise (fun k m=>l9 k m=false)/\
   ∀(i:Nat)e x,f[i]?=some e->d[i]?=some x->cm G.bX w e.key x.1/\oS G w (.ov b x.1) e.val x.2
 |.dead=>G.bD b
 |.free=>¬G.bD b
def JC(i:Nat):Int:=if i=9\/i=10\/i=11\/i=12\/i=13\/i=32 then 1 else 0
structure Laid (bX:Nat->Nat) (w:World):Prop where
 tab:∀i,i<256->w.cell? ⟨1,i,none⟩=some (.int .u8 (JC i))/\i<bX 1
 num:∃m,w.cell? ⟨0,0,none⟩=some (.int .i64 m)/\0<bX 0
def Laid.grow(h:Laid c w)(g:Grow c w hK w'):Laid hK w':=
 ⟨fun i a=>⟨(g.cell _ _ (h.tab i a).2).trans (h.tab i a).1,gL (h.tab i a).2 (g.le 1)⟩,h.num.elim fun m b=>⟨m,(g.cell _ _ b.2).trans b.1,gL b.2 (g.le 0)⟩⟩
structure m4 (w0:World) (aR:Nat->Nat) (O:Nat->Prop) (w:World) (bX:Nat->Nat):Prop where
 size:w0.heap.size<=w.heap.size
 os:w.os=w0.os
 tape:w.tape=w0.tape
 output:w.output=w0.output
 Ej:∀b,b<w0.heap.size->¬O b->w.heap[b]?=w0.heap[b]?/\bX b=aR b
 grow:Grow aR w0 bX w
 xr:∀b,w.heap.size<=b->bX b=0
 laid:Laid aR w0
def m4.refl(w:World)(a:Nat->Nat)(O:Nat->Prop)(h:∀b,w.heap.size<=b->a b=0)(c:Laid a w):m4 w a O w a:=
 ⟨ar _,rfl,rfl,rfl,fun _ _ _=>⟨rfl,rfl⟩,Grow.refl _ _,h,c⟩
def m4.Ca(h:m4 b c O w a):Laid a w:=h.laid.grow h.grow
structure Inv (P:Program) (w0:World) (aR:Nat->Nat) (O:Nat->Prop) (G:Gh) (heap:List Bx) (w:World):Prop where
 frame:m4 w0 aR O w G.bX
 nb:∀b,G.bD b->b<heap.length
 box:∀(b:Nat)bx,heap[b]?=some bx->gH P G w b bx
 inj:∀x y n,G.h x=some n->G.h y=some n->x=y
 nO:∀x n,G.h x=some n->n<w.heap.size/\(n<w0.heap.size->O n)
 dead:∀b n,heap[b]?=some .free->G.h (.box b)≠some n
section
variable {P:Program} {G:Gh} {ae:List (Option Nat)} {w:World}
def dQ(h:cw P t=some n)(w:World):(sizeOf t).run P w = .ok n w:=by
 unfold cw at h;cases hi:P.info? t with
 |none=>rw[hi]at h;simp at h
 |some i=>
  rw[hi]at h;simp at h;simp[sizeOf,typeInfo,hi,h]
def pF(h:du P t=some b)(w:World):(isAgg t).run P w = .ok b w:=by
 unfold du at h;cases hd:P.underlying t with
 |none=>rw[hd]at h;simp at h
 |some d=>
  rw[hd]at h;cases d<;>simp at h<;>subst h<;>simp[isAgg,run_underlying hd]
def Plain(P:Program)(G:Gh)(ae:List (Option Nat))(w:World)(x:Sem Next)(a:AV):Prop:=
 ∃v w',x.run P w = .ok (.value v) w'/\(w'=w\/w'=w.drew)/\aS G ae w' v a
def Plain.pure(c:x.run P w = .ok (.value v) w)(b:aS G ae w v a):Plain P G ae w x a:=⟨v,w,c,.inl rfl,b⟩
def aS.nV{v:Value}(h:aS G ae w v (.v (.bool b))):v = .bool b:=by cases h with|v h=>cases h;rfl
def aS.gM{v:Value}(h:aS G ae w v (.v (.int k n))):v = .int k n:=by cases h with|v h=>cases h;rfl
def aS.yV{v:Value}(h:aS G ae w v (.v (.str s))):∃b:ByteArray,v = .string b/\b.data.toList=s:=by cases h with|v h=>cases h;exact⟨_,rfl,rfl⟩
def aS.Ek{v:Value}(h:aS G ae w v (.v (.D7 k))):∃b,v = .float k b:=by cases h with|v h=>cases h;exact⟨_,rfl⟩
def aS.LN{v:Value}(h:aS G ae w v (.v (.nP k o))):∃b a,v = .complex k b a:=by
 cases h with|v h=>cases h<;>exact⟨_,_,rfl⟩
def aS.ma(b:Bool):aS G ae w (.bool b) (.v (.bool b)):=.v (.bool b)
def aS.mkInt(k:IntKind)(n:Int):aS G ae w (.int k n) (.v (.int k n)):=.v (.int k n)
def aS.mkStr(s:ByteArray)(l:List UInt8)(h:s.data.toList=l):aS G ae w (.string s) (.v (.str l)):=.v (h ▸ .str s)
def q8(G:Gh)(ae:List (Option Nat))(w:World)(e:Operand->Value)(ρ:Operand->AV)(o:Op):Prop:=
 match o with
 |.pick c a b=>aS G ae w (e c) (ρ c)/\∀B,ρ c = .v (.bool B)->(B=true->aS G ae w (e a) (ρ a))/\(B=false->aS G ae w (e b) (ρ b))
 |o=>∀x∈o.operands.toList,aS G ae w (e x) (ρ x)
def bK(w:World)(h:x.run P w = .ok v w'):(do pure (.value (<-x)):Sem Next).run P w = .ok (.value v) w':=by
 simp[h]
def nW(b off n:Nat):(⟨b,off,none⟩:Addr).add n=⟨b,off+n,none⟩:=by
 unfold Addr.add;split
 .subst_vars;rfl
 .rfl
def x3(h:cw P f.type=some (n+1))(w:World):(fieldPlace ⟨b,off,none⟩ f).run P w = .ok ⟨b,off+f.offset,none⟩ w:=by
 simp[fieldPlace,dQ h,nW]
def Gs{s f:Nat}(e:P.underlying s=some (.struct fields))(c:fields[f]?=some a)(d:cw P a.type=some (m+1))(b off:Nat):
  (do pure (.value (<-Instr.fieldAt s (.pointer (some ⟨b,off,none⟩)) f)):Sem Next).run P w = .ok (.value (.pointer (some ⟨b,off+a.offset,none⟩))) w:=by
 simp[Instr.fieldAt,run_underlying e,c,Instr.sureAddr,x3 d]
def BS{e:Operand->Value}{s f:Nat}(t:aS G ae w (e x) (ρ x))(h:plain P (.fieldAddr s x f) an k ρ=some (a,l)):Plain P G ae w (do pure (.value (<-Instr.fieldAt s (e x) f))) a:=by
 simp only[plain]at h;split at h<;>try(simp at h;done)
 rename_i fields E;split at h<;>try(simp at h;done)
 rename_i i y;split at h<;>try(simp at h;done)
 rename_i n z D;have H:∃m,n=m+1:=by
  cases n with
  |zero=>exact(z rfl).elim
  |succ m=>exact⟨m,rfl⟩
 obtain⟨m,rfl⟩:=H;have run:=fun b off=>Gs (w:=w) E y D b off
 generalize ρ x=A at t h;generalize e x=V at t⊢;cases t with
 |az d c=>simp at h;obtain⟨rfl,rfl⟩:=h;exact .pure (run _ _) (.az d c)
 |jr d q c=>simp at h;obtain⟨rfl,rfl⟩:=h;refine .pure (run _ _) ?_;rw[gU];exact .jr d q c
 |gg d q c=>simp at h;obtain⟨rfl,rfl⟩:=h;refine .pure (run _ _) ?_;rw[gU];exact .gg d q c
 |kX u v r=>
  simp at h;obtain⟨rfl,rfl⟩:=h;refine .pure (run _ _) (.kX (fun j=>u (i.offset+j)) (fun j p g=>?_) fun j p g=>?_)
  .rw[il]at g
   have:=v _ _ g;rwa [show∀o,o+i.offset+j=o+(i.offset+j)from fun o=>gU _ _ _]
  .rw[il]at g
   exact r _ _ g
 |_=>simp at h
def El(g:aS G ae w (e x) (ρ x))(n:o.op = .nilCheck x)(h:plain P (.nilCheck x) an k ρ=some (a,l)):Plain P G ae w (execOp e o) a:=by
 simp only[plain]at h;have run:∀b off,e x = .pointer (some ⟨b,off,none⟩)->(execOp e o).run P w = .ok (.value (e x)) w:=by
  intro b off i;simp[execOp,n,i]
 generalize ρ x=A at g h;generalize i:e x=V at g run;cases g with
 |az d c=>simp at h;obtain⟨rfl,rfl⟩:=h;exact .pure (run _ _ rfl) (.az d c)
 |jr d f c=>simp at h;obtain⟨rfl,rfl⟩:=h;exact .pure (run _ _ rfl) (.jr d f c)
 |gg d f c=>simp at h;obtain⟨rfl,rfl⟩:=h;exact .pure (run _ _ rfl) (.gg d f c)
 |kX u j m=>simp at h;obtain⟨rfl,rfl⟩:=h;exact .pure (run _ _ rfl) (.kX u j m)
 |_=>simp at h
def mb{t a n len:Nat}{i:Int}(d:P.underlying t=some (.array len a))(c:cw P a=some n)(h:0<=i/\i<len)(w:World):
  (Instr.indexAt t (.pointer (some ⟨b,off,none⟩)) (.int k i)).run P w = .ok (.pointer (some ⟨b,off+i.toNat*n,none⟩)) w:=by
 simp[Instr.indexAt,asIntOf,run_underlying d,Instr.sureAddr,h,dQ c,nW]
def m5{t a n len cap:Nat}{i:Int}(d:P.underlying t=some (.slice a))(c:cw P a=some n)(h:0<=i/\i<len)(w:World):
  (Instr.indexAt t (.slice (some ⟨b,off,none⟩) len cap) (.int k i)).run P w = .ok (.pointer (some ⟨b,off+i.toNat*n,none⟩)) w:=by
 simp[Instr.indexAt,asIntOf,run_underlying d,Instr.sureAddr,h,dQ c,nW]
def aS.aj{v:Value}{aj:List (List PV)}(h:aS G ae w v a)(b:a.uL n=some aj):cm G.bX w v (.sl n aj):=by
 cases h with
 |v h=>
  rename_i p;cases p<;>simp only[AV.uL]at b<;>try(simp at b;done)
  .split at b<;>try(simp at b;done)
   rename_i c;subst c;obtain rfl:=ax b;exact h
  .obtain rfl:=ax b
   cases h;exact .m3 n
 |own d e h f=>
  simp only[AV.uL]at b;split at b<;>try(simp at b;done)
  rename_i c;subst c;obtain rfl:=ax b;exact h
 |_=>simp[AV.uL]at b
def JD(h:aj[i]?=some r)(a:r[j]?=some p):kf aj i j=some p:=by simp[kf,h,a]
def Uj{t e n:Nat}(g:cm G.bX w V (.sl n aj))(o:P.underlying t=some (.slice e))(m:cw P e=some n)(f:0<=i)(c:aj[i.toNat]?=some r):
  Plain P G ae w (do pure (.value (<-Instr.indexAt t V (.int k i)))) (.kX r):=by
 cases g with
 |m3=>simp at c
 |Jo a=>simp at c
 |sl b off len cap n aj u v s y q l=>
  have x:=(aE.1 c).1;exact .pure (bK _ (m5 o m ⟨f,by omega⟩ _)) (.kX (fun j=>u i.toNat j) (fun j p d=>q _ _ _ (JD c d)) fun j p d=>l _ _ _ (JD c d))
def BT{e:Operand->Value}{t:Nat}(g:aS G ae w (e x) (ρ x))(z:aS G ae w (e v) (ρ v))(h:plain P (.indexAddr t x v) an k ρ=some (a,l))(m:∀q∈l,q):Plain P G ae w (do pure (.value (<-Instr.indexAt t (e x) (e v)))) a:=by
 simp only[plain]at h;split at h<;>try(simp at h;done)
 rename_i kk i K;rw[K]at z;rw[z.gM];generalize ρ x=A at g h;generalize e x=V at g⊢;split at h
 .rename_i len y b off f
  split at h<;>try(simp at h;done)
  rename_i n d;simp only[ay,aA]at h;obtain⟨rfl,rfl⟩:=h;have s:=m _ (cP.2 rfl);cases g with
  |az J E=>exact .pure (bK _ (mb f d s _)) (.jr (j:=0) J s E)
 .rename_i len y cs f
  split at h<;>try(simp at h;done)
  rename_i n d;simp only[ay,aA]at h;obtain⟨rfl,rfl⟩:=h;have s:=m _ (cP.2 rfl);cases g with
  |kX u H I=>
   refine .pure (bK _ (mb f d s _)) (.kX (fun j=>u (i.toNat*n+j)) (fun j p c=>?_) fun j p c=>?_)
   .rw[il]at c
    have:=H _ _ c;rwa [show∀o,o+i.toNat*n+j=o+(i.toNat*n+j)from fun o=>gU _ _ _]
   .rw[il]at c
    exact I _ _ c
 .rename_i y Q f
  split at h<;>try(simp at h;done)
  rename_i n d;split at h<;>try(simp at h;done)
  rename_i aj M;have D:=g.aj M;split at h<;>try(simp at h;done)
  rename_i r;split at h<;>try(simp at h;done)
  simp only[ay,aA]at h;obtain⟨rfl,rfl⟩:=h;exact Uj D f d (m _ (by simp)) (m _ (by simp))
 .simp at h
def mc{t n b off:Nat}(a:du P t=some true)(e:cw P t=some n)(h:∀j,j<n->w.cell? ⟨b,off+j,none⟩=some (u j)):
  (loadVar t ⟨b,off,none⟩).run P w = .ok (.agg ((List.range n).map u).toArray) w:=by
 have c:=run_loadCells (P:=P) w ⟨b,off,none⟩ n u (fun j d=>by rw[nW];exact h j d)
 simp[loadVar,pF a,dQ e,c]
def hL{t b off:Nat}(a:du P t=some false)(h:w.cell? ⟨b,off,none⟩=some v):(loadVar t ⟨b,off,none⟩).run P w = .ok v w:=by
 simp[loadVar,pF a,h]
def range_map_get{u:Nat->Value}(h:i<n):(((List.range n).map u).toArray)[i]?=some (u i):=by
 simp[h]
def aS.PL(d:ps.length=n)(h:∀i p,ps[i]?=some p->cm G.bX w (u i) p):aS G ae w (.agg ((List.range n).map u).toArray) (.agg ps):=by
 refine .agg (by simp[d]) fun i v p a b=>?_
 have c:i<n:=by have:=(aE.1 b).1;omega
 rw[range_map_get c]at a;obtain rfl:=ax a;exact h i p b
def jJ{t:Nat}(h:(loadVar t a).run P w = .ok v w):(do pure (.value (<-Instr.loadAt t (.pointer (some a)))):Sem Next).run P w = .ok (.value v) w:=
 bK _ (by simp only[Instr.loadAt,Instr.sureAddr,Sem.run_bind,Sem.run_pure,Result.andThen_ok];exact h)
def NT{e:Operand->Value}{t:Nat}(f:aS G ae w (e x) (ρ x))(h:plain P (.load t x) an k ρ=some (a,l)):Plain P G ae w (do pure (.value (<-Instr.loadAt t (e x)))) a:=by
 simp only[plain]at h;generalize ρ x=A at f h;generalize e x=V at f⊢;cases f with
 |@kX cs b off u m q=>
  simp only at h;split at h
  .rename_i n d s
   split at h<;>try(simp at h;done)
   rename_i v;simp only[ay,aA]at h;obtain⟨rfl,rfl⟩:=h;have z:∀j,j<n->∃p,cs[j]?=some p:=fun j o=>⟨_,bo (by omega)⟩
   have g:(loadVar t ⟨b,off,none⟩).run P w = .ok (.agg ((List.range n).map u).toArray) w:=mc d s (u:=u) fun j o=>by
    obtain⟨p,c⟩:=z j o;exact(m j p c).1
   refine .pure (jJ g) (.PL (by simp[v]) fun i p c=>?_)
   have y:i<n:=by have:=(aE.1 c).1;simp at this;omega
   rw[ff,aG y]at c;exact q i p c
  .rename_i d s
   split at h<;>try(simp at h;done)
   simp only[ay,aA]at h;obtain⟨rfl,rfl⟩:=h;have g:(loadVar t ⟨b,off,none⟩).run P w = .ok (u 0) w:=hL d (m 0 _ rfl).1;exact .pure (jJ g) (.v (q 0 _ rfl))
  .simp at h
 |_=>simp at h
def uR{t n off:Nat}(a:du P t=some true)(b:cw P t=some n)(w:World):(part t cs off).run P w = .ok (.agg (cs.extract off (off+n))) w:=by
 simp[part,pF a,dQ b]
def pG{t off:Nat}(a:du P t=some false)(h:cs[off]?=some v)(w:World):(part t cs off).run P w = .ok v w:=by
 simp[part,pF a,h]
def PM{t off:Nat}(m:cs.size=ps.length)(f:∀(i:Nat)v p,cs[i]?=some v->ps[i]?=some p->cm G.bX w v p)(h:plain.part P ps t off=some (a,l)):∃v,(part t cs off).run P w = .ok v w/\aS G ae w v a:=by
 unfold plain.part at h;split at h
 .rename_i n d g
  split at h<;>try(simp at h;done)
  rename_i k;simp at h;obtain⟨rfl,rfl⟩:=h;refine⟨_,uR d g w,.agg (by simp;omega) fun i v p c b=>?_⟩
  rw[D1]at c;split at c<;>try(simp at c;done)
  rw[ff]at b;split at b<;>try(simp at b;done)
  rw[il]at b;exact f _ _ _ c b
 .rename_i d g
  simp at h;obtain⟨p,e,rfl,rfl⟩:=h;have j:off<cs.size:=by have:=(aE.1 e).1;omega
  exact⟨_,pG d (cX j) w,.v (f _ _ _ (cX j) e)⟩
 .simp at h
def NU{e:Operand->Value}{t f:Nat}(b:aS G ae w (e x) (ρ x))(h:plain P (.field t x f) an k ρ=some (a,l)):Plain P G ae w (do pure (.value (<-Instr.field t (e x) f))) a:=by
 simp only[plain]at h;generalize ρ x=A at b h;generalize e x=V at b⊢;split at h<;>try(simp at h;done)
 rename_i fields ps g;split at h<;>try(simp at h;done)
 rename_i n c;cases b with
 |agg j d=>
  obtain⟨v,i,m⟩:=PM (P:=P) (ae:=ae) j d h;exact .pure (bK _ (by simp[Instr.field,run_underlying g,c,asAgg,i])) m
def NV{e:Operand->Value}{t:Nat}(d:aS G ae w (e x) (ρ x))(j:aS G ae w (e g) (ρ g))(h:plain P (.index t x g) an k ρ=some (a,l))(m:∀q∈l,q):Plain P G ae w (do pure (.value (<-Instr.index t (e x) (e g)))) a:=by
 simp only[plain]at h;split at h<;>try(simp at h;done)
 .rename_i kk i len K ps v n o
  rw[v]at j;rw[j.gM];rw[o]at d;generalize e x=V at d⊢;split at h<;>try(simp at h;done)
  rename_i p D f;simp only[ay,aA]at h;obtain⟨rfl,rfl⟩:=h;have H:=m _ (aW ..);have z:ps[i.toNat]?=some p:=m _ (aV _ (aW ..));cases d with
  |agg u J=>
   have c:=(aE.1 z).1;rw[<-u]at c;have y:=cX c;exact .pure (bK _ (by simp[Instr.index,asIntOf,run_underlying n,H,dQ f,pG D y])) (.v (J _ _ _ y z))
 .rename_i kk i s v n o
  rw[v]at j;rw[j.gM];rw[o]at d;obtain⟨b,E,f⟩:=d.yV;rw[E];simp only[ay,aA]at h;obtain⟨rfl,rfl⟩:=h;obtain⟨r,M⟩:=m _ (cP.2 rfl);have c:i.toNat<b.data.toList.length:=by rw[f];omega
  have u:i.toNat<b.size:=by rw[mA]at c;exact c
  have I:s.getD i.toNat 0=b[i.toNat]:=by
   rw[bR,<-f,bo c];simp;rfl
  rw[I];refine .pure (bK _ ?_) (.mkInt .u8 b[i.toNat].toNat);simp[Instr.index,asIntOf,run_underlying n,r,u]
def Gt{e:Operand->Value}(b:aS G ae w (e x) (ρ x))(h:plain P (.extract x i) an k ρ=some (a,l)):Plain P G ae w (do pure (.value (<-Instr.extract (e x) i))) a:=by
 simp only[plain]at h;generalize ρ x=A at b h;generalize e x=V at b⊢;cases b with
 |@xZ g m j f=>
  simp at h;obtain⟨_,c,rfl,rfl⟩:=h;have d:i<g.size:=by have:=(aE.1 c).1;omega
  exact .pure (bK _ (by simp[Instr.extract,cX d])) (f _ _ _ (cX d) c)
 |_=>simp at h
def Em{first cap:Array Operand}(j:∀x∈first.toList,aS G ae w (e x) (ρ x))(k:∀x∈cap.toList,aS G ae w (e x) (ρ x)):
  Plain P G ae w (do pure (.value (<-Instr.makeFunc f (first.map e) (cap.map e)))) (.fn f (first.toList.map ρ) (cap.toList.map ρ)):=by
 refine .pure (v:=.func f (first.map e) (cap.map e)) (bK _ (by simp[Instr.makeFunc])) (.fn (by simp) (by simp) (fun i v a c b=>?_) fun i v a c b=>?_)
 .simp[DQ]at c b
  obtain⟨x,d,rfl⟩:=c;obtain⟨y,g,rfl⟩:=b;rw[d]at g;obtain rfl:=ax g;exact j _ (Array.mem_toList_iff.2 (DZ d))
 .simp[DQ]at c b
  obtain⟨x,d,rfl⟩:=c;obtain⟨y,g,rfl⟩:=b;rw[d]at g;obtain rfl:=ax g;exact k _ (Array.mem_toList_iff.2 (DZ d))
def PN{e:Operand->Value}{ρ:Operand->AV}(d:aS G ae w (e c) (ρ c))(f:ρ c = .v (.bool B))(g:aS G ae w (if B then e a else e b) r):Plain P G ae w (do pure (.value (if<-asBool (e c)then e a else e b))) r:=by
 rw[f]at d;refine .pure ?_ g;rw[d.nV];simp[asBool]
def PO(h:PD op a b=some B)(w:World):(binOp op t (.int k a) (.int k b)).run P w = .ok (.bool B) w:=by
 cases op<;>simp[PD]at h<;>subst h<;>simp[binOp,Op.intCmp]
def oT(h:Gp op k a b=some n)(w:World):(Op.intBits op k a b).run P w = .ok (.int k n) w:=by
 cases op<;>simp[Gp]at h<;>subst h<;>simp[Op.intBits]
def ra(h:Wc k n):k.wrap n=n:=by
 unfold Wc at h;obtain⟨a,b⟩:=h;cases k<;>simp[IntKind.min,IntKind.max,IntKind.signed,IntKind.bits]at a b<;>simp[IntKind.wrap,IntKind.signed,IntKind.bits]<;>omega
def JE(g:PD op a b=none)(h:wa op k a b f=some (n,l))(d:∀q∈l,q)(i:op≠.shl)(j:op≠.shr)(w:World):
  (binOp op t (.int k a) (.int k b)).run P w = .ok (.int k n) w:=by
 have put:∀m:Int,(match f || !k.signed with|true=>some (k.wrap m,[])|false=>some (m,[Wc k m]))=some (n,l)->k.wrap m=n:=by
  intro m c;cases hn:f || !k.signed with
  |false=>
   rw[hn]at c;simp at c;obtain⟨rfl,rfl⟩:=c;exact ra (d _ (by simp))
  |true=>
   rw[hn]at c;simp at c;exact c.1
 cases op<;>simp only[wa]at h
 case add=>have:=put _ h;simp[binOp,Op.intArith,this]
 case sub=>have:=put _ h;simp[binOp,Op.intArith,this]
 case mul=>have:=put _ h;simp[binOp,Op.intArith,this]
 case quo=>simp at h;obtain⟨rfl,rfl⟩:=h;have e:b≠0:=d _ (by simp);simp[binOp,Op.intDiv,e]
 case rem=>simp at h;obtain⟨rfl,rfl⟩:=h;have e:b≠0:=d _ (by simp);simp[binOp,Op.intDiv,e]
 case shl=>exact absurd rfl i
 case shr=>exact absurd rfl j
 case and=>simp at h;obtain⟨m,c,rfl,rfl⟩:=h;have:=oT (P:=P) c w;simp[binOp,this]
 case or=>simp at h;obtain⟨m,c,rfl,rfl⟩:=h;have:=oT (P:=P) c w;simp[binOp,this]
 case xor=>simp at h;obtain⟨m,c,rfl,rfl⟩:=h;have:=oT (P:=P) c w;simp[binOp,this]
 case andNot=>simp at h;obtain⟨m,c,rfl,rfl⟩:=h;have:=oT (P:=P) c w;simp[binOp,this]
 all_goals simp[PD]at g
def Cb(g:op = .shl\/op = .shr)(h:wa op k a b f=some (n,l))(c:∀q∈l,q)(w:World):
  (binOp op t (.int k a) (.int e b)).run P w = .ok (.int k n) w:=by
 rcases g with rfl|rfl<;>simp only[wa,ay,aA]at h<;>obtain⟨rfl,rfl⟩:=h<;>have d:0<=b:=c _ (by simp)<;>simp[binOp,Op.shift,Int.not_lt.2 d]
def PQ(h:XS op a.data.toList b.data.toList=some B)(w:World):(binOp op t (.string a) (.string b)).run P w = .ok (.bool B) w:=by
 rw[<-ByteArray.toList_eq,<-ByteArray.toList_eq]at h;cases op<;>simp only[XS]at h<;>first|(simp at h;done)|(simp only[ay]at h;subst h;simp[binOp,Op.stringOp])
def PR(h:a.data.toList.length+b.data.toList.length<=9223372036854775807)(w:World):(binOp .add t (.string a) (.string b)).run P w = .ok (.string (a++b)) w:=by
 have d:a.size+b.size<=9223372036854775807:=by simpa using h
 have c:¬((a.size+b.size:Nat):Int)>IntKind.i64.max:=by simp[IntKind.max,IntKind.signed,IntKind.bits];omega
 simp only[binOp,Op.stringOp];rw[aN c];rfl
def PS(w:World):∃c w',(binOp .add t (.float k a) (.float k b)).run P w = .ok (.float k c) w'/\(w'=w\/w'=w.drew):=by
 simp only[binOp,Op.floatArith,ne_eq,not_true_eq_false,if_false];cases hr:k.format.add a b with
 |some r=>exact⟨r,w,by simp[hr],.inl rfl⟩
 |none=>
  by_cases d:(Question.nanBits k a b).forced=true
  .exact⟨0,w,by simp[hr,d],.inl rfl⟩
  .exact⟨_,w.drew,by simp[hr,d];rfl,.inr rfl⟩
def jB(w:World):(eqGuard op t x y (.int k a) (.int c b)).run P w = .ok () w:=by cases op<;>simp[eqGuard]
def qA(w:World):(eqGuard op t x y (.string a) (.string b)).run P w = .ok () w:=by cases op<;>simp[eqGuard]
def oU(w:World):(eqGuard op t x y (.bool a) (.bool b)).run P w = .ok () w:=by cases op<;>simp[eqGuard]
def Gu(h:P.underlying t=some (.struct a)):P.fieldsOf t=a:=by simp[Program.fieldsOf,h]
def Cc(d:Nat)(e:TypeId)(n:Nat)(X Y:Array Value):Nat->Nat->Sem Bool
 |0,_=>pure true
 |k+1,i=>do
  let a <-part e X (i*n)
  let b <-part e Y (i*n)
  let r <-Op.equalIn d e a b
  if(!r)=true then pure false else Cc d e n X Y k (i+1)
def run_equalIn_array(w:World)(d:Nat)(t:TypeId)(X Y:Array Value){len e n:Nat}(f:P.underlying t=some (.array len e))(c:cw P e=some n):
  (Op.equalIn (d+1) t (.agg X) (.agg Y)).run P w=(Cc d e n X Y len 0).run P w:=by
 have g:(Go.sizeOf e).run P w = .ok n w:=by
  unfold cw at c;obtain⟨i,m,rfl⟩:=bc.1 c;simp[Go.sizeOf,typeInfo,m]
 simp only[Op.equalIn,Sem.run_bind,run_underlying f,g,Result.andThen_ok,Std.Legacy.Range.forIn_eq_forIn_range',Std.Legacy.Range.size,Nat.sub_zero,Nat.add_sub_cancel,Nat.div_one];clear g f;generalize 0=i;induction len generalizing w i with
 |zero=>simp[Cc]
 |succ len o=>
  simp only[List.range'_succ,List.forIn_cons,Cc,Sem.run_bind,Sem.run_ite];generalize(part e X (i*n)).run P w=r1;cases r1 with
  |ok a j=>
   simp only[Result.andThen_ok];generalize(part e Y (i*n)).run P j=r2;cases r2 with
   |ok b k=>
    simp only[Result.andThen_ok];generalize(Op.equalIn d e a b).run P k=r3;cases r3 with
    |ok r l=>
     cases r
     .simp only[Result.andThen_ok,km,if_true,Sem.run_pure]
     .simp only[Result.andThen_ok,eB,kp,if_false,Sem.run_pure]
      exact o l (i+1)
    |halt x l=>simp[Result.andThen]
   |halt x k=>simp[Result.andThen]
  |halt x j=>simp[Result.andThen]
def qB(agg:Bool)(X:Array Value):Value:=if agg then .agg X else X.getD 0 undef
def PT(a:Jv P d t pre xs c=some A)(e:du P t=some false):xs.length≠0/\c.length≠0:=by
 cases d with
 |zero=>simp[Jv]at a
 |succ d=>
  simp only[Jv]at a;split at a
  .simp
  .simp
  .simp
  .simp
  .rename_i b;simp[du,b]at e
  .rename_i b;simp[du,b]at e
  .simp at a
def LO:∀(d:Nat)(t:TypeId)(xs j:List PV)(B:Bool)(l:List Prop),Jv P d t false xs j=some (B,l)->B=false:=by
 intro d;induction d with
 |zero=>intro t xs j B l h;simp[Jv]at h
 |succ d o=>
  intro t xs j B l h;simp only[Jv]at h;split at h
  .simp at h;exact h.1
  .split at h<;>simp at h;exact h.1
  .simp at h;exact h.1
  .split at h<;>simp at h;exact h.1
  .rename_i fields n
   split at h<;>try(simp at h;done)
   generalize fields.toList=k at h;induction k generalizing B l with
   |nil=>simp[eqFields]at h;exact h.1
   |cons f k p=>
    simp only[eqFields]at h;split at h
    .exact p _ _ h
    .split at h<;>try(simp at h;done)
     split at h<;>try(simp at h;done)
     rename_i a q c;obtain rfl:=o _ _ _ _ _ c;split at h<;>try(simp at h;done)
     rename_i b m g;simp at h;obtain⟨rfl,rfl⟩:=h;exact p _ _ g
  .rename_i len e n
   split at h<;>try(simp at h;done)
   clear n;generalize 0=i at h;induction len generalizing B l i with
   |zero=>simp[mD]at h;exact h.1
   |succ len s=>
    simp only[mD]at h;split at h<;>try(simp at h;done)
    rename_i a q c;obtain rfl:=o _ _ _ _ _ c;split at h<;>try(simp at h;done)
    rename_i b m g;simp at h;obtain⟨rfl,rfl⟩:=h;exact s _ _ _ g
  .simp at h
def Eo:∀(c:List Field)(B:Bool)(l:List Prop),eqFields P (Jv P d) xs j c false=some (B,l)->B=false:=by
 intro c;induction c with
 |nil=>intro B l h;simp[eqFields]at h;exact h.1
 |cons f c e=>
  intro B l h;simp only[eqFields]at h;split at h
  .exact e _ _ h
  .split at h<;>try(simp at h;done)
   split at h<;>try(simp at h;done)
   rename_i a k g;obtain rfl:=LO _ _ _ _ _ _ g;split at h<;>try(simp at h;done)
   rename_i b m i;simp at h;obtain⟨rfl,rfl⟩:=h;exact e _ _ i
def Gv:∀(len i:Nat)(B:Bool)(l:List Prop),mD (Jv P d e) n xs g len i false=some (B,l)->B=false:=by
 intro len;induction len with
 |zero=>intro i B l h;simp[mD]at h;exact h.1
 |succ len j=>
  intro i B l h;simp only[mD]at h;split at h<;>try(simp at h;done)
  rename_i a k c;obtain rfl:=LO _ _ _ _ _ _ c;split at h<;>try(simp at h;done)
  rename_i b m f;simp at h;obtain⟨rfl,rfl⟩:=h;exact j _ _ _ f
def uS{t o n:Nat}(c:du P t=some a)(g:cw P t=some n)(b:a=false->(Z.extract o (o+n)).size≠0):(part t Z o).run P w = .ok (qB a (Z.extract o (o+n))) w:=by
 cases a with
 |true=>simp[qB,uR c g]
 |false=>
  have b:=b rfl;have d:o<Z.size:=by simp at b;omega
  have i:n≠0:=by intro f;apply b;rw[Array.size_extract,f];omega
  have e:qB false (Z.extract o (o+n))=Z[o]:=by
   simp only[qB,kp,if_false];rw[jG,D1,aG (by omega)]
   simp[d]
  rw[e];exact pG c (cX d) w
def pH{Z:Array Value}{c:List PV}(f:Z.size=c.length)(e:∀(i:Nat)v p,Z[i]?=some v->c[i]?=some p->cm d w v p)(o n:Nat):
  (Z.extract o (o+n)).size=((c.drop o).take n).length/\(∀(i:Nat)v p,(Z.extract o (o+n))[i]?=some v->((c.drop o).take n)[i]?=some p->cm d w v p):=by
 refine⟨by simp;omega,fun i v p b a=>?_⟩
 rw[D1]at b;split at b<;>try(simp at b;done)
 rw[ff]at a;split at a<;>try(simp at a;done)
 rw[il]at a;exact e _ _ _ b a
def Uk:∀(d:Nat)(t:TypeId)(xs j:List PV)(B:Bool)(l:List Prop),Jv P d t true xs j=some (B,l)->(∀q∈l,q)->∀(D:Nat),d<=D->∀(X Y:Array Value),
  X.size=xs.length->Y.size=j.length->(∀(i:Nat)v p,X[i]?=some v->xs[i]?=some p->cm G.bX w v p)->(∀(i:Nat)v p,Y[i]?=some v->j[i]?=some p->cm G.bX w v p)->
  ∃x,du P t=some x/\(Op.equalIn D t (qB x X) (qB x Y)).run P w = .ok B w:=by
 intro d;induction d with
 |zero=>intro t xs j B l h;simp[Jv]at h
 |succ d ih=>
  intro t xs j B l h T D hD X Y J K M Q;obtain⟨D,rfl⟩:∃m,D=m+1:=⟨D-1,by omega⟩
  have one:∀(Z:Array Value)(S:List PV)(p:PV),S=[p]->Z.size=S.length->(∀(i:Nat)v p,Z[i]?=some v->S[i]?=some p->cm G.bX w v p)->∃v,Z.getD 0 undef=v/\cm G.bX w v p:=by
   intro Z S p hz s hr;subst hz;have h0:0<Z.size:=by simp at s;omega
   exact⟨Z[0],by simp[h0],hr 0 _ p (cX h0) rfl⟩
  simp only[Jv]at h;split at h
  .rename_i a b c
   simp at h;obtain⟨rfl,rfl⟩:=h;obtain⟨v,z,H⟩:=one X _ _ rfl J M;obtain⟨u,E,I⟩:=one Y _ _ rfl K Q;cases H;cases I;exact⟨false,by simp[du,c],by simp[qB,z,E,run_equalIn_bool' w D t a b c]⟩
  .rename_i kk k a k' b c
   split at h<;>try(simp at h;done)
   rename_i V;subst V;simp at h;obtain⟨rfl,rfl⟩:=h;obtain⟨v,z,H⟩:=one X _ _ rfl J M;obtain⟨u,E,I⟩:=one Y _ _ rfl K Q;cases H;cases I;refine⟨false,by simp[du,c],?_⟩
   simp[qB,z,E,Op.equalIn,run_underlying c]
  .rename_i a b c
   simp at h;obtain⟨rfl,rfl⟩:=h;obtain⟨v,z,H⟩:=one X _ _ rfl J M;obtain⟨u,E,I⟩:=one Y _ _ rfl K Q;cases H with
   |str s1=>
   cases I with
   |str s2=>
   refine⟨false,by simp[du,c],?_⟩
   have e:(s1==s2)=(s1.data.toList==s2.data.toList):=by
    rw[beq_toListBytes,ByteArray.toList_eq,ByteArray.toList_eq]
   simp only[qB,kp,if_false,z,E,Op.equalIn,Sem.run_bind,run_underlying c,Result.andThen_ok,Sem.run_pure,e]
  .rename_i k ka a kb b c
   split at h<;>try(simp at h;done)
   rename_i V;obtain⟨rfl,rfl⟩:=V;simp only[ay,aA]at h;obtain⟨rfl,rfl⟩:=h;obtain⟨ha,hb⟩:=T _ (cP.2 rfl) (by trivial)
   obtain⟨v,z,H⟩:=one X _ _ rfl J M;obtain⟨u,E,I⟩:=one Y _ _ rfl K Q;refine⟨false,by simp[du,c],?_⟩
   cases H with
   |Gr=>simp at ha
   |nP _ r1 i1=>
    cases I with
    |Gr=>simp at hb
    |nP _ r2 i2=>simp[qB,z,E,Op.equalIn,run_underlying c,Z9]
  .rename_i xs j x1 l1 l2 fields c
   split at h<;>try(simp at h;done)
   rename_i a3;refine⟨true,by simp[du,c],?_⟩
   have U:=Gu c;simp only[qB,if_true];rw[run_equalIn_struct w D t X Y (by rw[U];exact c) a3,U]
   clear U c;generalize fields.toList=fs at h;induction fs generalizing B l with
   |nil=>simp[eqFields]at h;obtain⟨rfl,rfl⟩:=h;simp[Op.eqFields]
   |cons f fs a2=>
    simp only[eqFields]at h;split at h
    .rename_i W
     have a0:f.name = "_" := by simpa using W
     simp only[Op.eqFields,a0,ne_eq,not_true_eq_false,if_false];exact a2 B l T h
    .rename_i W
     have a0:f.name ≠ "_" := by simpa using W
     split at h<;>try(simp at h;done)
     rename_i n s;split at h<;>try(simp at h;done)
     rename_i A lA F;split at h<;>try(simp at h;done)
     rename_i C lC R;simp at h;obtain⟨rfl,rfl⟩:=h;obtain⟨N,rX⟩:=pH J M f.offset n;obtain⟨O,rY⟩:=pH K Q f.offset n;obtain⟨x,r,a1⟩:=ih f.type _ _ A lA F (fun q y=>T q (ef _ y)) D (by omega) _ _ N O rX rY
     have L:x=false->((xs.drop f.offset).take n).length≠0/\((j.drop f.offset).take n).length≠0:=fun g=>PT F (g▸r)
     have pX:=uS (w:=w) (Z:=X) (o:=f.offset) r s (fun g=>by rw[N];exact(L g).1)
     have pY:=uS (w:=w) (Z:=Y) (o:=f.offset) r s (fun g=>by rw[O];exact(L g).2)
     simp only[Op.eqFields,ne_eq,a0,not_false_eq_true,if_true,Sem.run_bind,pX,pY,Result.andThen_ok,a1];cases A with
     |true=>simp only[eB,kp,if_false];exact a2 C lC (fun q y=>T q (fD _ y)) R
     |false=>
      have:C=false:=Eo _ _ _ R;subst this;simp
  .rename_i xs j x1 l1 l2 len e c
   split at h<;>try(simp at h;done)
   rename_i n s;refine⟨true,by simp[du,c],?_⟩
   simp only[qB,if_true];rw[run_equalIn_array w D t X Y c s];clear c;generalize 0=i at h⊢;induction len generalizing B l i with
   |zero=>simp only[mD,ay,aA]at h;obtain⟨rfl,rfl⟩:=h;simp[Cc]
   |succ len a4=>
    simp only[mD]at h;split at h<;>try(simp at h;done)
    rename_i A lA F;split at h<;>try(simp at h;done)
    rename_i C lC R;simp only[ay,aA]at h;obtain⟨rfl,rfl⟩:=h;obtain⟨N,rX⟩:=pH J M (i*n) n;obtain⟨O,rY⟩:=pH K Q (i*n) n;obtain⟨x,r,a1⟩:=ih e _ _ A lA F (fun q y=>T q (ef _ y)) D (by omega) _ _ N O rX rY
    have L:x=false->((xs.drop (i*n)).take n).length≠0/\((j.drop (i*n)).take n).length≠0:=fun g=>PT F (g▸r)
    have pX:=uS (w:=w) (Z:=X) (o:=i*n) r s (fun g=>by rw[N];exact(L g).1)
    have pY:=uS (w:=w) (Z:=Y) (o:=i*n) r s (fun g=>by rw[O];exact(L g).2)
    simp only[Cc,Sem.run_bind,pX,pY,Result.andThen_ok,a1,Sem.run_ite];cases A with
    |true=>simp only[eB,kp,if_false];exact a4 C lC (fun q y=>T q (fD _ y)) _ R
    |false=>
     have:C=false:=Gv _ _ _ _ R;subst this;simp
  .simp at h
def qC(w:World)(d:Nat)(a:P.underlying t=some (.interface ms)):(Op.equalIn (d+1) t .nilIface .nilIface).run P w = .ok true w:=by
 simp[Op.equalIn,run_underlying a]
def qD(w:World)(d:Nat)(a:P.underlying t=some (.interface ms)):(Op.equalIn (d+1) t (.iface b v) .nilIface).run P w = .ok false w:=by
 simp[Op.equalIn,run_underlying a]
def NW{e:Operand->Value}{t t':Nat}(d:aS G ae w (e x) (ρ x))(g:aS G ae w (e y) (ρ y))(h:plain P (.binOp op t x y t') an k ρ=some (a,l))(m:∀q∈l,q):Plain P G ae w (do pure (.value (<-(do eqGuard op t x y (e x) (e y);binOp op t (e x) (e y))))) a:=by
 simp only[plain]at h;generalize a3:ρ x=A at d h;generalize a4:ρ y=C at g h;generalize e x=V at d⊢;generalize e y=U at g⊢;have done:∀r:Value,(eqGuard op t x y V U).run P w = .ok () w->(binOp op t V U).run P w = .ok r w->aS G ae w r a->Plain P G ae w (do pure (.value (<-(do eqGuard op t x y V U;binOp op t V U)))) a:=by
  intro r Q T Z;exact .pure (bK _ (by rw[Sem.run_bind,Q];exact T)) Z
 split at h
 .rename_i ka av kb bv
  have u:=d.gM;have v:=g.gM;subst u;subst v;split at h
  .obtain⟨⟨n,s⟩,p,f⟩:=bc.1 h
   simp only[ay,aA]at f;obtain⟨rfl,rfl⟩:=f;exact done _ (jB w) (Cb (.inl rfl) p m w) (.mkInt _ _)
  .obtain⟨⟨n,s⟩,p,f⟩:=bc.1 h
   simp only[ay,aA]at f;obtain⟨rfl,rfl⟩:=f;exact done _ (jB w) (Cb (.inr rfl) p m w) (.mkInt _ _)
  .rename_i a0 a1
   split at h<;>try(simp at h;done)
   rename_i D;subst D;split at h
   .rename_i B i
    simp at h;obtain⟨rfl,rfl⟩:=h;exact done _ (jB w) (PO i w) (.ma _)
   .rename_i z
    obtain⟨⟨n,s⟩,p,f⟩:=bc.1 h;simp only[ay,aA]at f;obtain⟨rfl,rfl⟩:=f;exact done _ (jB w) (JE z p m (fun e=>a0 e) (fun e=>a1 e) w) (.mkInt _ _)
 .obtain⟨s1,rfl,rfl⟩:=d.yV
  obtain⟨s2,rfl,rfl⟩:=g.yV;split at h
  .simp only[ay,aA]at h
   obtain⟨rfl,rfl⟩:=h;exact done _ (qA w) (PR (m _ (cP.2 rfl)) w) (.mkStr _ _ (by simp))
  .obtain⟨B,i,f⟩:=bc.1 h
   simp only[ay,aA]at f;obtain⟨rfl,rfl⟩:=f;exact done _ (qA w) (PQ i w) (.ma _)
 .have u:=d.nV
  have v:=g.nV;subst u;subst v;split at h<;>try(simp at h;done)
  .rename_i j
   simp at h;obtain⟨rfl,rfl⟩:=h;exact done _ (oU w) (by simp[binOp,Op.equal,Op.maxDepth,run_equalIn_bool' w 9999 t _ _ j]) (.ma _)
  .rename_i j
   simp at h;obtain⟨rfl,rfl⟩:=h;exact done _ (oU w) (by simp[binOp,Op.equal,Op.maxDepth,run_equalIn_bool' w 9999 t _ _ j]) (.ma _)
 .obtain⟨f1,rfl⟩:=d.Ek
  obtain⟨f2,rfl⟩:=g.Ek;split at h<;>try(simp at h;done)
  split at h<;>try(simp at h;done)
  rename_i D;subst D;simp only[ay,aA]at h;obtain⟨rfl,rfl⟩:=h;obtain⟨c,w',S,W⟩:=PS (P:=P) (t:=t) (a:=f1) (b:=f2) w;exact⟨_,w',bK _ (by rw[Sem.run_bind,show(eqGuard .add t x y (.float _ f1) (.float _ f2)).run P w = .ok () w by simp[eqGuard]];exact S),W,.v (.Wb _ c)⟩
 .rename_i xs J
  split at h<;>try(simp at h;done)
  rename_i E N;cases d with
  |@agg X _ R d=>
  cases g with
  |@agg Y _ L g=>
   have K:∀B l,Jv P 20 t true xs J=some (B,l)->(∀q∈l,q)->(Op.equalIn 10000 t (.agg X) (.agg Y)).run P w = .ok B w:=by
    intro B l i O;obtain⟨ag,M,a2⟩:=Uk (P:=P) 20 t xs J B l i O 10000 (by omega) X Y R L d g
    rw[N]at M;obtain rfl:=ax M;exact a2
   split at h<;>try(simp at h;done)
   .rename_i B s i
    simp only[ay,aA]at h;obtain⟨rfl,rfl⟩:=h;exact .pure (bK _ (by rw[Sem.run_bind,run_eqGuard_agg w .eql t x y X Y E,Result.andThen_ok,run_eql_struct,K B _ i m];rfl)) (.ma _)
   .rename_i B s i
    simp only[ay,aA]at h;obtain⟨rfl,rfl⟩:=h;exact .pure (bK _ (by rw[Sem.run_bind,run_eqGuard_agg w .neq t x y X Y E,Result.andThen_ok,run_neq_struct,K B _ i m];rfl)) (.ma _)
 .rename_i o
  obtain rfl:U = .nilIface:=by cases g;rfl
  have guard:∀c,y = .const c->(eqGuard op t x y V .nilIface).run P w = .ok () w:=by
   intro c z;subst z;have F:V = .nilIface\/∃t cs,V = .iface t cs:=by
    cases d with
    |qN=>exact .inl rfl
    |B9 I H=>exact .inr ⟨_,_,rfl⟩
   rcases F with rfl|⟨t,cs,rfl⟩<;>cases op<;>simp[eqGuard]
  split at h<;>try(simp at h;done)
  .rename_i c j
   simp only[ay,aA]at h;obtain⟨rfl,rfl⟩:=h;refine done _ (guard _ rfl) ?_ (.ma _);cases d with
   |qN=>simp[binOp,Op.equal,Op.maxDepth,qC w 9999 j]
   |B9 I H=>simp[binOp,Op.equal,Op.maxDepth,qD w 9999 j]
  .rename_i c j
   simp only[ay,aA]at h;obtain⟨rfl,rfl⟩:=h;refine done _ (guard _ rfl) ?_ (.ma _);cases d with
   |qN=>simp[binOp,Op.equal,Op.maxDepth,qC w 9999 j]
   |B9 I H=>simp[binOp,Op.equal,Op.maxDepth,qD w 9999 j]
 .simp at h
def PU{e:Operand->Value}{t:Nat}(c:aS G ae w (e x) (ρ x))(h:plain P (.unOp op t x) an k ρ=some (a,l)):Plain P G ae w (do pure (.value (<-Op.unary op (e x)))) a:=by
 simp only[plain]at h;generalize ρ x=A at c h;generalize e x=V at c⊢;split at h<;>try(simp at h;done)
 .have b:=c.nV
  subst b;simp only[ay,aA]at h;obtain⟨rfl,rfl⟩:=h;exact .pure (bK _ (by simp[Op.unary])) (.ma _)
 .have b:=c.gM
  subst b;simp only[ay,aA]at h;obtain⟨rfl,rfl⟩:=h;exact .pure (bK _ (by simp[Op.unary,Op.intArith])) (.mkInt _ _)
 .have b:=c.gM
  subst b;obtain⟨m,f,d⟩:=bc.1 h;simp only[aA]at d;obtain⟨rfl,rfl⟩:=d;exact .pure (bK _ (by simp only[Op.unary];exact oT f w)) (.mkInt _ _)
def yW:∀(aj:List (List PV))(l:List UInt8),bytesOf aj=some l->∃a:List Int,aj=a.map (fun n=>[PV.int .u8 n])/\l=a.map fun n=>UInt8.ofNat n.toNat
 |[],l,h=>by simp[bytesOf]at h;subst h;exact⟨[],rfl,rfl⟩
 |r::d,l,h=>by
  unfold bytesOf at h;split at h
  .simp at*
  .rename_i n f e
   obtain⟨rfl,rfl⟩:=List.cons.inj e;obtain⟨m,c,b⟩:=bc.1 h;obtain⟨a,rfl,rfl⟩:=yW d m c;exact⟨n::a,rfl,b.symm⟩
  .simp at h
def foldl_push(a:List Int):∀(s:ByteArray),a.foldl (fun r n=>r.push (UInt8.ofNat n.toNat)) s=⟨s.data++(a.map fun n=>UInt8.ofNat n.toNat).toArray⟩:=by
 induction a with
 |nil=>intro s;simp
 |cons n a b=>
  intro s;simp only[List.foldl_cons,b,bG];congr 1
  simp[ByteArray.push]
def NX(g:cm G.bX w V (.sl 1 aj))(t:bytesOf aj=some l):
  (Conv.bytesToString V).run P w = .ok (.string ⟨l.toArray⟩) w:=by
 obtain⟨c,rfl,rfl⟩:=yW aj l t;generalize s:c.map (fun n=>[PV.int .u8 n])=R at g
 cases g with
 |m3=>
  have:c=[]:=by cases c<;>simp_all
  subst this;simp[Conv.bytesToString];rfl
 |Jo a=>
  have:c=[]:=by cases c<;>simp_all
  subst this;have e:=run_loadCells (P:=P) w a 0 (fun _=>.int .u8 0) (fun j o=>by omega)
  rw[run_bytesToString w _ _ _ [] e];rfl
 |sl b off len cap n aj u hlen r D z v=>
  subst s;have h:len=c.length:=by rw[<-hlen];simp
  subst h;have x:∀i,i<c.length->w.cell? ⟨b,off+i,none⟩=some (.int .u8 (c.getD i 0)):=by
   intro i d;have p:kf (c.map (fun n=>[PV.int .u8 n])) i 0=some (.int .u8 (c.getD i 0)):=by simp[kf,d]
   obtain⟨q,_⟩:=z i 0 _ p;have f:=v i 0 _ p;cases hpu:u i 0 with
   |int k m=>
    rw[hpu]at f q;cases f;simpa using q
   |_=>rw[hpu]at f;cases f
  have e:=run_loadCells (P:=P) w ⟨b,off,none⟩ c.length (fun i=>.int .u8 (c.getD i 0)) (fun j o=>by rw[nW];exact x j o)
  have y:(List.range c.length).map (fun i=>Value.int .u8 (c.getD i 0))=c.map (Value.int .u8):=by
   apply fe;intro i;by_cases d:i<c.length
   .simp[d]
   .simp[d,eJ (Nat.le_of_not_lt d)]
  rw[y]at e;rw[run_bytesToString w _ _ _ c e,foldl_push];congr 2
  simp
def Gw{e:Operand->Value}{s d:Nat}(i:aS G ae w (e x) (ρ x))(h:plain P (.convert s d x) an k ρ=some (a,l))(z:∀q∈l,q):Plain P G ae w (do pure (.value (<-convert s d (e x)))) a:=by
 simp only[plain]at h;generalize ρ x=A at i h;generalize e x=V at i⊢;split at h<;>try(simp at h;done)
 .rename_i f c
  have j:=i.gM;subst j;simp only[ay,aA]at h;obtain⟨rfl,rfl⟩:=h;exact .pure (bK _ (by simp[convert,run_underlying f,run_underlying c,Conv.intToInt])) (.mkInt _ _)
 .rename_i f c
  have j:=i.gM;subst j;simp only[ay,aA]at h;obtain⟨rfl,rfl⟩:=h;exact .pure (v:=.float _ _) (bK _ (by simp only[convert,Sem.run_bind,run_underlying f,run_underlying c,Result.andThen_ok,Conv.intToFloat,Sem.run_pure];rfl)) (.v (.Wb _ _))
 .rename_i f c
  split at h<;>try(simp at h;done)
  rename_i aj n r;have y:∃g,bytesOf aj=some g/\a = .v (.str g):=by
   split at h
   .simp only[ay,aA]at h
    obtain⟨rfl,rfl⟩:=h;exact⟨_,z _ (cP.2 rfl),rfl⟩
   .obtain⟨g,o,t⟩:=bc.1 h
    simp only[aA]at t;obtain⟨rfl,rfl⟩:=t;exact⟨g,o,rfl⟩
  obtain⟨g,o,rfl⟩:=y;have p:=i.aj r;refine .pure (bK _ ?_) (.mkStr ⟨g.toArray⟩ g (by simp))
  have m:=NX (P:=P) p o;cases p with
  |m3=>rw[run_convert_bytes_string w s d _ none 0 0 f n c];exact m
  |Jo a=>rw[run_convert_bytes_string w s d _ _ 0 0 f n c];exact m
  |sl b off len cap I aj u hlen D H J E=>rw[run_convert_bytes_string w s d _ _ len cap f n c];exact m
def yX{lo l:Option Operand}(H:∀y∈lo,aS G ae w (e y) (ρ y))(D:∀y∈l,aS G ae w (e y) (ρ y)){len cap f a:Nat}(z:plain.bound (lo.map ρ) 0=some (f:Int))(h:plain.bound (l.map ρ) len=some (a:Int))(E:f<=a)(M:a<=len)(X:len<=cap):
  (Instr.sliceBounds b len cap (lo.map e) (l.map e) none).run P w = .ok (f,a,cap) w:=by
 have t:∀(o:Option Operand)(d:Nat)(v:Int),(∀y∈o,aS G ae w (e y) (ρ y))->plain.bound (o.map ρ) d=some v->(o=none/\v=d)\/∃k,o.map e=some (.int k v):=by
  intro o d v r g;cases o with
  |none=>simp[plain.bound]at g;exact .inl ⟨rfl,g.symm⟩
  |some y=>
   right
   simp only[de,plain.bound]at g;split at g
   .simp at*
   .rename_i kk i u
    simp only[ay]at g u;subst g;have:=r y rfl;rw[u]at this;exact⟨kk,by simp[this.gM]⟩
   .simp at g
 have I:=t lo 0 f H z;have J:=t l len a D h;have j:∀(y:Nat)(k:IntKind)(v:Nat)(c:BoundsCode),v<=y->(Instr.sliceBound (.int k (v:Int)) y c).run P w = .ok v w:=by
  intro y k v c T;have:(v:Int)<=(y:Int):=by omega
  simp[Instr.sliceBound,asIntOf,this]
 rcases I with⟨rfl,Q⟩|⟨s,p⟩<;>rcases J with⟨rfl,K⟩|⟨q,x⟩
 .have m:f=0:=by omega
  have n:a=len:=by omega
  subst m;subst n;simp[Instr.sliceBounds]
 .have m:f=0:=by omega
  subst m;rw[x];simp[Instr.sliceBounds,j cap q a _ (by omega)]
 .have n:a=len:=by omega
  subst n;rw[p];simp[Instr.sliceBounds,j a s f _ (by omega)]
 .rw[p,x]
  simp[Instr.sliceBounds,j cap q a _ (by omega),j a s f _ E]
def uT(f:a<=b)(e:b<=aj.length)(c:kf ((aj.take b).drop a) i j=some p):i<b-a/\kf aj (a+i) j=some p:=by
 have get:((aj.take b).drop a)[i]?=if i<b-a then aj[a+i]? else none:=by
  rw[il,ff];by_cases d:i<b-a
  .rw[aG d,aG (by omega)]
  .rw[aN d,aN (by omega)]
 unfold kf at c;rw[get]at c;split at c
 .rename_i d;exact⟨d,c⟩
 .simp at c
def NY{t:Nat}(K:aS G ae w (e x) (ρ x))(L:∀y∈lo,aS G ae w (e y) (ρ y))(C:∀y∈z,aS G ae w (e y) (ρ y))(h:plain P (.slice t x lo z R) an k ρ=some (a,l))(Z:∀q∈l,q):Plain P G ae w (do pure (.value (<-Instr.sliceAt t (e x) (lo.map e) (z.map e) (R.map e)))) a:=by
 simp only[plain]at h;split at h<;>try(simp at h;done)
 .rename_i e' J
  split at h<;>try(simp at h;done)
  rename_i n I;split at h<;>try(simp at h;done)
  rename_i aj a4;split at h<;>try(simp at h;done)
  rename_i W U M D;simp only[ay,aA]at h;obtain⟨rfl,rfl⟩:=h;obtain⟨m,E,T⟩:=Z _ (cP.2 rfl);have X:=K.aj a4;generalize e x=V at X⊢;obtain⟨c,rfl⟩:=iT m;obtain⟨d,rfl⟩:=iT (Int.le_trans m E);have o:c<=d:=by omega
  have g:d<=aj.length:=by omega
  have run:∀(A:Option Addr)(cap:Nat),aj.length<=cap->(Instr.sliceAt t (.slice A aj.length cap) (lo.map e) (z.map e) none).run P w = .ok (.slice (if cap=c then A else A.map (·.add (c*n))) (d-c) (cap-c)) w:=by
   intro A cap a2;have H:=yX (P:=P) (b:=true) L C M D o g a2;simp[Instr.sliceAt,Instr.slice,run_underlying J,H,dQ I]
  simp only[uA,qU];cases X with
  |m3=>
   have r0:=run none 0 (by simp)
   refine .pure (bK _ r0) (.v ?_);have:d=0:=by simpa using g
   subst this;have:c=0:=by omega
   subst this;exact .m3 _
  |Jo A=>
   have r0:=run (some A) 0 (by simp)
   refine .pure (bK _ r0) (.v ?_);have:d=0:=by simpa using g
   subst this;have:c=0:=by omega
   subst this;exact .Jo _ _
  |sl b off len cap n aj u hlen N F a3 S=>
   subst hlen;have r0:=run (some ⟨b,off,none⟩) cap N;refine .pure (bK _ r0) (.v ?_);have Y:((aj.take d).drop c).length=d-c:=by simp;omega
   by_cases B:cap=c
   .rw[aG B]
    refine .sl b off _ _ n _ (fun _ _=>undef) Y (by omega) (fun r Q=>F r ?_) (fun i j p f=>?_) fun i j p f=>?_
    .exact sC (uE Q)
    .have:=(uT o g f).1;omega
    .have:=(uT o g f).1;omega
   .rw[aN B]
    simp only[de,nW];refine .sl b (off+c*n) _ _ n _ (fun i j=>u (c+i) j) Y (by omega) (fun r Q=>F r ?_) (fun i j p f=>?_) fun i j p f=>S _ _ _ (uT o g f).2
    .exact sC (uE Q)
    .obtain⟨a5,a1⟩:=uT o g f
     have:=a3 _ _ _ a1;have O:off+c*n+i*n+j=off+(c+i)*n+j:=by rw[cc];omega
     rw[O];exact this
 .rename_i J
  split at h<;>try(simp at h;done)
  rename_i s I;split at h<;>try(simp at h;done)
  rename_i W U M D;simp only[ay,aA]at h;obtain⟨rfl,rfl⟩:=h;obtain⟨m,E,T⟩:=Z _ (cP.2 rfl);rw[I]at K;obtain⟨b,H,rfl⟩:=K.yV;rw[H];obtain⟨c,rfl⟩:=iT m;obtain⟨d,rfl⟩:=iT (Int.le_trans m E);have hlen:b.data.toList.length=b.size:=by cases b;rfl
  rw[hlen]at D T;have a0:=yX (P:=P) (b:=false) (cap:=b.size) L C M D (by omega) (by omega) (ar _)
  simp only[uA,qU];refine .pure (v:=.string (b.extract c d)) (bK _ ?_) (.mkStr _ _ ?_)
  .simp[Instr.sliceAt,Instr.slice,run_underlying J,a0]
  .simp[ByteArray.data_extract,List.drop_take]
def Ul(E:∀x∈args.toList,aS G ae w (e x) (ρ x))(H:o.op = .call {callee:=.builtin .len,args:=args,argTypes:=d})(h:plain P (.call {callee:=.builtin .len,args:=args,argTypes:=d}) an k ρ=some (a,l)):Plain P G ae w (execOp e o) a:=by
 simp only[plain]at h;split at h<;>try(simp at h;done)
 rename_i x t i r;have f:=E x (by rw[i];simp)
 have q:args = #[x]:=by rw[<-m1,i]
 have y:d = #[t]:=by rw[<-m1,r]
 subst q;subst y;have run:∀v,(Builtin.len_ #[t] o.type #[e x]).run P w = .ok v w->(execOp e o).run P w = .ok (.value v) w:=by
  intro v D;simp[execOp,H,resolve,invoke,builtin,D]
 split at h
 .rename_i c
  split at h<;>try(simp at h;done)
  rename_i n p;obtain⟨aj,m,j⟩:=bc.1 h;simp only[aA]at j;obtain⟨rfl,rfl⟩:=j;have g:=f.aj m;refine .pure (run _ ?_) (.mkInt .i64 aj.length);generalize e x=V at g;cases g with
  |m3=>simp[Builtin.len_,run_underlying c,goInt]
  |Jo a=>simp[Builtin.len_,run_underlying c,goInt]
  |sl b off len cap M aj u hlen J m Q K=>simp[Builtin.len_,run_underlying c,goInt,hlen]
 .rename_i n I c
  simp only[ay,aA]at h;obtain⟨rfl,rfl⟩:=h;exact .pure (run _ (by simp[Builtin.len_,run_underlying c,goInt])) (.mkInt .i64 n)
 .rename_i s c p
  simp only[ay,aA]at h;obtain⟨rfl,rfl⟩:=h;rw[p]at f;obtain⟨b,z,rfl⟩:=f.yV;exact .pure (run _ (by simp[Builtin.len_,run_underlying c,goInt,z])) (.mkInt .i64 _)
 .simp at h
def JF{ρ:Operand->AV}(h:args.toList.map ρ=[a]):∃x,args = #[x]/\ρ x=a:=by
 rcases hl:args.toList with _|⟨x,_|⟨y,l⟩⟩<;>rw[hl]at h<;>simp at h
 exact⟨x,by rw[<-m1,hl],h⟩
def Ep{ρ:Operand->AV}(h:args.toList.map ρ=[a,b]):∃x y,args = #[x,y]/\ρ x=a/\ρ y=b:=by
 rcases hl:args.toList with _|⟨x,_|⟨y,_|⟨z,l⟩⟩⟩<;>rw[hl]at h<;>simp at h
 exact⟨x,y,by rw[<-m1,hl],h.1,h.2⟩
def Um(c:Array TypeId)(t:TypeId)(k:FloatKind)(a b:Nat):Builtin.real_ c t #[.complex k a b]=pure (.float k a):=rfl
def Un(c:Array TypeId)(t:TypeId)(k:FloatKind)(b a:Nat):Builtin.imag_ c t #[.complex k b a]=pure (.float k a):=rfl
def JG(c:Array TypeId)(t:TypeId)(k:FloatKind)(b a:Nat):Builtin.complex_ c t #[.float k b,.float k a]=pure (.complex k b a):=by
 show(if k=k then pure (.complex k b a)else stuck "complex: parts of different kinds" : Sem Value)=_
 rw[aG rfl]
def Gx(c:∀x∈args.toList,aS G ae w (e x) (ρ x))(j:o.op = .call {callee:=.builtin f,args:=args,argTypes:=r})(h:plain P (.call {callee:=.builtin f,args:=args,argTypes:=r}) an k ρ=some (a,l))(Q:∀q∈l,q):Plain P G ae w (execOp e o) a:=by
 cases f<;>try(simp[plain]at h;done)
 case len=>exact Ul c j h
 case real=>
  simp only[plain]at h;split at h<;>try(simp at h;done)
  rename_i kk J b;simp only[ay,aA]at h;obtain⟨rfl,rfl⟩:=h;obtain⟨x,rfl,d⟩:=JF b;have:=c x (by simp)
  rw[d]at this;obtain⟨z,t,p⟩:=this.LN;exact .pure (v:=.float kk z) (by simp[execOp,j,resolve,invoke,builtin,Um,p]) (.v (.Wb _ _))
 case imag=>
  simp only[plain]at h;split at h<;>try(simp at h;done)
  rename_i kk J b;simp only[ay,aA]at h;obtain⟨rfl,rfl⟩:=h;obtain⟨x,rfl,d⟩:=JF b;have:=c x (by simp)
  rw[d]at this;obtain⟨z,t,p⟩:=this.LN;exact .pure (v:=.float kk t) (by simp[execOp,j,resolve,invoke,builtin,Un,p]) (.v (.Wb _ _))
 case complex=>
  simp only[plain]at h;split at h<;>try(simp at h;done)
  rename_i s u b;split at h<;>try(simp at h;done)
  rename_i m;subst m;simp only[ay,aA]at h;obtain⟨rfl,rfl⟩:=h;obtain⟨x,y,rfl,d,n⟩:=Ep b;have g:=c x (by simp)
  have i:=c y (by simp)
  rw[d]at g;rw[n]at i;obtain⟨H,K⟩:=g.Ek;obtain⟨I,M⟩:=i.Ek;exact .pure (v:=.complex s H I) (by simp[execOp,j,resolve,invoke,builtin,JG,K,M]) (.v (.Gr _ _ _))
 case max=>
  simp only[plain]at h;split at h<;>try(simp at h;done)
  rename_i s D u E b;split at h<;>try(simp at h;done)
  rename_i m;subst m;simp only[ay,aA]at h;obtain⟨rfl,rfl⟩:=h;obtain⟨x,y,rfl,d,n⟩:=Ep b;have g:=c x (by simp)
  have i:=c y (by simp)
  rw[d]at g;rw[n]at i;exact .pure (by simp[execOp,j,resolve,invoke,builtin,Builtin.max_,Builtin.max2,g.gM,i.gM]) (.mkInt _ _)
 case min=>
  simp only[plain]at h;split at h<;>try(simp at h;done)
  rename_i s D u E b;split at h<;>try(simp at h;done)
  rename_i m;subst m;simp only[ay,aA]at h;obtain⟨rfl,rfl⟩:=h;obtain⟨x,y,rfl,d,n⟩:=Ep b;have g:=c x (by simp)
  have i:=c y (by simp)
  rw[d]at g;rw[n]at i;exact .pure (by simp[execOp,j,resolve,invoke,builtin,Builtin.min_,Builtin.min2,g.gM,i.gM]) (.mkInt _ _)
def mE(a:Nat->Nat)(w:World)(X:Array Value)(ps:List PV):Prop:=X.size=ps.length/\∀(i:Nat)v p,X[i]?=some v->ps[i]?=some p->cm a w v p
def nX(G:Gh)(ae:List (Option Nat))(w:World)(X:Array Value)(cs:List AV):Prop:=
 X.size=cs.length/\∀(i:Nat)v a,X[i]?=some v->cs[i]?=some a->v.oneCell'=true/\aS G ae w v a
def Gy(h:Uh v=some p)(a:Nat->Nat)(w:World):cm a w v p:=by
 unfold Uh at h;split at h<;>simp at h<;>subst h
 .exact .bool _
 .exact .int _ _
 .exact .str _
 .exact .nP _ _ _
 .exact .nil
def Cd:∀(d:List Value)(ps:List PV),Gm d=some ps->∀(a:Nat->Nat)(w:World),mE a w d.toArray ps
 |[],ps,h,a,w=>by simp[Gm]at h;subst h;exact⟨rfl,by simp⟩
 |v::d,ps,h,a,w=>by
  unfold Gm at h;split at h<;>try(simp at h;done)
  rename_i p k g j;simp at h;subst h;obtain⟨e,f⟩:=Cd d k j a w;refine⟨by simpa using e,fun i u q c b=>?_⟩
  cases i with
  |zero=>simp at c b;subst c;subst b;exact Gy g a w
  |succ i=>simp at c b;exact f i u q (by simpa using c) b
def lP(v:Value)(G:Gh)(ae:List (Option Nat))(w:World):aS G ae w v (mC v):=by
 unfold mC;split
 .split
  .rename_i h
   have:=Cd _ _ h G.bX w;exact .agg (by simpa using this.1) fun i v p a b=>this.2 i v p (by simpa using a) b
  .exact .none _
 .exact .qN
 .split
  .exact .v (Gy (by assumption) _ _)
  .exact .none _
def Er(h:v.oneCell'=true):(mC v).xq=true:=by
 unfold mC;split
 .simp[Value.oneCell']at h
 .rfl
 .split<;>rfl
def yY(h:D9 P t=some z):∃v,(∀w,(zeroValue t).run P w = .ok v w)/\z.all AV.xq=true/\∀G ae w,nX G ae w v.cells z:=by
 unfold D9 at h;obtain⟨v,g,h⟩:=cV.1 h;split at h<;>try(simp at h;done)
 rename_i l;simp only[ay]at h;subst h;obtain⟨i,f,k⟩:=cV.1 g;have c:∀x∈v.cells.toList,x.oneCell'=true:=bf.1 l;refine⟨v,fun w=>by simp[zeroValue,typeInfo,f,k],?_,fun G ae w=>⟨by simp,fun j u a e d=>?_⟩⟩
 .simp only[List.all_map,bf]
  exact fun x b=>Er (c x b)
 .simp only[bu]at d
  obtain⟨x,b,rfl⟩:=bc.1 d;have:x=u:=by rw[iq]at b;rw[b]at e;exact(ax e)
  subst this;exact⟨c x (aK b),lP _ _ _ _⟩
def Ce(h:qW P t=some z):∃v,(∀w,(zeroValue t).run P w = .ok v w)/\z=mC v:=by
 unfold qW at h;obtain⟨v,b,rfl⟩:=bc.1 h;obtain⟨i,a,c⟩:=cV.1 b;exact⟨v,fun w=>by simp[zeroValue,typeInfo,a,c],rfl⟩
def mE.one(h:cm c w v p):mE c w v.cells [p]:=by
 rw[h.cells];refine⟨rfl,fun i u q b a=>?_⟩
 cases i with
 |zero=>simp at b a;subst b;subst a;exact h
 |succ i=>simp at a
def aS.bits{v:Value}(h:aS G ae w v a)(b:a.bits=some r):mE G.bX w v.cells r:=by
 cases h with
 |agg c h=>simp[AV.bits]at b;subst b;exact⟨c,h⟩
 |v h=>simp[AV.bits,AV.pv]at b;subst b;exact .one h
 |own e f h d=>simp[AV.bits,AV.pv]at b;subst b;exact .one h
 |_=>simp[AV.bits,AV.pv]at b
def yZ:∀(a:List CT)(ps:List PV)(i:Nat)(q:PV),(kY a ps)[i]?=some q->∃p c,ps[i]?=some p/\(q=p\/q=CT.norm c p)
 |[],ps,i,q,h=>⟨q,.other,by simpa[kY]using h,.inl rfl⟩
 |c::a,[],i,q,h=>by simp[kY]at h
 |c::a,p::ps,0,q,h=>by simp[kY]at h;exact⟨p,c,rfl,.inr h.symm⟩
 |c::a,p::ps,i+1,q,h=>by simp only[kY,sF]at h⊢; exact yZ a ps i q h
def tj:∀(a:List CT)(ps:List PV),(kY a ps).length=ps.length
 |[],ps=>by simp[kY]
 |c::a,[]=>rfl
 |c::a,p::ps=>by simp[kY,tj]
def mE.norm(f:List CT)(h:mE d w X ps):mE d w X (kY f ps):=by
 refine⟨by rw[tj];exact h.1,fun i v q b e=>?_⟩
 obtain⟨p,c,a,rfl|rfl⟩:=yZ _ _ _ _ e
 .exact h.2 _ _ _ b a
 .exact(h.2 _ _ _ b a).norm c
def aS.row{v:Value}(h:aS G ae w v a)(b:rowOf P t a=some r):mE G.bX w v.cells r:=by
 unfold rowOf at b;obtain⟨ps,c,rfl⟩:=bc.1 b;exact(h.bits c).norm _
def aS.norm{v:Value}(h:aS G ae w v a):aS G ae w v (yR P t a):=by
 unfold yR;split
 .cases h with
  |v h=>split<;>first|exact .v (h.norm _)|exact .v h
 .cases h with
  |agg b h=>
   have:=mE.norm (kr P t) (⟨b,h⟩:mE G.bX w _ _);exact .agg this.1 this.2
 .exact h
def hX:∀(xs:List α)(l:List α)(off k:Nat),off+xs.length<=l.length->(putAt l off xs)[k]?=if off<=k/\k<off+xs.length then xs[k-off]? else l[k]?
 |[],l,off,k,h=>by rw[aN (by simp only[cS];omega)];rfl
 |x::xs,l,off,k,h=>by
  simp only[aD]at h;rw[putAt,hX xs (l.set off x) (off+1) k (by simp;omega)]
  by_cases a:off+1<=k/\k<off+1+xs.length
  .rw[aG a,aG ⟨by omega,by simp only[aD];omega⟩]
   have:k-off=(k-(off+1))+1:=by omega
   rw[this,sF]
  .rw[aN a]
   by_cases b:k=off
   .subst b
    rw[aG ⟨ar _,by simp only[aD];omega⟩,bU (by omega),lM,yq]
   .rw[aN (by simp only[aD];omega),bT (by omega)]
def iX:∀(xs:List α)(l:List α)(off:Nat),(putAt l off xs).length=l.length
 |[],l,off=>rfl
 |x::xs,l,off=>by rw[putAt,iX xs];simp
def foldl_set(X:Array Value)(off:Nat):∀(l:List Value)(i:Nat),((l.zipIdx i).foldl (fun cs(c,j)=>cs.setIfInBounds (off+j) c) X).size=X.size /\
  ∀k,((l.zipIdx i).foldl (fun cs(c,j)=>cs.setIfInBounds (off+j) c) X)[k]?=if off+i<=k/\k<off+i+l.length/\k<X.size then l[k-(off+i)]? else X[k]?:=by
 intro l;induction l generalizing X with
 |nil=>intro i;refine⟨rfl,fun k=>?_⟩;rw[aN (by simp;omega)];rfl
 |cons x l g=>
  intro i;simp only[List.zipIdx_cons,List.foldl_cons];obtain⟨e,f⟩:=g (X.setIfInBounds (off+i) x) (i+1);refine⟨by rw[e];simp,fun k=>?_⟩
  rw[f];simp only[Array.size_setIfInBounds,aD];by_cases a:off+(i+1)<=k/\k<off+(i+1)+l.length/\k<X.size
  .rw[aG a,aG ⟨by omega,by omega,a.2.2⟩]
   have:k-(off+i)=(k-(off+(i+1)))+1:=by omega
   rw[this,sF]
  .rw[aN a,Array.getElem?_setIfInBounds]
   by_cases d:off+i=k
   .subst d
    by_cases b:off+i<X.size
    .rw[aG rfl,aG b,aG ⟨by omega,by omega,b⟩];simp
    .rw[aG rfl,aN b,aN (by omega)]
     exact(sE (by omega)).symm
   .rw[aN d,aN (by omega)]
def nX.put(h:nX G ae w X ps)(l:nX G ae w C r)(m:off+r.length<=ps.length):
  nX G ae w (C.zipIdx.foldl (fun cs(c,j)=>cs.setIfInBounds (off+j) c) X) (putAt ps off r):=by
 obtain⟨g,k⟩:=h;obtain⟨n,f⟩:=l;have e:C.zipIdx.foldl (fun cs(c,j)=>cs.setIfInBounds (off+j) c) X=(C.toList.zipIdx 0).foldl (fun cs(c,j)=>cs.setIfInBounds (off+j) c) X:=by
  rw[<-Array.foldl_toList];simp
 rw[e];obtain⟨f1,f2⟩:=foldl_set X off C.toList 0;refine⟨by rw[f1,iX,g],fun i v p a b=>?_⟩
 rw[f2]at a;rw[hX r ps off i m]at b;simp only[iC,mA]at a;by_cases d:off<=i/\i<off+r.length
 .rw[aG d]at b
  rw[aG ⟨d.1,by omega,by omega⟩]at a
  exact f _ _ _ (by simpa using a) b
 .rw[aN d]at b
  rw[aN (by omega)]at a
  exact k _ _ _ a b
def aS.soft{v:Value}(h:aS G ae w v a):aS G ae w v a.soft:=by
 cases h with
 |own o p h n=>exact .v h
 |none v=>exact .none _
 |v h=>exact .v h
 |agg e h=>exact .agg e h
 |D8 e c d h=>exact .D8 e c d h
 |az b h=>exact .az b h
 |jr b c h=>exact .jr b c h
 |gg b c h=>exact .gg b c h
 |kX u k l=>exact .kX u k l
 |bA b d=>exact .bA b d
 |mp b d=>exact .mp b d
 |fn f g i j=>exact .fn f g i j
 |xZ f g=>exact .xZ f g
 |qN=>exact .qN
 |B9 e h=>exact .B9 e h
 |opt h m=>exact .opt h m
def aS.JH{v:Value}(h:aS G ae w v a)(g:a.cells.all AV.inner=true):nX G ae w v.cells a.cells:=by
 have one:∀{v:Value}{a:AV},aS G ae w v a->v.oneCell'=true->nX G ae w v.cells [a]:=by
  intro v a h b;rw[ow b];refine⟨rfl,fun i u q d c=>?_⟩
  cases i with
  |zero=>simp at d c;subst d;subst c;exact⟨b,h⟩
  |succ i=>simp at c
 cases h with
 |none v=>simp[AV.cells,AV.inner]at g
 |v h=>exact one (.v h) h.gm
 |agg f h=>
  refine⟨by simp[Value.cells,AV.cells,f],fun i u q d c=>?_⟩
  simp only[AV.cells,bu]at c;obtain⟨p,j,rfl⟩:=bc.1 c;have:=h i u p (by simpa[Value.cells]using d) j
  exact⟨this.gm,.v this⟩
 |D8 f k b h=>exact⟨f,fun i u q d c=>⟨b i u (by simpa[Value.cells]using d),h i u q (by simpa[Value.cells]using d) c⟩⟩
 |az e h=>exact one (.az e h) rfl
 |bA e b=>exact one (.bA e b) b
 |mp e b=>exact one (.mp e b) b
 |_=>simp[AV.cells,AV.inner]at g
def Gz{a:AV}(h:a.inner=true):a.xq=true:=by cases a<;>simp[AV.inner]at h<;>rfl
def Cf:∀(xs:List α)(l:List α)(off:Nat),x∈putAt l off xs->x∈l\/x∈xs
 |[],l,off,h=>.inl h
 |y::xs,l,off,h=>by
  rw[putAt]at h;rcases Cf xs _ _ h with h|h
  .rcases uJ h with h|h
   .exact .inl h
   .exact .inr (by simp[h])
  .exact .inr (aV _ h)
def GA{e:Operand->Value}{ρ:Operand->AV}:∀(ps:List (Nat×Operand))(X:Array Value)(cs a:List AV),
  jU place ρ ps cs=some a->nX G ae w X cs->cs.all AV.xq=true->(∀p∈ps,aS G ae w (e p.2) (ρ p.2))->∃c,Instr.fill place X (ps.map fun p=>(p.1,e p.2))=some c/\nX G ae w c a/\a.all AV.xq=true
 |[],X,cs,a,h,d,f,_=>by simp[jU]at h;subst h;exact⟨X,rfl,d,f⟩
 |(i,x)::ps,X,cs,a,h,d,f,m=>by
  unfold jU at h;split at h<;>try(simp at h;done)
  rename_i off r z;split at h<;>try(simp at h;done)
  rename_i o;simp only[cd,beq_iff_eq,fM]at o;obtain⟨⟨u,D⟩,k⟩:=o;have l:=(m (i,x) (by simp)).soft.JH k
  have g:=d.put (off:=off) l (show off+(ρ x).soft.cells.length<=cs.length by omega)
  have v:(putAt cs off (ρ x).soft.cells).all AV.xq=true:=by
   rw[bf]at f k⊢;intro y b;rcases Cf _ _ _ b with b|b
   .exact f y b
   .exact Gz (k y b)
  obtain⟨c,q,s,t⟩:=GA ps _ _ a h g v (fun p g=>m p (aV _ g))
  refine⟨c,?_,s,t⟩;have j:(e x).cells.size=r:=by rw[l.1,u]
  have n:¬(off+(e x).cells.size>X.size):=by rw[j,d.1];omega
  simp only[bG,Instr.fill,z,j,ne_eq,not_true_eq_false,decide_false,mW,fM];rw[j]at n;rw[aN n];exact q
def tv:∀(cs:List AV)(ps:List PV),sG cs=some ps->cs=ps.map .v
 |[],ps,h=>by simp[sG]at h;subst h;rfl
 |a::cs,ps,h=>by
  cases a<;>simp only[sG]at h<;>try(simp at h;done)
  obtain⟨c,b,rfl⟩:=bc.1 h;simp[<-tv cs c b]
def nX.B8{X:Array Value}{cs:List AV}(h:nX G ae w X cs)(e:cs.all AV.xq=true):aS G ae w (.agg X) (B8 cs):=by
 unfold Go.Ac.B8;split
 .rename_i ps c
  obtain rfl:=tv _ _ c;refine .agg (by simpa using h.1) fun i v p b c=>?_
  have:=(h.2 i v (.v p) b (by simp[c])).2
  cases this with|v h=>exact h
 .exact .D8 h.1 (bf.1 e) (fun i v b=>by
   have f:i<cs.length:=by rw[<-h.1];exact(ia.1 b).1
   exact(h.2 i v _ b (bo f)).1) fun i v a b d=>(h.2 i v a b d).2
def x4{fields:Array Field}(h:fields.toList.all (fun f:Field=>(cw P f.type).isSome)=true)(w:World):
  ∃places:Array (Nat×Nat),(fields.mapM fun f:Field=>(do pure (f.offset,<-sizeOf f.type):Sem (Nat×Nat))).run P w = .ok places w /\
   ∀i:Nat,places[i]?=(match fields[i]? with|some f=>(cw P f.type).map fun n=>(f.offset,n)|none=>none):=by
 have key:∀(l:List Field),l.all (fun f=>(cw P f.type).isSome)=true->∃ps:List (Nat×Nat),(l.mapM fun f:Field=>(do pure (f.offset,<-sizeOf f.type):Sem (Nat×Nat))).run P w = .ok ps w /\
   ∀i:Nat,ps[i]?=(match l[i]? with|some f=>(cw P f.type).map fun n=>(f.offset,n)|none=>none):=by
  intro l;induction l with
  |nil=>intro _;exact⟨[],by simp,by simp⟩
  |cons f l e=>
   intro c;simp only[bJ,cd]at c;obtain⟨ps,a,b⟩:=e c.2;obtain⟨n,d⟩:=uH.1 c.1;refine⟨(f.offset,n)::ps,by simp only[List.mapM_cons,Sem.run_bind,dQ d,Result.andThen_ok,Sem.run_pure,a],fun i=>?_⟩
   cases i with
   |zero=>simp[d]
   |succ i=>simpa using b i
 obtain⟨ps,a,b⟩:=key fields.toList h;refine⟨ps.toArray,?_,fun i=>by simpa using b i⟩
 rw[Array.mapM_eq_mapM_toList,Sem.run_map,a];rfl
def NZ{e:Operand->Value}{t:Nat}(J:∀p∈aT.toList,aS G ae w (e p.2) (ρ p.2))(h:plain P (.build t aT) an k ρ=some (a,l)):Plain P G ae w (do pure (.value (<-Instr.build t (aT.map fun(i,x)=>(i,e x))))) a:=by
 simp only[plain]at h;split at h<;>try(simp at h;done)
 rename_i z pl K b;obtain⟨M,D,g⟩:=bc.1 h;simp only[aA]at g;obtain⟨rfl,rfl⟩:=g;obtain⟨o,y,T,r⟩:=yY K;obtain⟨c,j,q,s⟩:=GA (e:=e) aT.toList o.cells z M D (r _ _ _) T J;have u:(aT.map fun(i,x)=>(i,e x)).toList=aT.toList.map fun p=>(p.1,e p.2):=by simp
 unfold placesOf at b;split at b
 .rename_i fields d
  split at b<;>try(simp at b;done)
  rename_i X;simp only[ay]at b;subst b;obtain⟨places,E,H⟩:=x4 X w;have Y:(fun i:Nat=>places[i]?)=(fun i:Nat=>match fields[i]? with|some f=>(cw P f.type).map fun n=>(f.offset,n)|none=>none):=funext H
  have Q:Instr.fill (fun i:Nat=>places[i]?) o.cells (aT.toList.map fun p=>(p.1,e p.2))=some c:=by rw[Y];exact j
  refine .pure (bK (v:=.agg c) _ ?_) (q.B8 s);simp only[Instr.build,Sem.run_bind,y,Result.andThen_ok,run_underlying d,E,u,Q];rfl
 .rename_i n elem d
  obtain⟨m,I,rfl⟩:=bc.1 b;refine .pure (bK (v:=.agg c) _ ?_) (q.B8 s);simp only[Instr.build,Sem.run_bind,y,Result.andThen_ok,run_underlying d,dQ I,u,j];rfl
 .simp at b
def uU{e:Operand->Value}{t:Nat}(f:aS G ae w (e x) (ρ x))(h:plain P (.makeInterface t x) an k ρ=some (a,l)):Plain P G ae w (do pure (.value (<-Instr.makeInterface t (e x)))) a:=by
 simp only[plain]at h;have run:∀d,P.underlying t=some d->(∀ms,d≠.interface ms)->(Instr.makeInterface t (e x)).run P w = .ok (.iface t (e x)) w:=by
  intro d b g;cases d<;>first|(exact absurd rfl (g _))|simp[Instr.makeInterface,run_underlying b]
 split at h<;>try(simp at h;done)
 .rename_i c
  split at h<;>try(simp at h;done)
  rename_i cs j;simp only[ay,aA]at h;obtain⟨rfl,rfl⟩:=h;refine .pure (bK _ (run _ c (by simp))) ?_
  rw[j]at f;generalize e x=V at f;cases f with
  |agg i h=>exact .B9 i h
 .rename_i d m n c
  simp only[ay,aA]at h;obtain⟨rfl,rfl⟩:=h;exact .pure (bK _ (run _ c (fun ms b=>m ms b))) (.none _)
def y5{e:Operand->Value}{y t:Nat}(m:aS G ae w (e x) (ρ x))(h:plain P (.typeAssert x y t ok) an k ρ=some (a,l))(u:∀q∈l,q):Plain P G ae w (do pure (.value (<-Instr.typeAssert (e x) y t ok))) a:=by
 cases k<;>simp only[plain]at h<;>try(simp at h;done)
 rename_i o;generalize ρ x=A at m h;generalize e x=V at m⊢;split at h<;>try(simp at h;done)
 .rename_i i H g
  split at h<;>try(simp at h;done)
  .rename_i cs
   simp only[ay,aA]at h;obtain⟨rfl,rfl⟩:=h;have f:i=some (t,cs):=u _ (by simp)
   subst f;cases m with
   |@B9 _ s _ p n=>
    refine .pure (v:=.tuple #[.agg s,.bool true]) (bK _ ?_) (.xZ rfl fun j v b d c=>?_)
    .simp[Instr.typeAssert,run_underlying g]
    .match j with
     |0=>simp at d c;subst d;subst c;exact .agg p n
     |1=>simp at d c;subst d;subst c;exact .ma _
     |j+2=>simp at c
  .rename_i z J
   simp only[ay,aA]at h;obtain⟨rfl,rfl⟩:=h;have f:∀cs,i≠some (t,cs):=u _ (by simp)
   obtain⟨r,D,M⟩:=Ce J;have E:=lP r G ae w;rw[<-M]at E;refine .pure (v:=.tuple #[r,.bool false]) (bK _ ?_) (.xZ rfl fun j v b d c=>?_)
   .cases m with
    |qN=>simp[Instr.typeAssert,run_underlying g,D]
    |@B9 K s ps p n=>
     have:K≠t:=fun I=>f ps (by rw[I])
     simp[Instr.typeAssert,run_underlying g,D,this]
   .match j with
    |0=>simp at d c;subst d;subst c;exact E
    |1=>simp at d c;subst d;subst c;exact .ma _
    |j+2=>simp at c
 .rename_i i H g
  split at h<;>try(simp at h;done)
  rename_i cs;simp only[ay,aA]at h;obtain⟨rfl,rfl⟩:=h;have f:i=some (t,cs):=u _ (by simp)
  subst f;cases m with
  |@B9 _ s _ p n=>exact .pure (v:=.agg s) (bK _ (by simp[Instr.typeAssert,run_underlying g])) (.agg p n)
end
section
variable {P:Program} {w0:World} {aR:Nat->Nat} {O:Nat->Prop} {G:Gh} {ae:List (Option Nat)} {heap:List Bx} {w:World}
def Hd.on(b:Nat):Hd->Prop
 |.box b'=>b'=b
 |.cell b' _=>b'=b
 |.ov b' _=>b'=b
 |.tok _=>False
def cq.low(k:cq G ae w a bz w'):cq G [] w a [] w':=
 ⟨k.grow,k.bD,k.val,ar _,fun t n h _=>by simp at h⟩
def eO.bF(h:eO G w x v a)(k:cq G [] w b [] w')(d:∀n,G.h x=some n->b.h x=some n/\b.bX n=G.bX n/\w'.heap[n]?=w.heap[n]?):eO b w' x v a:=by
 refine⟨h.1,?_⟩;have c:=h.2;cases a with
 |ke n aj=>
  obtain⟨A,len,cap,e,f,g⟩:=c;exact⟨A,len,cap,e,f.grow k.grow,g.bF d⟩
 |_=>exact aS.bF k c
def mM(h:∀ps,a≠.agg ps):oS G w x v a<->eO G w x v a:=by
 cases a<;>first|exact absurd rfl (h _)|exact Iff.rfl
def oS.bF(h:oS G w x v a)(k:cq G [] w b [] w')(e:∀n,G.h x=some n->b.h x=some n/\b.bX n=G.bX n/\w'.heap[n]?=w.heap[n]?):oS b w' x v a:=by
 by_cases c:∃ps,a = .agg ps
 .obtain⟨ps,rfl⟩:=c
  exact aS.bF k h
 .have d:∀ps,a≠.agg ps:=fun ps h=>c ⟨ps,h⟩
  exact(mM d).2 (((mM d).1 h).bF k e)
def gH.bF(h:gH P G w b bx)(k:cq G [] w m [] w')(J:bx = .free->¬m.bD b)(u:∀x n,x.on b->G.h x=some n->m.h x=some n/\m.bX n=G.bX n/\w'.heap[n]?=w.heap[n]?):gH P m w' b bx:=by
 cases bx with
 |cells cs=>
  obtain⟨g,X,elem,c,s,z,r,y,E,l⟩:=h;obtain⟨o,D,q⟩:=u (.box b) g rfl s;exact⟨g,X,elem,k.bD _ c,o,(k.val _ c).trans z,q.trans r,y,D.trans E,fun j v a d f=>(l j v a d f).bF k fun n H=>u _ n rfl H⟩
 |bn n aj=>
  obtain⟨c,I,h|⟨d,A,f⟩⟩:=h
  .obtain⟨g,X,elem,cap,s,z,Q,r,y,E,l⟩:=h
   obtain⟨o,D,q⟩:=u (.box b) g rfl s;exact⟨k.bD _ c,I,.inl ⟨g,X,elem,cap,o,(k.val _ c).trans z,Q,q.trans r,y,D.trans E,fun i j v p d f=>(l i j v p d f).grow k.grow⟩⟩
  .exact⟨k.bD _ c,I,.inr ⟨d,A,(k.val _ c).trans f⟩⟩
 |uK n aj=>exact⟨k.bD _ h.1,by rw[k.val _ h.1];exact h.2.grow k.grow⟩
 |map t Y=>
  obtain⟨g,T,clock,c,s,z,r,y,K,M,l⟩:=h;obtain⟨o,D,q⟩:=u (.box b) g rfl s;exact⟨g,T,clock,k.bD _ c,o,(k.val _ c).trans z,q.trans r,y,K,M,fun i e x d f=>⟨((l i e x d f).1).grow k.grow,(l i e x d f).2.bF k fun n H=>u _ n rfl H⟩⟩
 |dead=>exact k.bD _ h
 |free=>exact J rfl
def lQ(P:Program)(w0:World)(aR:Nat->Nat)(O:Nat->Prop)(G:Gh)(ae:List (Option Nat))(w:World)(a:AV)(bz:List (Option Nat))(c:List Bx)(v:Value)(b:Gh)(w':World):Prop:=
 aS b bz w' v a/\Inv P w0 aR O b c w'/\cq G ae w b bz w'
def Gh.dM(G:Gh)(σ:Hd->Option Hd):Gh:={G with h:=fun x=>(σ x).bind G.h}
def Inv.ghost(c:Inv P w0 aR O G heap w)(σ:Hd->Option Hd)(l:∀x y z,σ x=some z->σ y=some z->x=y){g:Nat->Value}{e:Nat->Prop}{a:List Bx}
  (m:∀b,e b->b<a.length)(p:∀(b:Nat)bx,a[b]?=some bx->gH P ⟨G.bX,(G.dM σ).h,g,e⟩ w b bx)
  (q:∀(b:Nat)n,a[b]?=some .free->(G.dM σ).h (.box b)≠some n):Inv P w0 aR O ⟨G.bX,(G.dM σ).h,g,e⟩ a w where
 frame:=c.frame
 nb:=m
 box:=p
 inj:=fun x y n i j=>by
  obtain⟨u,f,d⟩:=cV.1 i;obtain⟨v,k,o⟩:=cV.1 j;obtain rfl:=c.inj _ _ _ d o;exact l _ _ _ f k
 nO:=fun x n h=>by
  obtain⟨u,f,d⟩:=cV.1 h;exact c.nO _ _ d
 dead:=q
def cq.ghost(σ:Hd->Option Hd){c:Nat->Value}{d:Nat->Prop}{bz:List (Option Nat)}(l:∀b,G.bD b->d b)(k:∀b,G.bD b->c b=G.val b)(hlen:ae.length<=bz.length)
  (j:∀(t:Nat)n,bz[t]?=some (some n)->t<ae.length->∃m,ae[t]?=some (some m)/\(m<n\/(m=n/\σ (.tok t)=some (.tok t)))):
  cq G ae w ⟨G.bX,(G.dM σ).h,c,d⟩ bz w where
 grow:=Grow.refl _ _
 bD:=l
 val:=k
 len:=hlen
 tok:=fun t n e f=>by
  obtain⟨m,a,h|⟨h,i⟩⟩:=j t n e f
  .exact⟨m,a,.inl h⟩
  .exact⟨m,a,.inr ⟨h,fun b g=>⟨by simp[Gh.dM,i,g],rfl,rfl⟩⟩⟩
def gH.dM(h:gH P G w b bx)(j:∀b,G.bD b->a b)(i:∀b,G.bD b->c b=G.val b)(d:bx = .free->¬a b)(f:∀x,x.on b->σ x=some x):gH P ⟨G.bX,(G.dM σ).h,c,a⟩ w b bx:=
 h.bF ⟨Grow.refl _ _,j,i,ar _,fun t n h _=>by simp at h⟩ d fun x n g e=>⟨by simp[Gh.dM,f x g,e],rfl,rfl⟩
def kV(a:Nat->Nat)(b m:Nat):Nat->Nat:=fun x=>if x=b then m else a x
def fU(a:Nat->Nat)(b m:Nat):kV a b m b=m:=by simp[kV]
def rb(a:Nat->Nat)(m:Nat)(h:x≠b):kV a b m x=a x:=by simp[kV,h]
def y6(w:World)(o:Obj)(b x:Nat)(h:b<w.heap.size):(w.alloc o).cell? ⟨b,x,none⟩=w.cell? ⟨b,x,none⟩:=by
 simp only[World.cell?,heap_alloc_old w o b h]
def y7(w:World)(c:Array Value)(t:TypeId)(x:Nat):(w.alloc (.cells c t)).cell? ⟨w.heap.size,x,none⟩=c[x]?:=by
 simp only[World.cell?,heap_alloc_new];simp
def size_alloc(w:World)(o:Obj):(w.alloc o).heap.size=w.heap.size+1:=by show(w.heap.push o).size=_;simp
def Inv.JI(c:Inv P w0 aR O G heap w)(h:o<G.bX b):b<w.heap.size:=by
 rcases bY b w.heap.size with a|a
 .exact a
 .rw[c.frame.xr b a]at h;omega
def Inv.JJ(c:Inv P w0 aR O G heap w)(o:Obj)(m:Nat):Grow G.bX w (kV G.bX w.heap.size m) (w.alloc o):=by
 refine⟨fun b=>?_,fun b x h=>y6 w o b x (c.JI h)⟩
 by_cases a:b=w.heap.size
 .rw[a,c.frame.xr _ (ar _)];exact dV _
 .rw[rb _ _ a];exact ar _
def Inv.PW(a:Inv P w0 aR O G heap w)(o:Obj)(m:Nat)(e:Hd){bz:List (Option Nat)}:
  let c:Gh:=⟨kV G.bX w.heap.size m,fun x=>open Classical in if x=e then some w.heap.size else G.h x,G.val,G.bD⟩
  (ae.length<=bz.length)->(∀(t:Nat)n,bz[t]?=some (some n)->t<ae.length->∃m,ae[t]?=some (some m)/\(m<n\/(m=n/\e≠.tok t)))->
  (∀b,e.on b->heap[b]?=some .free)->
  cq G ae w c bz (w.alloc o)/\(∀(b:Nat)bx,heap[b]?=some bx->gH P c (w.alloc o) b bx)/\m4 w0 aR O (w.alloc o) c.bX /\
   (∀x y n,c.h x=some n->c.h y=some n->x=y)/\(∀x n,c.h x=some n->n<(w.alloc o).heap.size/\(n<w0.heap.size->O n)):=by
 intro c hlen H I;have z:=a.JJ o m;have same:∀x n,x≠e->G.h x=some n->c.h x=some n/\c.bX n=G.bX n/\(w.alloc o).heap[n]?=w.heap[n]?:=by
  intro x n v j;have u:=(a.nO _ _ j).1;exact⟨by simp[c,v,j],rb _ _ (by omega),heap_alloc_old w o n u⟩
 have k:cq G ae w c bz (w.alloc o):=by
  refine⟨z,fun _ h=>h,fun _ _=>rfl,hlen,fun t n h u=>?_⟩
  obtain⟨m,r,l|⟨l,v⟩⟩:=H t n h u
  .exact⟨m,r,.inl l⟩
  .exact⟨m,r,.inr ⟨l,fun b d=>same _ _ (fun s=>v s.symm) d⟩⟩
 refine⟨k,fun b bx d=>?_,⟨?_,a.frame.os,a.frame.tape,a.frame.output,fun b d E=>?_,a.frame.grow.trans z,fun b d=>?_,a.frame.laid⟩,fun x y n p q=>?_,fun x n h=>?_⟩
 .by_cases D:e.on b
  .have i:=I b D
   rw[i]at d;obtain rfl:=ax d;exact a.box b _ i
  .exact(a.box b bx d).bF k.low (fun i=>by subst i;exact a.box b _ d) fun x n J j=>same x n (fun s=>D (s▸J)) j
 .rw[size_alloc];have:=a.frame.size;omega
 .have K:=a.frame.size
  obtain⟨f,g⟩:=a.frame.Ej b d E;exact⟨(heap_alloc_old w o b (by omega)).trans f,(rb _ _ (by omega)).trans g⟩
 .rw[size_alloc]at d
  show kV _ _ _ _=0
  rw[rb _ _ (by omega)]
  exact a.frame.xr b (by omega)
 .by_cases f:x=e<;>by_cases g:y=e<;>simp[c,f,g]at p q
  .rw[f,g]
  .have:=(a.nO _ _ q).1;omega
  .have:=(a.nO _ _ p).1;omega
  .exact a.inj _ _ _ p q
 .rw[size_alloc]
  by_cases f:x=e<;>simp[c,f]at h
  .subst h
   have:=a.frame.size;exact⟨by omega,fun h=>by omega⟩
  .have:=a.nO _ _ h
   exact⟨by omega,this.2⟩
def Inv.JK(f:Inv P w0 aR O G heap w)(o:Obj)(m t:Nat){bz:List (Option Nat)}:
  let c:Gh:=⟨kV G.bX w.heap.size m,fun x=>open Classical in if x = .tok t then some w.heap.size else G.h x,G.val,G.bD⟩
  (ae.length<=bz.length)->(∀(a:Nat)n,bz[a]?=some (some n)->a<ae.length->∃m,ae[a]?=some (some m)/\(m<n\/(m=n/\a≠t)))->
  Inv P w0 aR O c heap (w.alloc o)/\cq G ae w c bz (w.alloc o):=by
 intro c hlen u;obtain⟨p,i,f1,l,q⟩:=f.PW (ae:=ae) (bz:=bz) o m (.tok t) hlen (fun a n j k=>by
  obtain⟨m,g,h|⟨h,s⟩⟩:=u a n j k
  .exact⟨m,g,.inl h⟩
  .exact⟨m,g,.inr ⟨h,fun e=>s (by simpa using e.symm)⟩⟩) (fun b d=>by simp[Hd.on]at d)
 exact⟨⟨f1,f.nb,i,l,q,fun b n d=>by simpa[c]using f.dead b n d⟩,p⟩
def Inv.write(c:Inv P w0 aR O G heap w)(s:G.h d=some n)(q:w'.heap.size=w.heap.size)(X:w'.os=w.os)(Y:w'.tape=w.tape)(Z:w'.output=w.output)(i:∀m,m≠n->w'.heap[m]?=w.heap[m]?/\hK m=G.bX m)(A:G.bX n<=hK n)(C:∀o,o<G.bX n->w'.cell? ⟨n,o,none⟩=w.cell? ⟨n,o,none⟩)(hlen:ae.length<=bz.length)(B:∀(t:Nat)m,bz[t]?=some (some m)->t<ae.length->∃f,ae[t]?=some (some f)/\(f<m\/(f=m/\d≠.tok t))):
  cq G ae w {G with bX:=hK} bz w'/\∀(j:List Bx),j.length=heap.length->(∀b,¬d.on b->j[b]?=heap[b]?)->(∀(b:Nat)bx,d.on b->j[b]?=some bx->bx≠.free/\gH P {G with bX:=hK} w' b bx)->
   Inv P w0 aR O {G with bX:=hK} j w':=by
 have y:Grow G.bX w hK w':=by
  refine⟨fun b=>?_,fun b o h=>?_⟩
  .by_cases a:b=n
   .rw[a];exact A
   .rw[(i b a).2];exact ar _
  .by_cases a:b=n
   .subst a;exact C o h
   .exact World.cell?_of_block (w:=w) (i b a).1
 have same:∀x m,x≠d->G.h x=some m->G.h x=some m/\hK m=G.bX m/\w'.heap[m]?=w.heap[m]?:=by
  intro x m u l;have:m≠n:=fun e=>u (c.inj _ _ _ l (e▸s))
  exact⟨l,(i m this).2,(i m this).1⟩
 have k:cq G ae w {G with bX:=hK} bz w':=by
  refine⟨y,fun _ h=>h,fun _ _=>rfl,hlen,fun t m h r=>?_⟩
  obtain⟨f,D,p|⟨p,u⟩⟩:=B t m h r
  .exact⟨f,D,.inl p⟩
  .exact⟨f,D,.inr ⟨p,fun b a=>same _ _ (fun e=>u e.symm) a⟩⟩
 refine⟨k,fun j T H E=>⟨⟨q▸c.frame.size,X.trans c.frame.os,Y.trans c.frame.tape,Z.trans c.frame.output,fun b a v=>?_,c.frame.grow.trans y,fun b a=>?_,c.frame.laid⟩,fun b a=>T▸c.nb b a,fun b bx a=>?_,c.inj,fun x m h=>q▸c.nO x m h,fun b m a=>?_⟩⟩
 .have F:b≠n:=fun e=>v ((c.nO _ _ s).2 (e▸a) |> fun h=>e▸h)
  obtain⟨I,J⟩:=c.frame.Ej b a v;obtain⟨K,M⟩:=i b F;exact⟨K.trans I,M.trans J⟩
 .have r:=(c.nO _ _ s).1
  rw[q]at a;show hK b=0
  rw[(i b (by omega)).2]
  exact c.frame.xr b a
 .by_cases g:d.on b
  .exact(E b bx g a).2
  .have z:=H b g▸a
   exact(c.box b bx z).bF k.low (fun Q=>by subst Q;exact c.box b _ z) fun x m R l=>same x m (fun e=>g (e▸R)) l
 .by_cases g:d.on b
  .exact absurd rfl (E b _ g a).1
  .exact c.dead b m (H b g▸a)
def Inv.drew(a:Inv P w0 aR O G heap w):Inv P w0 aR O G heap w.drew/\cq G ae w G ae w.drew:=by
 have k:cq G ae w G ae w.drew:=⟨⟨fun _=>ar _,fun _ _ _=>rfl⟩,fun _ h=>h,fun _ _=>rfl,ar _,fun t n h _=>⟨n,h,.inr ⟨rfl,fun b c=>⟨c,rfl,rfl⟩⟩⟩⟩
 exact⟨⟨⟨a.frame.size,a.frame.os,a.frame.tape,a.frame.output,a.frame.Ej,a.frame.grow.trans k.grow,a.frame.xr,a.frame.laid⟩,a.nb,fun b bx c=>(a.box b bx c).bF k.low (fun d=>by subst d;exact a.box b _ c) fun x n _ e=>⟨e,rfl,rfl⟩,a.inj,a.nO,a.dead⟩,k⟩
def Plain.after(b:Inv P w0 aR O G heap w)(h:Plain P G ae w x a):∃v w',x.run P w = .ok (.value v) w'/\∃e,lQ P w0 aR O G ae w a ae heap v e w':=by
 obtain⟨v,w',c,rfl|rfl,d⟩:=h
 .exact⟨v,_,c,G,d,b,cq.refl _ _ _⟩
 .exact⟨v,_,c,G,d,(b.drew (ae:=ae)).1,b.drew.2⟩
def aS.bare{v:Value}(h:aS G ae w v a)(j:a.simple=true):aS G bz w v a:=by
 cases h with
 |none v=>exact .none _
 |v h=>exact .v h
 |agg e h=>exact .agg e h
 |az b h=>exact .az b h
 |bA b d=>exact .bA b d
 |mp b d=>exact .mp b d
 |qN=>exact .qN
 |B9 e h=>exact .B9 e h
 |@fn f fi o first cap k l m n=>
  have one:∀v a,a∈first++cap->aS G ae w v a->aS G bz w v a:=by
   intro v a c h;have:=bf.1 (by simpa[AV.simple]using j) a c
   cases h with
   |v h=>exact .v h
   |az b h=>exact .az b h
   |mp b d=>exact .mp b d
   |_=>simp at this
  exact .fn k l (fun i v a g c=>one v a (ef _ (aK c)) (m i v a g c)) fun i v a g c=>one v a (fD _ (aK c)) (n i v a g c)
 |_=>simp[AV.simple]at j
def BU{a:AV}(h:a.qX=true):a.simple=true:=by
 cases a<;>simp[AV.qX]at h<;>first|rfl|exact h
def aS.Uo{v:Value}(h:aS G ae w v a)(d:a.qX=true):v.oneCell'=true:=by
 cases h with
 |az c h=>rfl
 |bA c b=>exact b
 |mp c b=>exact b
 |qN=>rfl
 |B9 j h=>rfl
 |fn e f g i=>rfl
 |_=>simp[AV.qX]at d
def ku(h:k8 c a T=some (b,e)):
  (∃t d n aj,a = .own t d n aj/\T[t]?=some (some d)/\b = .ke n aj/\e=T.set t none/\k8 c a []=some (.v (.sl n aj),[])) \/
  (e=T/\k8 c a []=some (b,[])):=by
 unfold k8 at h⊢;split at h
 .rename_i t d n aj
  split at h
  .rename_i f
   simp only[ay,aA]at h;obtain⟨rfl,rfl⟩:=h;exact .inl ⟨t,d,n,aj,rfl,aU f,rfl,rfl,by simp⟩
  .simp only[ay,aA]at h
   obtain⟨rfl,rfl⟩:=h;exact .inr ⟨rfl,by simp⟩
 .right
  rename_i p;cases c<;>simp only at h⊢ <;> (try(simp only[ay,aA]at h;obtain⟨rfl,rfl⟩:=h;exact⟨rfl,rfl⟩))
  split at h<;>simp only[ay,aA]at h<;>obtain⟨rfl,rfl⟩:=h<;>simp
 .right
  split at h<;>try(simp at h;done)
  rename_i g;simp only[ay,aA]at h;obtain⟨rfl,rfl⟩:=h;exact⟨rfl,by simp⟩
def lR(h:k8 c a T=some (b,g))(l:T=[])(e:aS G ae w v a):v.oneCell'=true/\eO G w x v b/\g=[]:=by
 subst l;unfold k8 at h;split at h
 .rename_i t o n aj
  simp only[List.getElem?_nil,reduceCtorEq,decide_false,ay,aA]at h;obtain⟨rfl,rfl⟩:=h;have:=e.pv (p:=.sl n aj) rfl;exact⟨this.gm,⟨this.gm,.v this⟩,rfl⟩
 .rename_i p
  have d:cm G.bX w v p:=e.pv rfl;have k:∀q,cm G.bX w v q->eO G w x v (.v q):=fun q j=>⟨j.gm,.v j⟩
  cases c<;>simp only at h<;>try(simp only[ay,aA]at h;obtain⟨rfl,rfl⟩:=h;exact⟨d.gm,k _ d,rfl⟩)
  split at h<;>simp only[ay,aA]at h<;>obtain⟨rfl,rfl⟩:=h
  .refine⟨d.gm,⟨d.gm,?_⟩,rfl⟩
   cases d;exact⟨none,0,0,rfl,.m3 _,fun m=>by omega⟩
  .exact⟨d.gm,k _ d,rfl⟩
 .split at h<;>try(simp at h;done)
  rename_i f;simp only[ay,aA]at h;obtain⟨rfl,rfl⟩:=h;have i:=e.Uo f;refine⟨i,⟨i,?_⟩,rfl⟩;have:=e.bare (bz:=[]) (BU f);cases a<;>simp[AV.qX]at f<;>exact this
def nY:∀(g:List AV)(e:List CT)(T:List (Option Nat))(d:List AV)(f:List (Option Nat)),cellsIn e g T=some (d,f)->∃c,cellsIn e g []=some (c,[])/\c.length=d.length/\(T=[]->c=d/\f=[])
 |[],e,T,d,f,h=>by simp[cellsIn]at h;obtain⟨rfl,rfl⟩:=h;exact⟨[],by simp[cellsIn],rfl,fun h=>⟨rfl,h⟩⟩
 |a::g,e,T,d,f,h=>by
  simp only[cellsIn]at h;split at h<;>try(simp at h;done)
  rename_i b m p;split at h<;>try(simp at h;done)
  rename_i s T2 u;simp only[ay,aA]at h;obtain⟨rfl,rfl⟩:=h;obtain⟨c,k,l,o⟩:=nY g e.tail m s T2 u;rcases ku p with⟨t,v,n,aj,rfl,q,rfl,rfl,i⟩|⟨rfl,i⟩
  .refine⟨.v (.sl n aj)::c,by simp only[cellsIn,i,k],by simp[l],fun j=>?_⟩
   subst j;simp at q
  .refine⟨b::c,by simp only[cellsIn,i,k],by simp[l],fun j=>?_⟩
   obtain⟨rfl,rfl⟩:=o j;exact⟨rfl,rfl⟩
def kv:∀(d:List AV)(f:List CT)(e:List AV),cellsIn f d []=some (e,[])->e.length=d.length/\∀(i:Nat)(b:AV),e[i]?=some b->∃a c,d[i]?=some a/\k8 c a []=some (b,[])
 |[],f,e,h=>by simp[cellsIn]at h;subst h;simp
 |a::d,f,e,h=>by
  simp only[cellsIn]at h;split at h<;>try(simp at h;done)
  rename_i b k j;have q:k=[]:=by
   rcases ku j with⟨t,u,n,aj,rfl,o,_⟩|⟨rfl,_⟩
   .simp at o
   .rfl
  subst q;split at h<;>try(simp at h;done)
  rename_i p T2 s;simp only[ay,aA]at h;obtain⟨rfl,rfl⟩:=h;obtain⟨l,m⟩:=kv d f.tail p s;refine⟨by simp[l],fun i b' g=>?_⟩
  cases i with
  |zero=>simp at g;subst g;exact⟨a,_,rfl,j⟩
  |succ i=>simp at g;simpa using m i b' g
def aS.aT{v:Value}(h:aS G ae w v a)(j:cellsIn t a.cells []=some (g,[])):nX G ae w v.cells a.cells:=by
 obtain⟨_,n⟩:=kv _ _ _ j;have one:∀{v:Value}{a:AV},aS G ae w v a->v.oneCell'=true->nX G ae w v.cells [a]:=by
  intro v a h f;rw[ow f];refine⟨rfl,fun i u q e d=>?_⟩
  cases i with
  |zero=>simp at e d;subst e;subst d;exact⟨f,h⟩
  |succ i=>simp at d
 by_cases l:(∃ps,a = .agg ps)\/∃cs,a = .D8 cs
 .rcases l with⟨ps,rfl⟩|⟨cs,rfl⟩
  .cases h with
   |agg k h=>
    refine⟨by simp[Value.cells,AV.cells,k],fun i u q e d=>?_⟩
    simp only[AV.cells,bu]at d;obtain⟨p,s,rfl⟩:=bc.1 d;have:=h i u p (by simpa[Value.cells]using e) s
    exact⟨this.gm,.v this⟩
  .cases h with
   |D8 k D f h=>exact⟨k,fun i u q e d=>⟨f i u (by simpa[Value.cells]using e),h i u q (by simpa[Value.cells]using e) d⟩⟩
 .have z:a.cells=[a]:=by
   cases a<;>first|rfl|exact absurd (.inl ⟨_,rfl⟩) l|exact absurd (.inr ⟨_,rfl⟩) l
  rw[z]at j n⊢;have r:g.length=1:=by rw[(kv _ _ _ j).1];rfl
  obtain⟨b,o⟩:∃b,g[0]?=some b:=⟨_,bo (by omega)⟩
  obtain⟨a',c,m,y⟩:=n 0 b o;simp at m;subst m;exact one h (lR (x:=.tok 0) y rfl h).1
def toCell(b j t:Nat):Hd->Option Hd
 |.cell b' a=>if b'=b/\a=j then some (.tok t)else some (.cell b' a)
 |.tok c=>if c=t then none else some (.tok c)
 |x=>some x
def JL(b j t:Nat):∀x y z,toCell b j t x=some z->toCell b j t y=some z->x=y:=by
 intro x y z a c;cases x<;>cases y<;>simp only[toCell]at a c<;>(try split at a)<;>(try split at c)<;>(try cases a)<;>(try cases c)<;>simp_all
def Inv.Up(f:Inv P w0 aR O G heap w)(p:heap[b]?=some (.cells cs))(H:∀l X elem,G.h (.box b)=some l->w.heap[l]?=some (.cells X elem (0,0))->X[j]?=some u)(z:ae[t]?=some (some E))(F:aS G ae w u (.own t E n aj))(M:j<cs.length):
  ∃o,Inv P w0 aR O o (heap.set b (.cells (cs.set j (.ke n aj)))) w/\cq G ae w o (ae.set t none) w/\o.h (.box b)=G.h (.box b):=by
 have U:=(aE.1 z).1;have y:cq G ae w ⟨G.bX,(G.dM (toCell b j t)).h,G.val,G.bD⟩ (ae.set t none) w:=by
  refine .ghost _ (fun _ h=>h) (fun _ _=>rfl) (by simp) fun N m d k=>?_
  rw[iS]at d;split at d
  .simp at d
  .rename_i C
   exact⟨m,d,.inr ⟨rfl,by simp only[toCell];rw[aN (fun e=>C e.symm)]⟩⟩
 refine⟨_,f.ghost (toCell b j t) (JL b j t) (fun b' h=>by rw[ft];exact f.nb b' h) (fun b' bx c=>?_) (fun b' m c=>?_),y,by simp[Gh.dM,toCell]⟩
 .by_cases g:b'=b
  .subst g
   rw[bU (aE.1 p).1]at c;obtain rfl:=ax c;obtain⟨l,X,elem,J,D,R,r,Z,Q,I⟩:=f.box _ _ p;refine⟨l,X,elem,J,by simp[Gh.dM,toCell,D],R,r,by simp[Z],Q,fun i v a d k=>?_⟩
   by_cases s:j=i
   .subst s
    rw[bU M]at k;obtain rfl:=ax k;have L:v=u:=by have:=H _ _ _ D r;rw[d]at this;exact ax this
    subst L;cases F with
    |@own _ _ _ _ A len cap V S T Y=>
     refine⟨rfl,A,len,cap,rfl,T,?_⟩;exact(Y z).bF fun m q=>⟨by simp[Gh.dM,toCell,q],rfl,rfl⟩
   .rw[bT s]at k
    refine(I i v a d k).bF y.low fun m q=>⟨?_,rfl,rfl⟩
    simp only[Gh.dM,toCell,true_and];rw[aN (fun e=>s e.symm)]
    exact q
  .rw[bT (fun e=>g e.symm)]at c
   refine(f.box b' bx c).dM (fun _ h=>h) (fun _ _=>rfl) (fun K=>by subst K;exact f.box _ _ c) fun x B=>?_
   cases x<;>simp only[Hd.on]at B<;>subst_vars<;>simp[toCell,g]
 .by_cases g:b'=b
  .subst g
   rw[bU (aE.1 p).1]at c;simp at c
  .rw[bT (fun e=>g e.symm)]at c
   have:=f.dead b' m c;simpa[Gh.dM,toCell]using this
def Inv.uV:∀(j:List AV)(k:List CT)(v p:List AV)(off:Nat)(G:Gh)(ae bz:List (Option Nat))(heap:List Bx)(cs:List AV){b:Nat},
  Inv P w0 aR O G heap w->heap[b]?=some (.cells cs)->cellsIn k j []=some (v,[])->cellsIn k j ae=some (p,bz)->(∀(i:Nat)y,v[i]?=some y->cs[off+i]?=some y)->
  (∀I X elem,G.h (.box b)=some I->w.heap[I]?=some (.cells X elem (0,0))->∀(i:Nat)a,j[i]?=some a->∃u,X[off+i]?=some u/\aS G ae w u a)->
  ∃x,Inv P w0 aR O x (heap.set b (.cells (putAt cs off p))) w/\cq G ae w x bz w/\x.h (.box b)=G.h (.box b)
 |[],k,v,p,off,G,ae,bz,heap,cs,b,l,f,c,h,o,q=>by
  simp[cellsIn]at h;obtain⟨rfl,rfl⟩:=h;refine⟨G,?_,cq.refl _ _ _,rfl⟩;have:heap.set b (.cells (putAt cs off []))=heap:=by
   apply fe;intro i;rw[iS];split
   .subst_vars;rw[f];simp[putAt,(aE.1 f).1]
   .rfl
  rw[this];exact l
 |a::j,k,v,p,off,G,ae,bz,heap,cs,b,l,f,c,h,o,q=>by
  simp only[cellsIn]at h c;split at h<;>try(simp at h;done)
  rename_i y T1 m;split at h<;>try(simp at h;done)
  rename_i F T2 C;simp only[ay,aA]at h;obtain⟨rfl,rfl⟩:=h;split at c<;>try(simp at c;done)
  rename_i Z T3 B;split at c<;>try(simp at c;done)
  rename_i L T4 U;simp only[ay,aA]at c;obtain⟨rfl,rfl⟩:=c;have a0:=(aE.1 f).1;rcases ku m with⟨t,a3,n,aj,rfl,ht,rfl,rfl,g⟩|⟨rfl,g⟩
  .rw[B]at g
   simp only[ay,aA]at g;obtain⟨rfl,rfl⟩:=g;have S:=o 0 _ rfl;simp only[iC]at S;have hj:=(aE.1 S).1;obtain⟨I,X,elem,_,A,_,T,_⟩:=l.box _ _ f;obtain⟨u,R,a1⟩:=q _ _ _ A T 0 _ rfl;simp only[iC]at R;obtain⟨W,i1,Y,Q⟩:=l.Up f (fun N M V d e=>by
    rw[A]at d;obtain rfl:=ax d;rw[T]at e;simp only[ay,Obj.cells.injEq]at e;obtain⟨rfl,_⟩:=e;exact R) ht a1 hj
   obtain⟨z,s,E,r⟩:=Inv.uV j k.tail L F (off+1) W (ae.set t none) T2 _ (cs.set off (.ke n aj)) (b:=b) i1 (bU a0) U C
    (fun i y m=>by
     have:=o (i+1) y (by simpa using m)
     rw[bT (by omega),show off+1+i=off+(i+1) by omega]
     exact this)
    fun N M V d e i a D=>by
     rw[Q]at d;obtain⟨H,J,K⟩:=q _ _ _ d e (i+1) a (by simpa using D)
     exact⟨H,by rw[show off+1+i=off+(i+1) by omega];exact J,K.bF Y⟩
   rw[qS]at s;exact⟨z,s,Y.trans E,r.trans Q⟩
  .rw[B]at g
   simp only[ay,aA]at g;obtain⟨rfl,rfl⟩:=g;have a2:cs.set off Z=cs:=by
    apply fe;intro i;rw[iS];split
    .subst_vars
     have:=o 0 Z rfl;simp only[iC]at this;rw[this];simp[(aE.1 this).1]
    .rfl
   obtain⟨z,s,E,r⟩:=Inv.uV j k.tail L F (off+1) G T1 T2 heap cs (b:=b) l f U C
    (fun i y m=>by
     have:=o (i+1) y (by simpa using m)
     rw[show off+1+i=off+(i+1) by omega]
     exact this)
    fun N M V d e i a D=>by
     obtain⟨H,J,K⟩:=q _ _ _ d e (i+1) a (by simpa using D)
     exact⟨H,by rw[show off+1+i=off+(i+1) by omega];exact J,K⟩
   refine⟨z,?_,E,r⟩;rw[putAt,a2];exact s
def iG(a:cx nb [x] heap=some h):heap[nb]?=some .free/\h=heap.set nb x:=by
 simp only[cx]at a;split at a<;>try(simp at a;done)
 rename_i b;simp only[ay]at a;exact⟨b,a.symm⟩
def Inv.wj(g:Inv P w0 aR O G heap w)(o:Obj)(m:Nat)(j:Value)(bx:Bx){nb:Nat}(f:heap[nb]?=some .free)(v:bx≠.free):
  let c:Gh:=⟨kV G.bX w.heap.size m,fun x=>open Classical in if x = .box nb then some w.heap.size else G.h x,fun b=>if b=nb then j else G.val b,fun b=>G.bD b\/b=nb⟩
  (cq G ae w c ae (w.alloc o)->gH P c (w.alloc o) nb bx)->
  Inv P w0 aR O c (heap.set nb bx) (w.alloc o)/\cq G ae w c ae (w.alloc o):=by
 intro c z;have r:¬G.bD nb:=g.box _ _ f;obtain⟨s,l,f1,q,u⟩:=g.PW (ae:=ae) (bz:=ae) o m (.box nb) (ar _) (fun t n h _=>⟨n,h,.inr ⟨rfl,by simp⟩⟩) (fun b a=>by simp only[Hd.on]at a;subst a;exact f)
 have i:∀T:List (Option Nat),cq ⟨kV G.bX w.heap.size m,fun x=>open Classical in if x = .box nb then some w.heap.size else G.h x,G.val,G.bD⟩ T (w.alloc o) c T (w.alloc o):=by
  intro T;refine⟨Grow.refl _ _,fun b h=>.inl h,fun b h=>?_,ar _,fun t n h _=>⟨n,h,.inr ⟨rfl,fun b a=>⟨a,rfl,rfl⟩⟩⟩⟩
  have a:b≠nb:=fun e=>r (e▸h)
  show(if b=nb then j else G.val b)=G.val b
  rw[aN a]
 have k:=s.trans (i ae);refine⟨⟨f1,fun b a=>?_,fun b uP a=>?_,q,u,fun b n a=>?_⟩,k⟩
 .rw[ft]
  rcases a with a|rfl
  .exact g.nb b a
  .exact(aE.1 f).1
 .by_cases d:b=nb
  .subst d
   rw[bU (aE.1 f).1]at a;obtain rfl:=ax a;exact z k
  .rw[bT (fun e=>d e.symm)]at a
   refine(l b uP a).bF (i []) (fun y=>?_) fun x n _ p=>⟨p,rfl,rfl⟩
   subst y;have:=g.box _ _ a;rintro(h|h)
   .exact this h
   .exact d h
 .by_cases d:b=nb
  .subst d
   rw[bU (aE.1 f).1]at a;exact absurd (ax a) v
  .rw[bT (fun e=>d e.symm)]at a
   have:=g.dead b n a;simpa[c,d]using this
def Inv.GB(r:Inv P w0 aR O G heap w){nb:Nat}(g:nX G ae w X n)(h:cellsIn I n T=some (o,t))(p:(T=ae/\bz=t)\/(T=[]/\bz=ae))(Q:cx nb [.cells o] heap=some u):
  ∃m,aS m bz (w.alloc (.cells X elem)) (.pointer (some ⟨w.heap.size,0,none⟩)) (.az nb 0)/\Inv P w0 aR O m u (w.alloc (.cells X elem))/\cq G ae w m bz (w.alloc (.cells X elem)):=by
 obtain⟨K,rfl⟩:=iG Q;obtain⟨d,x,B,Z⟩:=nY _ _ _ _ _ h;obtain⟨D,R⟩:=kv _ _ _ x;have C:=(aE.1 K).1;obtain⟨E,q⟩:=r.wj (ae:=ae) (.cells X elem) 0 (.pointer (some ⟨w.heap.size,0,none⟩)) (.cells d) K (by simp) (fun k=>by
  refine⟨w.heap.size,X,elem,.inr rfl,by simp,by simp,heap_alloc_new w _,by rw[g.1,D],fU _ _ _,fun j v a f e=>?_⟩
  obtain⟨a',c,F,A⟩:=R j a e;exact(lR A rfl ((g.2 j v a' f F).2.bF k)).2.1)
 rcases p with⟨rfl,rfl⟩|⟨p,rfl⟩;rotate_left
 .obtain⟨rfl,_⟩:=Z p
  refine⟨_,?_,E,q⟩;exact .az (.inr rfl) (aG rfl)
 obtain⟨M,H,s,S⟩:=Inv.uV n I d o 0 _ T bz _ d (b:=nb) E (bU C) x h (fun i y Y=>by simpa using Y) (fun U N V f e i a z=>by
  simp only[if_true]at f;obtain rfl:=ax f;rw[heap_alloc_new]at e;simp only[ay,Obj.cells.injEq]at e;obtain⟨rfl,_⟩:=e;have J:i<X.size:=by rw[g.1];exact(aE.1 z).1
  exact⟨X[i],by simp[J],((g.2 i _ a (cX J) z).2.bF q)⟩)
 have L:∀(l:List AV)(d:List AV),d.length=l.length->putAt d 0 l=l:=by
  intro l d D;apply fe;intro i;rw[hX _ _ _ _ (by omega)]
  by_cases r:i<l.length
  .rw[aG ⟨dV _,by omega⟩];simp
  .rw[aN (by omega),eJ (by omega),eJ (by omega)]
 rw[qS,L _ _ B]at H;refine⟨M,?_,H,q.trans s⟩;exact .az (s.bD _ (.inr rfl)) ((s.val nb (.inr rfl)).trans (by simp))
def aS.ofNil{v:Value}(h:aS G T w v a):T=[]->aS G ae w v a:=by
 intro j;subst j;induction h with
 |none v=>exact .none _
 |v h=>exact .v h
 |agg e h=>exact .agg e h
 |D8 e c d h f=>exact .D8 e c d f
 |own m x h t=>exact absurd m (by simp)
 |az b h=>exact .az b h
 |jr b c h=>exact .jr b c h
 |gg b c h=>exact .gg b c h
 |kX u k l=>exact .kX u k l
 |bA b d=>exact .bA b d
 |mp b d=>exact .mp b d
 |fn g i q s o p=>exact .fn g i o p
 |xZ g i f=>exact .xZ g f
 |qN=>exact .qN
 |B9 e h=>exact .B9 e h
 |opt h n f=>exact .opt f n
def eO.view(h:eO G w x v a):aS G ae w v a.view:=by
 obtain⟨d,b⟩:=h;cases a with
 |ke n aj=>
  obtain⟨A,len,cap,rfl,c,_⟩:=b;exact .v c
 |_=>exact aS.ofNil b rfl
def dF(h:w.heap[a]?=some (.cells X elem b)):w.cell? ⟨a,j,none⟩=X[j]?:=by
 simp[World.cell?,h]
def Cg{t b s off:Nat}(g:w.heap[s]?=some (.cells X elem (0,0)))(H:X.size=cs.length)(k:∀(j:Nat)v a,X[j]?=some v->cs[j]?=some a->eO G w (.cell b j) v a)(h:varOf P t cs off=some a):
  ∃v,(loadVar t ⟨s,off,none⟩).run P w = .ok v w/\aS G ae w v a:=by
 unfold varOf at h;split at h
 .rename_i n e q
  split at h<;>try(simp at h;done)
  rename_i J;obtain⟨ps,E,rfl⟩:=bc.1 h;have y:=tv _ _ E;have hlen:ps.length=n:=by
   have:=congrArg List.length y;simp at this;omega
  refine⟨_,mc e q (u:=fun j=>X.getD (off+j) undef) fun j I=>?_,.PL hlen fun i p o=>?_⟩
  .rw[dF g]
   have:off+j<X.size:=by omega
   simp[this]
  .have D:i<n:=by have:=(aE.1 o).1;omega
   have x:=congrArg (fun l=>l[i]?) y
   simp only[bu,ff,il,aG D,o,de]at x;obtain⟨a,r,z⟩:=bc.1 x;have f:off+i<X.size:=by omega
   have d:X[off+i]?=some X[off+i]:=cX f;have:=(k _ _ _ d r).view (ae:=ae);rw[z]at this;have:=this.pv rfl;simpa[jG,d]using this
 .rename_i e q
  obtain⟨c,m,rfl⟩:=bc.1 h;have f:off<X.size:=by have:=(aE.1 m).1;omega
  have d:X[off]?=some X[off]:=cX f;exact⟨_,hL e (by rw[dF g];exact d),(k _ _ _ d m).view⟩
 .simp at h
def Inv.rh(m:Inv P w0 aR O G heap w)(n:aS G ae w V (.az b off))(l:heap[b]?=some (.cells cs)):
  ∃c X elem,V = .pointer (some ⟨c,off,none⟩)/\G.h (.box b)=some c/\w.heap[c]?=some (.cells X elem (0,0))/\X.size=cs.length/\G.bX c=0/\∀(j:Nat)v a,X[j]?=some v->cs[j]?=some a->eO G w (.cell b j) v a:=by
 cases n with
 |@az _ _ c o h=>
  obtain⟨p,X,elem,_,e,d,f,g,i,k⟩:=m.box _ _ l;rw[h]at d;simp only[Value.pointer.injEq,ay,Addr.mk.injEq,and_true]at d;subst d;exact⟨c,X,elem,rfl,e,f,g,i,k⟩
def GC{t b off:Nat}(g:Inv P w0 aR O G heap w)(k:aS G ae w V (.az b off))(f:heap[b]?=some (.cells cs))(h:varOf P t cs off=some a):
  Plain P G ae w (do pure (.value (<-Instr.loadAt t V))) a:=by
 obtain⟨n,X,elem,rfl,l,c,d,m,e⟩:=g.rh k f;obtain⟨v,j,i⟩:=Cg (P:=P) (ae:=ae) c d e h;exact .pure (jJ j) i
open Classical in
noncomputable def mv(x y:Hd):Hd->Option Hd:=fun z=>if z=y then some x else if z=x then none else some z
def Es(x y:Hd):∀u v z,mv x y u=some z->mv x y v=some z->u=v:=by
 intro u v z a b;simp only[mv]at a b;by_cases c:u=y<;>by_cases d:v=y<;>simp only[c,d,if_true,if_false]at a b⊢
 .exfalso
  split at b
  .simp at b
  .rename_i f;rw[<-a]at b;exact f (ax b)
 .exfalso
  split at a
  .simp at a
  .rename_i e;rw[<-b]at a;exact e (ax a)
 .split at a<;>split at b<;>simp at a b
  rw[a,b]
def sI(x y:Hd):mv x y y=some x:=by simp[mv]
def eh(a:z≠y)(b:z≠x):mv x y z=some z:=by simp[mv,a,b]
def Inv.PX(g:Inv P w0 aR O G heap w)(s:heap[b]?=some (.cells cs))(r:cs[off]?=some (.ke n aj))(D:G.h (.box b)=some l)(I:w.heap[l]?=some (.cells X elem (0,0)))(q:X[off]?=some v):
  ∃T,lQ P w0 aR O G ae w (.own ae.length 0 n aj) (ae++[some 0]) (heap.set b (.cells (cs.set off (.v (.sl n aj))))) v T w:=by
 have K:=(aE.1 s).1;obtain⟨V,S,W,Y,Q,C,p,B,F,M⟩:=g.box _ _ s;rw[D]at Q;obtain rfl:=ax Q;rw[I]at p;simp only[ay,Obj.cells.injEq]at p;obtain⟨rfl,rfl,-⟩:=p;have N:=M off v _ q r;obtain⟨A,len,cap,rfl,H,R⟩:=N.2;have U:(Hd.cell b off)≠.tok ae.length:=by simp
 have E:cq G ae w ⟨G.bX,(G.dM (mv (.cell b off) (.tok ae.length))).h,G.val,G.bD⟩ (ae++[some 0]) w:=by
  refine .ghost _ (fun _ h=>h) (fun _ _=>rfl) (by simp) fun t m d f=>?_
  rw[cj f]at d;refine⟨m,d,.inr ⟨rfl,eh (fun e=>?_) (by simp)⟩⟩
  simp only[Hd.tok.injEq]at e;omega
 have L:eO ⟨G.bX,(G.dM (mv (.cell b off) (.tok ae.length))).h,G.val,G.bD⟩ w (.cell b off) (.slice A len cap) (.v (.sl n aj)):=⟨rfl,.v H⟩;refine⟨⟨G.bX,(G.dM (mv (.cell b off) (.tok ae.length))).h,G.val,G.bD⟩,.own (by simp) (fun m k=>by simp at k;omega) H fun _=>R.bF fun m k=>⟨?_,rfl,rfl⟩,g.ghost (mv (.cell b off) (.tok ae.length)) (Es _ _) (fun b' h=>by rw[ft];exact g.nb b' h) (fun b' bx c=>?_) (fun b' m c=>?_),E⟩
 .simp[Gh.dM,sI,k]
 .by_cases j:b'=b
  .subst j
   rw[bU K]at c;obtain rfl:=ax c;refine⟨l,X,elem,Y,?_,C,I,by simp[B],F,fun i u a d f=>?_⟩
   .simp[Gh.dM,eh (x:=.cell b' off) (y:=.tok ae.length) (z:=.box b') (by simp) (by simp),D]
   .by_cases o:off=i
    .subst o
     rw[q]at d;obtain rfl:=ax d;rw[bU (aE.1 r).1]at f;obtain rfl:=ax f;exact L
    .rw[bT o]at f
     refine(M i u a d f).bF E.low fun m k=>⟨?_,rfl,rfl⟩
     simp[Gh.dM,eh (x:=.cell b' off) (y:=.tok ae.length) (z:=.cell b' i) (by simp) (by simp;exact fun e=>o e.symm),k]
  .rw[bT (fun e=>j e.symm)]at c
   refine(g.box b' bx c).dM (fun _ h=>h) (fun _ _=>rfl) (fun Z=>by subst Z;exact g.box _ _ c) fun x J=>eh (fun e=>?_) fun e=>?_
   .subst e;exact J
   .subst e;exact j J.symm
 .by_cases j:b'=b
  .subst j
   rw[bU K]at c;simp at c
  .rw[bT (fun e=>j e.symm)]at c
   have:=g.dead b' m c;simpa[Gh.dM,eh (x:=.cell b off) (y:=.tok ae.length) (z:=.box b') (by simp) (by simp)]using this
def fN(w:World)(g b:Nat)(X:Array Value)(h:b≠g):(w.setRow g X).heap[b]?=w.heap[b]?:=by
 simp only[World.setRow,yn];rw[aN (fun e=>h e.symm)]
def Inv.Et(j:Inv P w0 aR O G heap w)(f:heap[b]?=some bx)(i:G.h (.box b)=some a)(q:G.bX a=0)(g:uP≠.free)(p:cq G [] w G [] (w.setRow a X)->gH P G (w.setRow a X) b uP):Inv P w0 aR O G (heap.set b uP) (w.setRow a X)/\cq G ae w G ae (w.setRow a X):=by
 obtain⟨k,h⟩:=j.write (ae:=ae) (bz:=ae) (hK:=G.bX) i (w':=w.setRow a X) (by rw[size_setRow]) rfl rfl rfl (fun m l=>⟨fN w a m X l,rfl⟩) (ar _) (fun o s=>by omega) (ar _)
  fun t m h _=>⟨m,h,.inr ⟨rfl,by simp⟩⟩
 refine⟨h _ (by simp) (fun b' n=>bT fun e=>n e) fun b' u d c=>?_,k⟩
 simp only[Hd.on]at d;subst d;rw[bU (aE.1 f).1]at c;obtain rfl:=ax c;exact⟨g,p k.low⟩
def ox{t a off:Nat}(b:w.heap[a]?=some (.cells X elem (0,0)))(c:cw P t=some v.cells.size)(d:off+v.cells.size<=X.size)(e:∀u∈v.cells.toList,u.oneCell'=true):
  (storeVar t ⟨a,off,none⟩ v).run P w = .ok () (w.setRow a (X.toList.take off++v.cells.toList++X.toList.drop (off+v.cells.size)).toArray):=by
 have:=run_storeCells_at (P:=P) a off elem v.cells.toList 0 X w b (by simpa using d) e
 simp only[iC,mA]at this;simp[storeVar,dQ c,this]
def pI{X C:Array Value}(d:off+C.size<=X.size):
  ((X.toList.take off++C.toList++X.toList.drop (off+C.size)).toArray)[j]?=if off<=j/\j<off+C.size then C[j-off]? else X[j]?:=by
 simp only[uG];have c:(X.toList.take off).length=off:=by simp;omega
 by_cases a:off<=j/\j<off+C.size
 .rw[aG a,cj (by simp;omega),eN (by omega),c]
  simp
 .rw[aN a]
  rcases bY j off with b|b
  .rw[cj (by simp;omega),cj (by omega),ff,aG b]
   simp
  .rw[eN (by simp;omega),il]
   simp only[dC,c,mA];rw[show off+C.size+(j-(off+C.size))=j from by omega]
   simp
def ri{X C:Array Value}(a:off+C.size<=X.size):((X.toList.take off++C.toList++X.toList.drop (off+C.size)).toArray).size=X.size:=by
 simp;omega
def N0{t b off:Nat}(o:Inv P w0 aR O G heap w)(hx:aS G ae w V (.az b off))(D:aS G ae w U a)(p:heap[b]?=some (.cells cs))(h:Ea P t cs off a T=some (a0,Z))(M:(T=ae/\F=Z)\/(T=[]/\F=ae)):
  ∃w',(do Instr.storeAt t V U;pure .skip:Sem Next).run P w = .ok .skip w'/\∃G',lQ P w0 aR O G ae w .none F (heap.set b (.cells a0)) undef G' w':=by
 obtain⟨s,X,elem,rfl,g,K,h4,C,h6⟩:=o.rh hx p;have a5:=(aE.1 p).1;unfold Ea at h;split at h<;>try(simp at h;done)
 rename_i n r T1 hs L;split at h<;>try(simp at h;done)
 rename_i a3;simp only[cd,beq_iff_eq,fM]at a3;obtain⟨hlen,b4⟩:=a3;simp only[ay,aA]at h;obtain⟨rfl,rfl⟩:=h;obtain⟨E,J,b3,hz⟩:=nY _ _ _ _ _ L;obtain⟨hl,a7⟩:=kv _ _ _ J;have l:=D.aT J;have a9:∀u∈U.cells.toList,u.oneCell'=true:=by
  intro u hu;obtain⟨j,N⟩:=sD.1 hu;have H:j<a.cells.length:=by have:=(aE.1 N).1;rw[<-l.1];simpa using this
  exact(l.2 j u _ (by simpa using N) (bo H)).1
 have hn:U.cells.size=n:=by rw[l.1];omega
 have b1:=ox (P:=P) K (by rw[hs,hn]:cw P t=some U.cells.size) (by omega:off+U.cells.size<=X.size) a9
 have Y:off+U.cells.size<=X.size:=by omega
 obtain⟨S,Q⟩:=o.Et (ae:=ae) (uP:=.cells (putAt cs off E)) (X:=(X.toList.take off++U.cells.toList++X.toList.drop (off+U.cells.size)).toArray) p g C (by simp) (fun k=>by
  obtain⟨_,_,_,he,_,hv,_⟩:=o.box _ _ p;refine⟨s,_,elem,he,g,?_,setRow_heap w s X _ elem (0,0) K,by rw[ri Y,iX,h4],C,fun j v a' z f=>?_⟩
  .obtain⟨a8,X',b2,_,A,R,_⟩:=o.box _ _ p
   rw[g]at A;obtain rfl:=ax A;exact R
  .rw[pI Y]at z
   rw[hX _ _ _ _ (by omega)]at f
   by_cases d:off<=j/\j<off+U.cells.size
   .rw[aG d]at z
    rw[aG ⟨d.1,by omega⟩]at f
    obtain⟨a2,c,a4,a6⟩:=a7 _ _ f;exact((lR (x:=.cell b j) a6 rfl (l.2 _ _ _ z a4).2).2.1).bF k fun m q=>⟨q,rfl,by
     rw[fN];intro e;subst e;have:=o.inj _ _ _ q g;simp at this⟩
   .rw[aN d]at z
    rw[aN (by omega)]at f
    exact(h6 _ _ _ z f).bF k fun m q=>⟨q,rfl,by
     rw[fN];intro e;subst e;have:=o.inj _ _ _ q g;simp at this⟩)
 have a1:(do Instr.storeAt t (.pointer (some ⟨s,off,none⟩)) U;pure .skip:Sem Next).run P w = .ok .skip (w.setRow s (X.toList.take off++U.cells.toList++X.toList.drop (off+U.cells.size)).toArray):=by
  simp only[Instr.storeAt,Instr.sureAddr,Sem.run_bind,Sem.run_pure,Result.andThen_ok,b1]
 rcases M with⟨rfl,rfl⟩|⟨M,rfl⟩;rotate_left
 .obtain⟨rfl,_⟩:=hz M
  exact⟨_,a1,G,.none _,S,Q⟩
 obtain⟨G2,W,k2,R⟩:=Inv.uV a.cells _ E r off _ T F _ (putAt cs off E) (b:=b) S (bU a5) J L (fun i y D=>by
  have:=(aE.1 D).1;rw[hX _ _ _ _ (by omega),aG ⟨by omega,by omega⟩,show off+i-off=i by omega]
  exact D) (fun a8 X' b2 B I i a' f=>by
  rw[g]at B;obtain rfl:=ax B;rw[setRow_heap w s X _ elem (0,0) K]at I;simp only[ay,Obj.cells.injEq]at I;obtain⟨rfl,_⟩:=I;have H:i<U.cells.size:=by rw[l.1];exact(aE.1 f).1
  refine⟨U.cells[i],?_,(l.2 i _ a' (cX H) f).2.bF Q⟩;rw[pI Y,aG ⟨by omega,by omega⟩,show off+i-off=i by omega]
  exact cX H)
 have b0:putAt (putAt cs off E) off r=putAt cs off r:=by
  apply fe;intro i;rw[hX _ _ _ _ (by rw[iX];omega),hX _ cs _ _ (by omega),hX _ cs _ _ (by omega)]
  by_cases d:off<=i/\i<off+r.length
  .rw[aG d,aG d]
  .rw[aN d,aN d,aN (by omega)]
 rw[qS,b0]at W;exact⟨_,a1,G2,.none _,W,Q.trans k2⟩
def JM{t b s n l j:Nat}(o:Inv P w0 aR O G heap w)(F:aS G ae w V (.jr b s n l i j))(A:aS G ae w U (.v p))(E:heap[b]?=some (.cells cs))(Z:cw P t=some 1)(S:s+l*n<=cs.length)(N:j<n):
  ∃w',(do Instr.storeAt t V U;pure .skip:Sem Next).run P w = .ok .skip w'/\∃M,lQ P w0 aR O G ae w .none ae (heap.set b (.cells (putAt cs (s+i.toNat*n+j) [.v p]))) undef M w':=by
 have Y:∃d,V = .pointer (some ⟨d,s+i.toNat*n+j,none⟩)/\G.val b = .pointer (some ⟨d,0,none⟩)/\G.bD b/\i.toNat<l:=by
  cases F with
  |@jr _ _ _ _ _ d _ g o h=>exact⟨d,rfl,h,g,by omega⟩
 obtain⟨d,rfl,J,g,C⟩:=Y;obtain⟨W,X,elem,rfl',y,r,Q,D,T⟩:=o.rh (ae:=ae) (.az g J) E (off:=s+i.toNat*n+j);simp only[Value.pointer.injEq,ay,Addr.mk.injEq,and_true]at rfl';subst rfl';have a0:s+i.toNat*n+j<cs.length:=by
  have:(i.toNat+1)*n<=l*n:=dD _ C;rw[cc,cR]at this;omega
 have x:cm G.bX w U p:=A.pv rfl;have f:U.cells = #[U]:=x.cells;have L:=ox (P:=P) (v:=U) r (by rw[Z,f];rfl) (by rw[f];simp;omega:s+i.toNat*n+j+U.cells.size<=X.size) (fun u z=>by rw[f]at z;simp at z;subst z;exact x.gm)
 have K:s+i.toNat*n+j+U.cells.size<=X.size:=by rw[f];simp;omega
 obtain⟨R,B⟩:=o.Et (ae:=ae) (uP:=.cells (putAt cs (s+i.toNat*n+j) [.v p])) (X:=(X.toList.take (s+i.toNat*n+j)++U.cells.toList++X.toList.drop (s+i.toNat*n+j+U.cells.size)).toArray) E y D (by simp) (fun k=>by
  refine⟨d,_,elem,g,y,J,setRow_heap w d X _ elem (0,0) r,by rw[ri K,iX,Q],D,fun q v a' c a=>?_⟩
  rw[pI K]at c;rw[hX _ _ _ _ (by simp;omega)]at a
  simp only[f,sy,aD,cS,cv]at c a;by_cases H:s+i.toNat*n+j<=q/\q<s+i.toNat*n+j+1
  .rw[aG H]at c a
   have:q-(s+i.toNat*n+j)=0:=by omega
   rw[this]at c a;simp at c a;subst c;subst a;exact⟨x.gm,.v (x.grow k.grow)⟩
  .rw[aN H]at c a
   exact(T _ _ _ c a).bF k fun m I=>⟨I,rfl,by
    rw[fN];intro e;subst e;have:=o.inj _ _ _ I y;simp at this⟩)
 refine⟨_,?_,G,.none _,R,B⟩;simp only[Instr.storeAt,Instr.sureAddr,Sem.run_bind,Sem.run_pure,Result.andThen_ok,L]
def JN(g:∀r∈aj,r.length=n)(o:j+ps.length<=n)(h:kf (cF aj i j ps) d a=some p):
  (d=i/\j<=a/\a<j+ps.length/\ps[a-j]?=some p)\/(¬(d=i/\j<=a/\a<j+ps.length)/\kf aj d a=some p):=by
 unfold kf cF at h;rw[DX]at h;obtain⟨m,k,b⟩:=cV.1 h;obtain⟨r,f,rfl⟩:=bc.1 k;by_cases e:i=d
 .subst e
  simp only[if_true]at b;have l:=g r (aK f);rw[hX _ _ _ _ (by omega)]at b
  by_cases c:j<=a/\a<j+ps.length
  .rw[aG c]at b
   exact .inl ⟨rfl,c.1,c.2,b⟩
  .rw[aN c]at b
   exact .inr ⟨fun h=>c h.2,by simp[kf,f,b]⟩
 .rw[aN e]at b
  exact .inr ⟨fun h=>e h.1.symm,by simp only[kf,f];exact b⟩
def GD(b:∀r∈aj,r.length=n):(∀r∈cF aj i j ps,r.length=n)/\(cF aj i j ps).length=aj.length:=by
 refine⟨fun r h=>?_,by simp[cF]⟩
 obtain⟨q,a⟩:=sD.1 h;unfold cF at a;rw[DX]at a;obtain⟨r0,c,rfl⟩:=bc.1 a;have:=b r0 (aK c);split
 .rw[iX];exact this
 .exact this
def XY{n a b a' b' c:Nat}(f:b+c<=n)(g:b'<n):(a*n+b<=a'*n+b'/\a'*n+b'<a*n+b+c)<->(a'=a/\b<=b'/\b'<b+c):=by
 constructor
 .rintro⟨d,e⟩
  have:a'=a:=by
   rcases Nat.lt_trichotomy a' a with h|h|h
   .have:(a'+1)*n<=a*n:=dD _ h
    rw[cc,cR]at this;omega
   .exact h
   .have:(a+1)*n<=a'*n:=dD _ h
    rw[cc,cR]at this;omega
  subst this;exact⟨rfl,by omega,by omega⟩
 .rintro⟨rfl,d,e⟩
  omega
def Inv.PY(q:Inv P w0 aR O G heap w)(t:aS G ae w V (.gg b n i j))(m:heap[b]?=some (.bn n aj)):
  ∃a X elem cap,V = .pointer (some ⟨a,i.toNat*n+j,none⟩)/\G.bD b/\G.h (.box b)=some a/\G.val b = .slice (some ⟨a,0,none⟩) aj.length cap/\aj.length<=cap/\w.heap[a]?=some (.cells X elem (0,0))/\cap*n<=X.size/\G.bX a=0/\i.toNat<aj.length /\
   (∀r∈aj,r.length=n)/\∀(i j:Nat)v p,X[i*n+j]?=some v->kf aj i j=some p->cm G.bX w v p:=by
 cases t with
 |@gg _ _ _ a off len cap _ o u h=>
  obtain⟨_,s,⟨x,X,elem,y,d,c,e,f,g,k,l⟩|⟨d,A,c⟩⟩:=q.box _ _ m
  .rw[h]at c
   simp only[Value.slice.injEq,ay,Addr.mk.injEq,and_true]at c;obtain⟨⟨rfl,rfl⟩,rfl,rfl⟩:=c;exact⟨a,X,elem,cap,by rw[cv],o,d,h,e,f,g,k,u.2,s,l⟩
  .rw[h]at c
   simp only[Value.slice.injEq]at c;omega
def JO{t b n j c:Nat}(z:Inv P w0 aR O G heap w)(W:aS G ae w V (.gg b n i j))(hy:aS G ae w U a)(y:heap[b]?=some (.bn n aj))(N:cw P t=some c)(L:rowOf P t a=some ps)(hc:ps.length=c)(a6:j+c<=n):
  ∃w',(do Instr.storeAt t V U;pure .skip:Sem Next).run P w = .ok .skip w'/\∃M,lQ P w0 aR O G ae w .none ae (heap.set b (.bn n (cF aj i.toNat j ps))) undef M w':=by
 obtain⟨I,X,elem,cap,rfl,A,o,T,Y,s,Z,x,h7,D,F⟩:=z.PY W y;have f:=hy.row L;have a3:∀u∈U.cells.toList,u.oneCell'=true:=by
  intro u S;obtain⟨q,h⟩:=sD.1 S;have a1:q<ps.length:=by have:=(aE.1 h).1;rw[<-f.1];simpa using this
  exact(f.2 q u _ (by simpa using h) (bo a1)).gm
 have C:U.cells.size=c:=by rw[f.1];omega
 have a5:i.toNat*n+n<=cap*n:=by
  have:(i.toNat+1)*n<=cap*n:=dD _ (by omega)
  rwa [cc,cR]at this
 have m:i.toNat*n+j+U.cells.size<=X.size:=by omega
 have a4:=ox (P:=P) s (by rw[N,C]:cw P t=some U.cells.size) m a3
 obtain⟨E,H⟩:=GD (i:=i.toNat) (j:=j) (ps:=ps) D;obtain⟨i1,k1⟩:=z.Et (ae:=ae) (uP:=.bn n (cF aj i.toNat j ps)) (X:=(X.toList.take (i.toNat*n+j)++U.cells.toList++X.toList.drop (i.toNat*n+j+U.cells.size)).toArray) y o x (by simp) (fun k=>by
  refine⟨A,E,.inl ⟨I,_,elem,cap,o,by rw[H];exact T,by rw[H];exact Y,setRow_heap w I X _ elem (0,0) s,by rw[ri m];exact Z,x,fun i' g v p d K=>?_⟩⟩
  rw[pI m]at d;have a0:g<n:=by
   obtain⟨r,a2,B⟩:=cV.1 K;rw[<-E r (aK a2)];exact(aE.1 B).1
  have J:=XY (a:=i.toNat) (b:=j) (a':=i') (b':=g) (c:=U.cells.size) (by omega) a0
  rcases JN D (by omega) K with⟨e,l,e3,Q⟩|⟨e,l⟩
  .rw[aG (J.2 ⟨e,l,by omega⟩)]at d
   subst e;rw[show i.toNat*n+g-(i.toNat*n+j)=g-j by omega]at d
   exact(f.2 _ _ _ d Q).grow k.grow
  .rw[aN (fun R=>e (by have:=J.1 R;exact⟨this.1,this.2.1,by omega⟩))]at d
   exact(F _ _ _ _ d l).grow k.grow)
 refine⟨_,?_,G,.none _,i1,k1⟩;simp only[Instr.storeAt,Instr.sureAddr,Sem.run_bind,Sem.run_pure,Result.andThen_ok,a4]
def Inv.elemOf(g:Inv P w0 aR O G heap w)(q:aS G ae w V (.gg b n i j))(d:heap[b]?=some (.bn n aj)\/heap[b]?=some (.uK n aj)):
  ∃c o,V = .pointer (some ⟨c,o,none⟩)/\∀l p,kf aj i.toNat (j+l)=some p->∃u,w.cell? ⟨c,o+l,none⟩=some u/\cm G.bX w u p:=by
 rcases d with d|d
 .obtain⟨c,X,elem,cap,rfl,x,E,H,I,t,J,K,M,m,v⟩:=g.PY q d
  refine⟨c,_,rfl,fun l p e=>?_⟩
  have Z:j+l<n:=by
   obtain⟨r,z,y⟩:=cV.1 e;rw[<-m r (aK z)];exact(aE.1 y).1
  have F:i.toNat*n+n<=cap*n:=by
   have:(i.toNat+1)*n<=cap*n:=dD _ (by omega)
   rwa [cc,cR]at this
  have s:i.toNat*n+(j+l)<X.size:=by omega
  rw[dF t,gU];exact⟨_,cX s,v _ _ _ _ (cX s) e⟩
 .cases q with
  |@gg _ _ _ c off len cap _ x Y h=>
   obtain⟨_,f⟩:=g.box _ _ d;rw[h]at f;cases f with
   |Jo a=>omega
   |sl b' off len cap n aj u T Q m D e=>
    refine⟨c,_,rfl,fun l p k=>?_⟩
    have:=D _ _ _ k;rw[<-gU]at this;exact⟨_,this.1,e _ _ _ k⟩
def N1{t b n j c:Nat}(s:Inv P w0 aR O G heap w)(z:aS G ae w V (.gg b n i j))(q:heap[b]?=some (.bn n aj)\/heap[b]?=some (.uK n aj))(m:du P t=some true)(y:cw P t=some c)(x:aj[i.toNat]?=some r)(E:j+c<=r.length):Plain P G ae w (do pure (.value (<-Instr.loadAt t V))) (.agg ((r.drop j).take c)):=by
 obtain⟨f,o,rfl,h⟩:=s.elemOf z q;have D:∀l,l<c->∃p,r[j+l]?=some p:=fun l d=>⟨_,bo (by omega)⟩
 have e:∃u:Nat->Value,∀l p,l<c->r[j+l]?=some p->w.cell? ⟨f,o+l,none⟩=some (u l)/\cm G.bX w (u l) p:=by
  refine⟨fun l=>(w.cell? ⟨f,o+l,none⟩).getD undef,fun l p d a=>?_⟩
  obtain⟨v,g,k⟩:=h l p (JD x a);simp only[g,m0];exact⟨by trivial,k⟩
 obtain⟨u,e⟩:=e;refine .pure (jJ (mc m y (u:=u) fun l d=>?_)) (.PL (by simp;omega) fun l p a=>?_)
 .obtain⟨p,a⟩:=D l d
  exact(e l p d a).1
 .rw[ff]at a
  split at a<;>try(simp at a;done)
  rw[il]at a;exact(e l p (by assumption) a).2
def JP{t b n j:Nat}(f:Inv P w0 aR O G heap w)(k:aS G ae w V (.gg b n i j))(e:heap[b]?=some (.bn n aj)\/heap[b]?=some (.uK n aj))(d:du P t=some false)(g:kf aj i.toNat j=some p):Plain P G ae w (do pure (.value (<-Instr.loadAt t V))) (.v p):=by
 obtain⟨l,o,rfl,h⟩:=f.elemOf k e;obtain⟨u,a,c⟩:=h 0 p (by simpa using g)
 exact .pure (jJ (hL d (by simpa using a))) (.v c)
def N2{t b s n l j:Nat}(m:Inv P w0 aR O G heap w)(a:aS G ae w V (.jr b s n l i j))(g:heap[b]?=some (.cells cs))(f:du P t=some false)(c:cs[s+i.toNat*n+j]?=some (.v p)):Plain P G ae w (do pure (.value (<-Instr.loadAt t V))) (.v p):=by
 cases a with
 |@jr _ _ _ _ _ x _ k y h=>
  obtain⟨z,X,elem,rfl',q,d,u,v,e⟩:=m.rh (ae:=ae) (.az k h) g (off:=s+i.toNat*n+j);simp only[Value.pointer.injEq,ay,Addr.mk.injEq,and_true]at rfl';subst rfl';have o:s+i.toNat*n+j<X.size:=by have:=(aE.1 c).1;omega
  have a:X[s+i.toNat*n+j]?=some X[s+i.toNat*n+j]:=cX o;exact .pure (jJ (hL f (by rw[dF d];exact a))) ((e _ _ _ a c).view (ae:=ae))
def Flat(a:Nat->Nat)(w:World)(n:Nat)(X:Array Value)(aj:List (List PV)):Prop:=
 X.size=aj.length*n/\(∀r∈aj,r.length=n)/\∀i j p,kf aj i j=some p->∃v,X[i*n+j]?=some v/\cm a w v p
def Ci(n:Nat):∀(aj:List (List PV))(i:Nat)(x:List PV)(a:List (List PV)),NR n aj i x=some a->a=aj.set i x/\i<aj.length/\x.length=n
 |[],i,x,a,h=>by simp[NR]at h
 |r::b,0,x,a,h=>by
  simp only[NR]at h;split at h<;>try(simp at h;done)
  simp at h;exact⟨by simp[h],by simp,by assumption⟩
 |r::b,i+1,x,a,h=>by
  simp only[NR]at h;obtain⟨m,f,rfl⟩:=bc.1 h;obtain⟨c,d,e⟩:=Ci n b i x m f;exact⟨by simp[c],by simpa using d,e⟩
def Flat.put(h:Flat l w n X aj)(H:mE l w C r)(q:i<aj.length)(s:r.length=n):
  Flat l w n (C.zipIdx.foldl (fun cs(c,j)=>cs.setIfInBounds (i*n+j) c) X) (aj.set i r):=by
 obtain⟨D,m,E⟩:=h;obtain⟨x,y⟩:=H;have e:C.zipIdx.foldl (fun cs(c,j)=>cs.setIfInBounds (i*n+j) c) X=(C.toList.zipIdx 0).foldl (fun cs(c,j)=>cs.setIfInBounds (i*n+j) c) X:=by
  rw[<-Array.foldl_toList];simp
 rw[e];obtain⟨f1,f2⟩:=foldl_set X (i*n) C.toList 0;have T:i*n+n<=aj.length*n:=by
  have:(i+1)*n<=aj.length*n:=dD _ q;rwa [cc,cR]at this
 refine⟨by rw[f1,D];simp,fun t k=>?_,fun a b p d=>?_⟩
 .rcases uJ k with h|h
  .exact m _ h
  .rw[h,s]
 .rw[f2]
  simp only[iC,mA];unfold kf at d;by_cases f:a=i
  .subst f
   rw[bU q]at d;simp only[gu]at d;have o:=(aE.1 d).1;rw[aG ⟨by omega,by omega,by omega⟩]
   have u:b<C.size:=by omega
   refine⟨C[b],?_,y b _ p (cX u) d⟩;rw[show a*n+b-a*n=b from by omega]
   simp[u]
  .rw[bT (fun h=>f h.symm)]at d
   obtain⟨v,J,I⟩:=E a b p d;refine⟨v,?_,I⟩;have M:b<n:=by
    obtain⟨t,k,o⟩:=cV.1 d;rw[<-m t (aK k)];exact(aE.1 o).1
   rw[aN ?_]
   .exact J
   .rintro⟨K,z,_⟩
    rw[x,s]at z;apply f;rcases bY a i with g|Q
    .have:(a+1)*n<=i*n:=dD _ g
     rw[cc,cR]at this;omega
    .rcases bY i a with g|Y
     .have:(i+1)*n<=a*n:=dD _ g
      rw[cc,cR]at this;omega
     .omega
def uW{k n:Nat}{e:Operand->Value}{ρ:Operand->AV}:∀(ps:List (Nat×Operand))(X:Array Value)(aj a:List (List PV)),
  lO P k n ρ ps aj=some a->Flat G.bX w n X aj->(∀p∈ps,aS G ae w (e p.2) (ρ p.2))->∃b,Instr.fill (fun i=>some (i*n,n)) X (ps.map fun p=>(p.1,e p.2))=some b/\Flat G.bX w n b a/\a.length=aj.length
 |[],X,aj,a,h,c,_=>by simp[lO]at h;subst h;exact⟨X,rfl,c,rfl⟩
 |(i,x)::ps,X,aj,a,h,c,g=>by
  unfold lO at h;split at h<;>try(simp at h;done)
  rename_i r q;split at h<;>try(simp at h;done)
  rename_i u d;obtain⟨rfl,j,hlen⟩:=Ci n aj i r u d;have f:=(g (i,x) (by simp)).row q
  obtain⟨b,l,m,o⟩:=uW ps _ _ a h (c.put f j hlen) (fun p d=>g p (aV _ d))
  refine⟨b,?_,m,by simpa using o⟩
  have s:(e x).cells.size=n:=by rw[f.1,hlen]
  have t:¬(i*n+n>X.size):=by
   rw[c.1];have:(i+1)*n<=aj.length*n:=dD _ j;rw[cc,cR]at this;omega
  simp only[bG,Instr.fill,s,ne_eq,not_true_eq_false,decide_false,mW,fM];rw[aN t];exact l
def Cj(c:mE G.bX w Z z)(f:z.length=n)(q:n≠0):
  Flat G.bX w n ((Array.range (len*n)).map (Z[· % Z.size]!)) (List.replicate len z):=by
 refine⟨by simp,fun r a=>by rw[(List.mem_replicate.1 a).2,f],fun i j p e=>?_⟩
 unfold kf at e;obtain⟨r,a,d⟩:=cV.1 e;have b:=(aE.1 a).1;simp only[List.length_replicate]at b;have m:r=z:=by rw[D4,aG b]at a;exact(ax a).symm
 subst m;have s:=(aE.1 d).1;have l:i*n+j<len*n:=by
  have:(i+1)*n<=len*n:=dD _ b;rw[cc,cR]at this;omega
 have k:Z.size=n:=by rw[c.1,f]
 have o:(i*n+j)%Z.size=j:=by rw[k,lL,Nat.mul_add_mod,mZ (by omega)]
 have g:j<Z.size:=by omega
 refine⟨Z[j],?_,c.2 j _ p (cX g) d⟩;rw[DQ,Array.getElem?_range,aG l];simp only[de,o];rw[getElem!_pos Z j g]
def y8(h:(qW P t).bind (rowOf P t)=some z):∃i a,P.info? t=some i/\i.zero=some a/\(∀w,(zeroValue t).run P w = .ok a w)/\∀b w,mE b w a.cells z:=by
 obtain⟨k,g,j⟩:=cV.1 h;have e:=g;unfold qW at e;obtain⟨a,f,rfl⟩:=bc.1 e;obtain⟨i,c,d⟩:=cV.1 f;exact⟨i,a,c,d,fun w=>by simp[zeroValue,typeInfo,c,d],fun b w=>(lP a ⟨b,fun _=>none,fun _=>undef,fun _=>False⟩ [] w).row j⟩
def PZ(c:∀r∈aj,r.length=n)(h:kf aj i j=some p):i<aj.length/\j<n:=by
 obtain⟨r,a,b⟩:=cV.1 h;have:=(aE.1 b).1;rw[c r (aK a)]at this;exact⟨(aE.1 a).1,this⟩
def tw(a:∀r∈aj,r.length=n)(h:kf aj i j=some p):i*n+j<aj.length*n:=by
 obtain⟨b,c⟩:=PZ a h;have:(i+1)*n<=aj.length*n:=dD _ b;rw[cc,cR]at this;omega
def Flat.rep(h:Flat k w n X aj)(g:Grow k w hK w')(o:w'.heap[c]?=some (.cells X elem (0,0)))(l:aj.length*n<=hK c):
  cm hK w' (.slice (some ⟨c,0,none⟩) aj.length aj.length) (.sl n aj):=by
 obtain⟨q,d,f⟩:=h;refine .sl c 0 _ _ n aj (fun i j=>X.getD (i*n+j) undef) rfl (ar _) d (fun i j p a=>?_) fun i j p a=>?_
 .obtain⟨v,b,_⟩:=f i j p a
  rw[cv,dF o];exact⟨by rw[b];simp[jG,b],gL (tw d a) l⟩
 .obtain⟨v,b,m⟩:=f i j p a
  have e:X.getD (i*n+j) undef=v:=by simp[jG,b]
  rw[e];exact m.grow g
def Flat.box(h:Flat G.bX w n X aj)(g:Grow G.bX w a.bX w')(k:a.bD b)(l:a.h (.box b)=some c)(s:a.val b = .slice (some ⟨c,0,none⟩) aj.length aj.length)(t:w'.heap[c]?=some (.cells X elem (0,0)))(m:a.bX c=0):gH P a w' b (.bn n aj):=by
 obtain⟨x,e,f⟩:=h;refine⟨k,e,.inl ⟨c,X,elem,aj.length,l,s,ar _,t,by omega,m,fun i j v p u q=>?_⟩⟩
 obtain⟨y,d,o⟩:=f i j p q;rw[u]at d;obtain rfl:=ax d;exact o.grow g
def run_buildSlice{e:Operand->Value}{t len:Nat}(M:∀p∈aT.toList,aS G ae w (e p.2) (ρ p.2))(h:plain P (.buildSlice t len aT) an k ρ=some (a,l)):
  ∃X elem n aj,a = .v (.sl n aj)/\(do pure (.value (<-Instr.buildSlice t len (aT.map fun(i,x)=>(i,e x)))):Sem Next).run P w = .ok (.value (.slice (some ⟨w.heap.size,0,none⟩) aj.length aj.length)) (w.alloc (.cells X elem))/\Flat G.bX w n X aj:=by
 simp only[plain]at h;split at h<;>try(simp at h;done)
 rename_i E o;split at h<;>try(simp at h;done)
 rename_i n z m Q;split at h<;>try(simp at h;done)
 rename_i v;simp only[cd,fM,ne_eq]at v;obtain⟨⟨Y,K⟩,A⟩:=v;obtain⟨g,J,j⟩:=bc.1 h;simp only[aA]at j;obtain⟨rfl,rfl⟩:=j;obtain⟨i,q,R,F,Z,c⟩:=y8 Q;have c:=c G.bX w;obtain⟨y,b,H,I⟩:=uW (e:=e) aT.toList _ _ g J (Cj (len:=len) c Y K) M;refine⟨y,E,n,g,rfl,?_,H⟩;have s:(aT.map fun(i,x)=>(i,e x)).toList=aT.toList.map fun p=>(p.1,e p.2):=by simp
 have hlen:g.length=len:=by rw[I];simp
 rw[hlen];apply bK;have u:¬(len*n>2^24):=by omega
 by_cases d:len*n=0
 .have T:len=0:=by rcases Nat.mul_eq_zero.1 d with h|h<;>omega
  subst T;have r:((Array.range (0*n)).map (q.cells[· % q.cells.size]!))= #[]:=by simp
  rw[r]at b;have D:∀f:Nat->Value,((Array.range (0*n)).map f)= #[]:=by intro f;simp
  simp only[Instr.buildSlice,Sem.run_bind,run_underlying o,Result.andThen_ok,dQ m,aN u,aG d,Sem.run_pure,s,D,b];simp[newRow]
 .simp only[Instr.buildSlice,Sem.run_bind,run_underlying o,Result.andThen_ok,dQ m,d,if_false,Z,u,Sem.run_pure,s,b]
  simp[newRow]
def m6{e:Operand->Value}{t len:Nat}(o:Inv P w0 aR O G heap w)(y:∀p∈aT.toList,aS G ae w (e p.2) (ρ p.2))(h:plain P (.buildSlice t len aT) an k ρ=some (a,l)):
  ∃n aj,a = .v (.sl n aj)/\∃v w',(do pure (.value (<-Instr.buildSlice t len (aT.map fun(i,x)=>(i,e x)))):Sem Next).run P w = .ok (.value v) w' /\
   (∃d,lQ P w0 aR O G ae w (.v (.sl n aj)) ae heap v d w')/\(∃d,lQ P w0 aR O G ae w (.own ae.length 0 n aj) (ae++[some 0]) heap v d w')/\
   ∀nb j,cx nb [.bn n aj] heap=some j->∃d,lQ P w0 aR O G ae w (.bA nb) ae j v d w':=by
 obtain⟨X,elem,n,aj,rfl,z,f⟩:=run_buildSlice y h;refine⟨n,aj,rfl,_,_,z,?_,?_,fun nb j s=>?_⟩
 .obtain⟨g,c⟩:=o.JK (ae:=ae) (bz:=ae) (.cells X elem) X.size ae.length (ar _) fun t n h q=>⟨n,h,.inr ⟨rfl,by omega⟩⟩
  exact⟨_,.v (f.rep c.grow (heap_alloc_new w _) (by show _<=kV _ _ _ _;rw[fU,f.1];exact ar _)),g,c⟩
 .obtain⟨g,c⟩:=o.JK (ae:=ae) (bz:=ae++[some 0]) (.cells X elem) X.size ae.length (by simp) fun t n h q=>by
   rw[cj q]at h;exact⟨n,h,.inr ⟨rfl,by omega⟩⟩
  exact⟨_,.own (by simp) (fun m u=>by simp at u;omega) (f.rep c.grow (heap_alloc_new w _) (by show _<=kV _ _ _ _;rw[fU,f.1];exact ar _)) fun _ D=>by omega,g,c⟩
 .obtain⟨r,rfl⟩:=iG s
  obtain⟨g,c⟩:=o.wj (ae:=ae) (.cells X elem) 0 (.slice (some ⟨w.heap.size,0,none⟩) aj.length aj.length) (.bn n aj) r (by simp) fun k=>
   f.box k.grow (.inr rfl) (by simp) (by simp) (heap_alloc_new w _) (fU _ _ _)
  have E:(if nb=nb then Value.slice (some ⟨w.heap.size,0,none⟩) aj.length aj.length else G.val nb)=.slice (some ⟨w.heap.size,0,none⟩) aj.length aj.length:=aG rfl
  refine⟨_,?_,g,c⟩;have:=aS.bA (G:=⟨kV G.bX w.heap.size 0,fun x=>open Classical in if x = .box nb then some w.heap.size else G.h x,fun b=>if b=nb then .slice (some ⟨w.heap.size,0,none⟩) aj.length aj.length else G.val b,fun b=>G.bD b\/b=nb⟩) (ae:=ae) (w:=w.alloc (.cells X elem)) (b:=nb) (.inr rfl) (by simp[Value.oneCell'])
  simpa using this
def BV{t a n c nb:Nat}(h:Inv P w0 aR O G heap w)(D:aS G ae w V (.v (.int k m)))(E:aS G ae w U (.v (.int p m)))(r:P.underlying t=some (.slice a))(f:cw P a=some n)(e:yQ P a=some c)(H:(qW P a).bind (rowOf P a)=some z)(M:z.length=n)(Y:0<n)(Z:0<c)(o:0<=m)(F:m*c<=2^47)(y:cx nb [.bn n (List.replicate m.toNat z)] heap=some l):
  ∃v w',(do pure (.value (<-Instr.makeSlice t V U)):Sem Next).run P w = .ok (.value v) w'/\∃s,lQ P w0 aR O G ae w (.bA nb) ae l v s w':=by
 rw[D.gM,E.gM];obtain⟨i,g,j,K,R,d⟩:=y8 H;have d:=d G.bX w;have u:=Cj (len:=m.toNat) d M (by omega)
 have T:i.size=n:=by
  unfold cw at f;rw[j]at f;simpa using f
 have Q:i.bytes=c:=by
  unfold yQ at e;rw[j]at e;simpa using e
 have A:m<=m*c:=by
  have:m*1<=m*c:=Int.mul_le_mul_of_nonneg_left (by omega) o
  rwa [Int.mul_one]at this
 have q:=run_make (P:=P) w t a i g r j K k p m m o (eA _) (by rw[Q,Int.mul_comm];omega) (by omega)
 rw[T]at q;obtain⟨X,rfl⟩:=iG y;have hlen:(List.replicate m.toNat z).length=m.toNat:=by simp
 obtain⟨I,J⟩:=h.wj (ae:=ae) (.cells (madeCells g.cells (m.toNat*n)) a) 0 (.slice (some ⟨w.heap.size,0,none⟩) m.toNat m.toNat) (.bn n (List.replicate m.toNat z)) X (by simp) fun k=>
  u.box k.grow (.inr rfl) (by simp) (by simp[hlen]) (heap_alloc_new w _) (fU _ _ _)
 refine⟨_,_,bK _ q,_,?_,I,J⟩;have:=aS.bA (G:=⟨kV G.bX w.heap.size 0,fun x=>open Classical in if x = .box nb then some w.heap.size else G.h x,fun b=>if b=nb then .slice (some ⟨w.heap.size,0,none⟩) m.toNat m.toNat else G.val b,fun b=>G.bD b\/b=nb⟩) (ae:=ae) (w:=w.alloc (.cells (madeCells g.cells (m.toNat*n)) a)) (b:=nb) (.inr rfl) (by simp[Value.oneCell'])
 simpa using this
def JQ(h:kf (a++b) i j=some p):(i<a.length/\kf a i j=some p)\/(a.length<=i/\kf b (i-a.length) j=some p):=by
 unfold kf at*;rcases bY i a.length with c|c
 .rw[cj c]at h;exact .inl ⟨c,h⟩
 .rw[eN c]at h;exact .inr ⟨c,h⟩
structure iH (bX:Nat->Nat) (w:World) (n:Nat) (l:List Value) (aj:List (List PV)):Prop where
 len:l.length=aj.length*n
 row:∀r∈aj,r.length=n
 get:∀i j p,kf aj i j=some p->∃v,l[i*n+j]?=some v/\cm bX w v p
def LP(d:∀r∈aj,r.length=n)(b:j<aj.length*n):∃p,kf aj (j/n) (j%n)=some p/\j/n*n+j%n=j:=by
 have e:0<n:=by
  rcases DP n with h|h
  .subst h;simp at b
  .exact h
 have a:j/n<aj.length:=Nat.div_lt_of_lt_mul (by rwa [lL]at b)
 have c:j%n<(aj[j/n]).length:=by rw[d _ (fL a)];exact Nat.mod_lt _ e
 exact⟨_,by simp only[kf,bo a,gu];exact bo c,Nat.div_add_mod' j n⟩
def iH.one(h:iH i w n l aj):∀u∈l,u.oneCell'=true:=by
 intro u g;obtain⟨j,a⟩:=sD.1 g;have c:=(aE.1 a).1;rw[h.len]at c;obtain⟨p,e,d⟩:=LP h.row c;obtain⟨v,b,f⟩:=h.get _ _ _ e;rw[d,a]at b;obtain rfl:=ax b;exact f.gm
def iH.grow(h:iH a w n l aj)(g:Grow a w hK w'):iH hK w' n l aj:=
 ⟨h.len,h.row,fun i j p b=>by obtain⟨v,d,c⟩:=h.get i j p b;exact⟨v,d,c.grow g⟩⟩
def iH.append(h:iH d w n l aj)(k:iH d w n m f):iH d w n (l++m) (aj++f):=by
 refine⟨by simp[h.len,k.len,cc],fun r o=>(bp.1 o).elim (h.row r) (k.row r),fun i j p g=>?_⟩
 rcases JQ g with⟨e,b⟩|⟨e,b⟩
 .obtain⟨v,a,c⟩:=h.get i j p b
  exact⟨v,by rw[cj (aE.1 a).1];exact a,c⟩
 .obtain⟨v,a,c⟩:=k.get _ j p b
  refine⟨v,?_,c⟩;have q:aj.length*n<=i*n:=dD _ e;rw[eN (by rw[h.len];omega),h.len]
  have:i*n+j-aj.length*n=(i-aj.length)*n+j:=by
   rw[Nat.sub_mul];omega
  rw[this];exact a
def cm.flat(h:cm k w (.slice A len cap) (.sl n aj)):
  aj.length=len/\len<=cap/\∃l:List Value,iH k w n l aj/\((len=0/\cap=0)\/∃b off,A=some ⟨b,off,none⟩/\∀(j:Nat)u,l[j]?=some u->w.cell? ⟨b,off+j,none⟩=some u/\off+j<k b):=by
 cases h with
 |m3=>exact⟨rfl,ar _,[],⟨by simp,by simp,fun i j p c=>by simp[kf]at c⟩,.inl ⟨rfl,rfl⟩⟩
 |Jo a=>exact⟨rfl,ar _,[],⟨by simp,by simp,fun i j p c=>by simp[kf]at c⟩,.inl ⟨rfl,rfl⟩⟩
 |sl b off len cap n aj u d x e r z=>
  refine⟨d,x,(List.range (len*n)).map (fun j=>u (j/n) (j%n)),⟨by simp[d],e,fun i j p c=>?_⟩,.inr ⟨b,off,rfl,fun j v o=>?_⟩⟩
  .obtain⟨D,m⟩:=PZ e c
   have q:=tw e c;rw[d]at q;refine⟨u i j,?_,z i j p c⟩;rw[bu,mz q];simp only[de];have s:(i*n+j)/n=i:=by
    rw[lL,Nat.mul_add_div (by omega),Nat.div_eq_of_lt m];omega
   have t:(i*n+j)%n=j:=by rw[lL,Nat.mul_add_mod,mZ m]
   rw[s,t]
  .rw[bu]at o
   obtain⟨E,f,rfl⟩:=bc.1 o;have g:=(aE.1 f).1;simp at g;rw[mz g]at f;obtain rfl:=ax f;obtain⟨p,c,y⟩:=LP e (by rw[d];exact g)
   have:=r _ _ _ c;rw[gU,y]at this;exact this
def uX(h:cm d w x (.sl n b)):∃A m c,x = .slice A m c:=by
 cases h with
 |m3=>exact⟨_,_,_,rfl⟩
 |Jo a=>exact⟨_,_,_,rfl⟩
 |sl=>exact⟨_,_,_,rfl⟩
def Eu(f:P.underlying tx=some (.slice i))(h:iH k w n l aj)(g:aj.length=m)(d:(m=0/\c=0)\/∃b off,A=some ⟨b,off,none⟩/\∀(j:Nat)u,l[j]?=some u->w.cell? ⟨b,off+j,none⟩=some u):Src P n tx (.slice A m c) m l w:=by
 rcases d with⟨rfl,rfl⟩|⟨b,off,rfl,d⟩
 .have:l=[]:=by have:=h.len;rw[g]at this;simpa using this
  subst this;cases A with
  |none=>exact Src.ofNil w f 0
  |some a=>exact Src.ofSlice w f _ _ _ [] (by simp) (fun j u e=>by simp at e) (by simp)
 .exact Src.ofSlice w f _ _ _ l (by rw[h.len,g]) (fun j u e=>by rw[nW];exact d j u e) h.one
def y9(v:P.underlying t=some (.slice a))(Q:P.underlying tx=some (.slice K))(F:P.info? a=some i)(I:i.zero=some z)(D:i.size=n)(T:z.cells.size=n)(g:iH G.bX w n oy aj)(hlen:aj.length=len)(hold:(len=0/\cap=0)\/∃b off,A=some ⟨b,off,none⟩/\∀(j:Nat)u,oy[j]?=some u->w.cell? ⟨b,off+j,none⟩=some u)(y:cm G.bX w x (.sl n d))(M:0<i.bytes)(e:(aj++d).length*i.bytes<=2^47)(C:cap<len+d.length):
  ∃X q,(Builtin.append_ #[t,tx] ty #[.slice A len cap,x]).run P w = .ok (.slice (some ⟨w.heap.size,0,none⟩) (aj++d).length q) (w.drew.alloc (.cells X a))/\
   (aj++d).length<=q/\q*n<=X.size/\∃l,iH G.bX w n l (aj++d)/\∀j:Nat,j<l.length->X[j]?=l[j]?:=by
 obtain⟨B,m,c,rfl⟩:=uX y;obtain⟨o,L,news,p,J⟩:=y.flat;have Z:Src P i.size tx (.slice B m c) m news w:=by
  rw[D];exact Eu Q p o (J.imp id fun⟨b,off,H,h⟩=>⟨b,off,H,fun j u k=>(h j u k).1⟩)
 have R:(Builtin.firstCells i.size len (.slice A len cap)).run P w.drew = .ok oy.toArray w.drew:=by
  have:Src P i.size t (.slice A len cap) len oy w:=by
   rw[D];exact Eu v g hlen hold
  exact this.cellsD
 have f:(aj++d).length=len+m:=by simp[hlen,o]
 have N:(len+m)<=2^47:=by
  rw[f]at e;exact dX (Nat.le_mul_of_pos_right _ M) e
 have r:cap<len+m:=by omega
 have E:=run_append_grow_src (P:=P) w t tx ty a i z v F I A len cap oy R (.slice B m c) m news Z r (by omega) (growslice_fits r (by rw[f]at e;exact e))
 have Y:=grownCap_ge w (len+m) cap a;generalize s:((oy++news).toArray++Builtin.zeroCells z.cells (grownCap w (len+m) cap a-(len+m)))=X at E;refine⟨X,grownCap w (len+m) cap a,by rw[f];exact E,by rw[f];exact Y,?_,oy++news,g.append p,fun j k=>?_⟩
 .rw[<-s]
  simp[Builtin.zeroCells,T,g.len,p.len,hlen,o];rw[<-cc,<-cc];have:len+m+(grownCap w (len+m) cap a-(len+m))=grownCap w (len+m) cap a:=by omega
  rw[this];exact ar _
 .rw[<-s,Array.getElem?_append_left (by simpa using k)]
  simp
def iH.rep(h:iH d w' n l aj)(k:∀j:Nat,j<l.length->X[j]?=l[j]?)(q:w'.heap[c]?=some (.cells X elem (0,0)))(o:aj.length*n<=d c)(m:aj.length<=g):cm d w' (.slice (some ⟨c,0,none⟩) aj.length g) (.sl n aj):=by
 have key:∀i j p,kf aj i j=some p->∃v,X[i*n+j]?=some v/\cm d w' v p:=fun i j p b=>by
  obtain⟨v,a,f⟩:=h.get i j p b;exact⟨v,by rw[k _ (aE.1 a).1];exact a,f⟩
 refine .sl c 0 _ _ n _ (fun i j=>X.getD (i*n+j) undef) rfl m h.row (fun i j p b=>?_) fun i j p b=>?_
 .obtain⟨v,a,_⟩:=key i j p b
  rw[cv,dF q,a];exact⟨by simp[jG,a],gL (tw h.row b) o⟩
 .obtain⟨v,a,f⟩:=key i j p b
  have e:X.getD (i*n+j) undef=v:=by simp[jG,a]
  rw[e];exact f
def World.Ev(h:w.heap[b]?=some (.cells X elem (0,0)))(f:off+d.length<=X.size)(e:∀v∈d,v.oneCell'=true):
  w.setCells b off d=w.setRow b (X.toList.take off++d++X.toList.drop (off+d.length)).toArray:=by
 have a:=run_storeCells_at (P:=(default:Program)) b off elem d 0 X w h (by simpa using f) e
 have c:=run_storeCells_cells (P:=(default:Program)) b off d 0 w (fun j g=>by
  rw[iC,dF h];simp;omega) (fun j g=>by simp[World.frozen?,h]) e
 rw[a]at c;injection c with _ c
 simp only[iC]at c;exact c.symm
def GF(s:P.underlying t=some (.slice g))(D:P.underlying tx=some (.slice z))(I:P.info? g=some i)(l:i.size=n)(o:cm G.bX w x (.sl n a))(J:len+a.length<=cap)(k:w.heap[b]?=some (.cells X elem (0,0)))(M:off+cap*n<=X.size):
  ∃news e,(Builtin.append_ #[t,tx] ty #[.slice (some ⟨b,off,none⟩) len cap,x]).run P w = .ok (.slice (some ⟨b,off,none⟩) (len+a.length) cap) (w.setRow b e)/\iH G.bX w n news a/\e.size=X.size /\
   (∀j,j<off+len*n->e[j]?=X[j]?)/\∀j,j<news.length->e[off+len*n+j]?=news[j]?:=by
 obtain⟨B,m,c,rfl⟩:=uX o;obtain⟨v,K,news,f,y⟩:=o.flat;subst v;have H:Src P i.size tx (.slice B a.length c) a.length news w:=by
  rw[l];exact Eu D f rfl (y.imp id fun⟨b,off,q,h⟩=>⟨b,off,q,fun j u d=>(h j u d).1⟩)
 have E:off+len*n+news.length<=X.size:=by
  rw[f.len];have:(len+a.length)*n<=cap*n:=dD _ (by omega)
  rw[cc]at this;omega
 have p:=run_append_room_src (P:=P) w t tx ty g i s I b off len cap (.slice B a.length c) a.length news H (by omega) (fun j d=>by
  rw[l,dF k];simp;omega) (fun j d=>by simp[World.frozen?,k])
 rw[l,World.Ev k E f.one]at p;refine⟨news,_,p,f,by simp;omega,fun j d=>?_,fun j d=>?_⟩
 .simp only[uG]
  rw[cj (by simp;omega),cj (by simp;omega),ff,aG d]
  simp
 .simp only[uG]
  have r:(X.toList.take (off+len*n)).length=off+len*n:=by simp;omega
  rw[cj (by simp;omega),eN (by omega),r]
  congr 1
  omega
def rj(k:P.underlying t=some (.slice f))(e:P.underlying tx=some (.slice r))(q:P.info? f=some i)(D:i.size=n)(g:len<=cap)(l:cm E w x (.sl n [])):(Builtin.append_ #[t,tx] ty #[.slice A len cap,x]).run P w = .ok (.slice A len cap) w:=by
 obtain⟨B,m,c,rfl⟩:=uX l;obtain⟨o,H,news,p,z⟩:=l.flat;simp at o;subst o;have d:Src P i.size tx (.slice B 0 c) 0 news w:=by
  rw[D];exact Eu e p (by simp) (z.imp id fun⟨b,off,s,h⟩=>⟨b,off,s,fun j u v=>(h j u v).1⟩)
 have y:news=[]:=by have:=p.len;simpa using this
 subst y;cases A with
 |none=>simp[Builtin.append_,run_underlying k,run_underlying e,sizeOf,typeInfo,q,d.len,g,d.cells]
 |some a=>simp[Builtin.append_,run_underlying k,run_underlying e,sizeOf,typeInfo,q,d.len,g,d.cells,storeCells]
def tl(K:Inv P w0 aR O G heap w)(T:P.underlying t=some (.slice q))(C:P.underlying tx=some (.slice a7))(V:P.info? q=some i)(hz:i.zero=some z)(R:i.size=n)(b5:z.cells.size=n)(a9:0<i.bytes)(hV:cm G.bX w (.slice A len cap) (.sl n aj))(Y:cm G.bX w x (.sl n a))(b8:(aj++a).length*i.bytes<=2^47)(a3:bz[tk]?=some (some N3))(hlen:ae.length<=bz.length)(S:∀(t:Nat)n,bz[t]?=some (some n)->t<ae.length->∃m,ae[t]?=some (some m)/\(m<n\/(m=n/\t≠tk)))(a6:len<cap->Room G (.tok tk) w A len cap n):
  ∃v w',(Builtin.append_ #[t,tx] ty #[.slice A len cap,x]).run P w = .ok v w'/\∃G',lQ P w0 aR O G ae w (.own tk N3 n (aj++a)) bz heap v G' w':=by
 obtain⟨H,l2,oy,I,o2⟩:=hV.flat;have B:tk<bz.length:=(aE.1 a3).1;have U:∀m:Nat,bz[tk]?=some (some m)->N3<=m:=fun m f=>by rw[a3]at f;simp at f;omega
 by_cases a4:a=[]
 .subst a4
  rw[fr];have k:cq G ae w G bz w:=⟨Grow.refl _ _,fun _ h=>h,fun _ _=>rfl,hlen,fun t n h s=>by
   obtain⟨m,f,g|⟨g,_⟩⟩:=S t n h s
   .exact⟨m,f,.inl g⟩
   .exact⟨m,f,.inr ⟨g,fun b E=>⟨E,rfl,rfl⟩⟩⟩⟩
  exact⟨_,_,rj T C V R l2 Y,G,.own B U hV fun _ y=>a6 y y,K,k⟩
 .have c1:0<a.length:=DT.2 a4
  rcases bY cap (len+a.length)with J|J
  .obtain⟨X,nc,N,b7,F,l,s,a8⟩:=y9 (ty:=ty) (x:=x) T C V hz R b5 I H (o2.imp id fun⟨b,off,r,h⟩=>⟨b,off,r,fun j u hj=>(h j u hj).1⟩) Y a9 b8 J
   obtain⟨i0,k0⟩:=K.drew (ae:=ae);obtain⟨Z,k1⟩:=i0.JK (ae:=ae) (bz:=bz) (.cells X q) ((aj++a).length*n) tk hlen S;have hw:(w.drew.alloc (.cells X q)).heap[w.heap.size]?=some (.cells X q (0,0)):=heap_alloc_new w.drew _;refine⟨_,_,N,_,.own B U ?_ fun _ y=>?_,Z,k0.trans k1⟩
   .exact(s.grow (k0.trans k1).grow).rep a8 hw (by show _<=kV _ _ _ _;rw[show w.drew.heap.size=w.heap.size from rfl,fU];exact ar _) b7
   .exact⟨w.heap.size,0,X,q,rfl,aG rfl,by show kV _ _ _ _=_;rw[show w.drew.heap.size=w.heap.size from rfl,fU,cv],hw,by omega⟩
  .obtain⟨b,off,X,elem,rfl,E,s,D,F⟩:=a6 (by omega) (by omega)
   obtain⟨news,c,N,n1,b4,a1,b0⟩:=GF (ty:=ty) T C V R Y J D F;rcases o2 with⟨_,h⟩|⟨b',c2,r,c0⟩
   .omega
   simp only[ay,Addr.mk.injEq,and_true]at r;obtain⟨rfl,rfl⟩:=r;have a0:(w.setRow b c).heap[b]?=some (.cells c elem (0,0)):=setRow_heap w b X c elem (0,0) D;let hK:Nat->Nat:=fun x=>if x=b then off+(len+a.length)*n else G.bX x
   have W:hK b=off+(len+a.length)*n:=by simp[hK]
   have hmul:(len+a.length)*n=len*n+a.length*n:=cc _ _ _;obtain⟨k,b6⟩:=K.write (ae:=ae) (bz:=bz) (hK:=hK) E (w':=w.setRow b c) (by rw[size_setRow]) rfl rfl rfl (fun m f=>⟨fN w b m c f,by simp[hK,f]⟩) (by rw[W,s];omega)
    (fun o ho=>by rw[dF a0,dF D];exact a1 o (by rw[s]at ho;exact ho)) hlen (fun t m h b1=>by
     obtain⟨m',a2,g|⟨g,b2⟩⟩:=S t m h b1
     .exact⟨m',a2,.inl g⟩
     .exact⟨m',a2,.inr ⟨g,fun e=>b2 (by simpa using e.symm)⟩⟩)
   have Z:=b6 heap rfl (fun b' _=>rfl) (fun b' bx b3=>by simp[Hd.on]at b3)
   have a5:(aj++a).length=len+a.length:=by simp[H]
   refine⟨_,_,N,_,.own B U ?_ fun _ _=>?_,Z,k⟩
   .have L:=(I.grow k.grow).append (n1.grow k.grow)
    refine .sl b off _ _ n _ (fun i j=>c.getD (off+i*n+j) undef) a5 (by omega) L.row (fun i j p Q=>?_) fun i j p Q=>?_
    all_goals
     have y:=tw L.row Q;rw[a5]at y;have b9:∃v,c[off+i*n+j]?=some v/\cm hK (w.setRow b c) v p:=by
      obtain⟨v,d,M⟩:=L.get i j p Q;refine⟨v,?_,M⟩;rcases bY (i*n+j) oy.length with h|h
      .rw[cj h]at d
       have hc:=(c0 _ _ d).1;rw[dF D]at hc;have:=I.len;rw[a1 _ (by rw[H]at this;omega),gU]
       exact hc
      .rw[eN h]at d
       have h2:=(aE.1 d).1;have:=I.len;rw[H]at this;rw[<-b0 _ h2]at d;rw[show off+i*n+j=off+len*n+(i*n+j-oy.length) by omega]
       exact d
     obtain⟨v,d,M⟩:=b9
    .rw[dF a0,d]
     exact⟨by simp[jG,d],by show _<hK b;rw[W];omega⟩
    .have e:c.getD (off+i*n+j) undef=v:=by simp[jG,d]
     rw[e];exact M
   .exact⟨b,off,c,elem,rfl,E,W,a0,by rw[b4];exact F⟩
def Inv.kill(c:Inv P w0 aR O G heap w)(d:G.bD b):Inv P w0 aR O G (heap.set b .dead) w:=by
 refine⟨c.frame,fun b' h=>by rw[ft];exact c.nb b' h,fun b' bx a=>?_,c.inj,c.nO,fun b' n a=>?_⟩
 .by_cases h:b'=b
  .subst h
   rw[bU (c.nb _ d)]at a;obtain rfl:=ax a;exact d
  .rw[bT (fun e=>h e.symm)]at a
   exact c.box _ _ a
 .by_cases h:b'=b
  .subst h
   rw[bU (c.nb _ d)]at a;simp at a
  .rw[bT (fun e=>h e.symm)]at a
   exact c.dead _ _ a
def Inv.Ew(d:Inv P w0 aR O G heap w){b nb:Nat}{V:Value}{bx:Bx}(i:G.bD b)(k:heap[nb]?=some .free)(q:bx≠.free):
  let g:Gh:=⟨G.bX,(G.dM (mv (.box b) (.box nb))).h,fun b'=>if b'=nb then V else G.val b',fun b'=>G.bD b'\/b'=nb⟩
  gH P g w nb bx->Inv P w0 aR O g ((heap.set b .dead).set nb bx) w/\cq G ae w g ae w:=by
 intro g u;have o:¬G.bD nb:=d.box _ _ k;have v:b≠nb:=fun e=>o (e▸i)
 have j:=(aE.1 k).1;have n:∀b',G.bD b'->(fun b'=>if b'=nb then V else G.val b') b'=G.val b':=fun b' h=>by
  have:b'≠nb:=fun e=>o (e▸h)
  simp[this]
 have p:cq G ae w g ae w:=.ghost _ (fun _ h=>.inl h) n (ar _) fun t m h _=>⟨m,h,.inr ⟨rfl,eh (by simp) (by simp)⟩⟩
 refine⟨d.ghost _ (Es _ _) (fun b' h=>?_) (fun b' uP a=>?_) (fun b' m a=>?_),p⟩
 .rw[ft,ft]
  rcases h with h|rfl
  .exact d.nb b' h
  .exact j
 .by_cases c:b'=nb
  .subst c
   rw[bU (by simpa using j)]at a
   obtain rfl:=ax a;exact u
  .rw[bT (fun e=>c e.symm)]at a
   by_cases f:b'=b
   .subst f
    rw[bU (d.nb _ i)]at a;obtain rfl:=ax a;exact .inl i
   .rw[bT (fun e=>f e.symm)]at a
    refine(d.box b' uP a).dM (fun _ h=>.inl h) n (fun s=>?_) fun x l=>eh (fun e=>?_) fun e=>?_
    .subst s
     have:=d.box _ _ a;rintro(h|h)
     .exact this h
     .exact c h
    .subst e;exact c l.symm
    .subst e;exact f l.symm
 .by_cases c:b'=nb
  .subst c
   rw[bU (by simpa using j)]at a
   exact absurd (ax a) q
  .rw[bT (fun e=>c e.symm)]at a
   by_cases f:b'=b
   .subst f
    rw[bU (d.nb _ i)]at a;simp at a
   .rw[bT (fun e=>f e.symm)]at a
    have:=d.dead b' m a;simpa[Gh.dM,eh (x:=.box b) (y:=.box nb) (z:=.box b') (by simpa using c) (by simpa using f)]using this
def aS.N4{v:Value}(a:G.bD b)(d:G.val b=v)(c:v.oneCell'=true):aS G ae w v (.bA b):=by
 subst d;exact .bA a c
def Inv.Ey(v:Inv P w0 aR O G heap w)(f:aS G ae w V (.bA b))(u:heap[b]?=some (.bn n aj)):
  V=G.val b/\G.bD b/\(∀r∈aj,r.length=n)/\∃A cap oy,V = .slice A aj.length cap/\aj.length<=cap/\iH G.bX w n oy aj /\
   ((aj.length=0/\cap=0)\/∃a X elem,A=some ⟨a,0,none⟩/\G.h (.box b)=some a/\w.heap[a]?=some (.cells X elem (0,0))/\cap*n<=X.size/\G.bX a=0/\oy=X.toList.take (aj.length*n)):=by
 have t:V=G.val b/\G.bD b:=by
  cases f with
  |bA c y=>exact⟨rfl,c⟩
 obtain⟨rfl,c⟩:=t;obtain⟨_,e,⟨a,X,elem,cap,m,g,k,o,l,q,s⟩|⟨rfl,A,g⟩⟩:=v.box _ _ u
 .have z:aj.length*n<=X.size:=dX (dD _ k) l
  refine⟨rfl,c,e,_,cap,X.toList.take (aj.length*n),g,k,⟨by simp;omega,e,fun i j p d=>?_⟩,.inr ⟨a,X,elem,rfl,m,o,l,q,rfl⟩⟩
  have x:=tw e d;have f:X[i*n+j]?=some X[i*n+j]:=cX (by omega)
  exact⟨_,by rw[ff,aG x];simpa using f,s _ _ _ _ f d⟩
 .exact⟨rfl,c,e,A,0,[],g,ar _,⟨by simp,by simp,fun i j p d=>by simp[kf]at d⟩,.inl ⟨rfl,rfl⟩⟩
def iH.box(h:iH G.bX w n l aj)(g:G.bD b)(k:G.h (.box b)=some a)(t:G.val b = .slice (some ⟨a,0,none⟩) aj.length cap)(u:w.heap[a]?=some (.cells X elem (0,0)))(f:aj.length<=cap)(s:cap*n<=X.size)(m:G.bX a=0)(e:∀j:Nat,j<l.length->X[j]?=l[j]?):gH P G w b (.bn n aj):=by
 refine⟨g,h.row,.inl ⟨a,X,elem,cap,k,t,f,u,s,m,fun i j v p c q=>?_⟩⟩
 obtain⟨x,d,o⟩:=h.get i j p q;rw[e _ (aE.1 d).1,d]at c;obtain rfl:=ax c;exact o
def BW(c:Inv P w0 aR O G heap w)(E:P.underlying t=some (.slice g))(J:P.underlying tx=some (.slice U))(Y:P.info? g=some i)(B:i.zero=some z)(I:i.size=n)(a2:z.cells.size=n)(a0:0<i.bytes)(o:cm G.bX w x (.sl n d))(a3:d.length*i.bytes<=2^47)(Z:cx nb [.bn n d] heap=some u):
  ∃v w',(Builtin.append_ #[t,tx] ty #[.slice none 0 0,x]).run P w = .ok v w'/\∃f,lQ P w0 aR O G ae w (.bA nb) ae u v f w':=by
 obtain⟨s,rfl⟩:=iG Z;have a4:¬G.bD nb:=c.box _ _ s;have q:=(aE.1 s).1;by_cases K:d=[]
 .subst K
  let f:Gh:=⟨G.bX,(G.dM some).h,fun b'=>if b'=nb then .slice none 0 0 else G.val b',fun b'=>G.bD b'\/b'=nb⟩
  have T:∀b',G.bD b'->(fun b'=>if b'=nb then Value.slice none 0 0 else G.val b') b'=G.val b':=fun b' h=>by
   have:b'≠nb:=fun e=>a4 (e▸h)
   simp[this]
  have F:cq G ae w f ae w:=.ghost _ (fun _ h=>.inl h) T (ar _) fun t m h _=>⟨m,h,.inr ⟨rfl,rfl⟩⟩
  refine⟨_,_,rj E J Y I (ar _) o,f,.N4 (.inr rfl) (by simp[f]) rfl,c.ghost some (fun x y z b r=>by simp at b r;rw[b,r]) (fun b' h=>?_) (fun b' bx a=>?_) (fun b' m a=>?_),F⟩
  .rw[ft]
   rcases h with h|rfl
   .exact c.nb b' h
   .exact q
  .by_cases b:b'=nb
   .subst b
    rw[bU q]at a;obtain rfl:=ax a;exact⟨.inr rfl,by simp,.inr ⟨rfl,none,by simp⟩⟩
   .rw[bT (fun e=>b e.symm)]at a
    refine(c.box b' bx a).dM (fun _ h=>.inl h) T (fun a1=>?_) fun x o=>rfl
    subst a1;have:=c.box _ _ a;rintro(h|h)
    .exact this h
    .exact b h
  .by_cases b:b'=nb
   .subst b
    rw[bU q]at a;simp at a
   .rw[bT (fun e=>b e.symm)]at a
    have:=c.dead b' m a;simpa[Gh.dM]using this
 .have a5:0<d.length:=DT.2 K
  obtain⟨X,S,Q,M,W,l,D,V⟩:=y9 (ty:=ty) (x:=x) (A:=none) (len:=0) (cap:=0) (aj:=[]) (oy:=[]) (G:=G) E J Y B I a2 ⟨by simp,by simp,fun i j p R=>by simp[kf]at R⟩ rfl (.inl ⟨rfl,rfl⟩) o a0 (by simpa using a3) (by omega)
  simp only[dP]at Q M D;obtain⟨C,H⟩:=c.drew (ae:=ae);obtain⟨L,N⟩:=C.wj (ae:=ae) (.cells X g) 0 (.slice (some ⟨w.heap.size,0,none⟩) d.length S) (.bn n d) s (by simp) fun k=>
   iH.box (D.grow (H.trans k).grow) (.inr rfl) (aG rfl) (aG rfl) (heap_alloc_new w.drew _) M W (fU _ _ _) V
  refine⟨_,_,Q,_,?_,L,H.trans N⟩;exact .N4 (.inr rfl) (aG rfl) rfl
def BX(K:Inv P w0 aR O G heap w)(F:P.underlying t=some (.slice Y))(L:P.underlying tx=some (.slice a5))(U:P.info? Y=some i)(hz:i.zero=some z)(C:i.size=n)(b0:z.cells.size=n)(a9:0<i.bytes)(hs:aS G ae w s (.bA b))(H:heap[b]?=some (.bn n aj))(R:cm G.bX w x (.sl n a))(b2:(aj++a).length*i.bytes<=2^47)(hf:cx nb [.bn n (aj++a)] (heap.set b .dead)=some h'):
  ∃v w',(Builtin.append_ #[t,tx] ty #[s,x]).run P w = .ok v w'/\∃G',lQ P w0 aR O G ae w (.bA nb) ae h' v G' w':=by
 obtain⟨W,rfl⟩:=iG hf;have a8:=(aE.1 H).1;obtain⟨hV,I,hr,A,cap,oy,rfl,B,o,D⟩:=K.Ey hs H;have a0:b≠nb:=fun e=>by
  subst e;rw[bU a8]at W;simp at W
 have S:heap[nb]?=some .free:=by rwa [bT a0]at W
 have b4:(heap.set b .dead).set nb (.bn n (aj++a))=(heap.set nb (.bn n (aj++a))).set b .dead:=by
  rw[List.set_comm _ _ a0]
 by_cases a3:a=[]
 .subst a3
  rw[fr];obtain⟨y,g⟩:=K.Ew (ae:=ae) (nb:=nb) (V:=.slice A aj.length cap) (bx:=.bn n aj) I S (by simp) (by
   refine⟨.inr rfl,hr,?_⟩;rcases D with⟨d,c⟩|⟨m,X,elem,rfl,d,c,Z,q,r⟩
   .have:aj=[]:=ir.1 d
    subst this;subst c;exact .inr ⟨rfl,A,by simp⟩
   .refine .inl ⟨m,X,elem,cap,by simp[Gh.dM,sI,d],by simp,B,c,Z,q,fun i j v p hv hq=>?_⟩
    obtain⟨v',T,hp⟩:=o.get i j p hq;have Q:=tw hr hq;rw[r,ff,aG Q]at T;simp at T;rw[hv]at T;obtain rfl:=ax T;exact hp)
  refine⟨_,_,rj F L U C B R,_,?_,y,g⟩;exact .N4 (.inr rfl) (aG rfl) rfl
 .have b6:0<a.length:=DT.2 a3
  rcases bY cap (aj.length+a.length)with J|J
  .obtain⟨X,nc,N,b1,a7,l,hl,a6⟩:=y9 (ty:=ty) (x:=x) (G:=G) F L U hz C b0 o rfl (D.imp id fun⟨m,X,elem,D,d,c,Z,q,r⟩=>⟨m,0,D,fun j u f=>by
    rw[r,ff]at f;split at f<;>try(simp at f;done)
    rw[cv,dF c];simpa using f⟩) R a9 b2 J
   obtain⟨i0,k0⟩:=K.drew (ae:=ae);obtain⟨y,g⟩:=i0.wj (ae:=ae) (.cells X Y) 0 (.slice (some ⟨w.heap.size,0,none⟩) (aj++a).length nc) (.bn n (aj++a)) S (by simp) fun k=>
    iH.box (hl.grow (k0.trans k).grow) (.inr rfl) (aG rfl) (aG rfl) (heap_alloc_new w.drew _) b1 a7 (fU _ _ _) a6
   have M:=y.kill (b:=b) (.inl I);rw[<-b4]at M;refine⟨_,_,N,_,?_,M,k0.trans g⟩;exact .N4 (.inr rfl) (aG rfl) rfl
  .rcases D with⟨d,c⟩|⟨m,X,elem,rfl,d,c,Z,q,r⟩
   .omega
   obtain⟨news,E,N,n1,b5,a2,a1⟩:=GF (ty:=ty) (off:=0) F L U C R J c (by omega)
   simp only[cv]at a2 a1;have a4:∀j,j<oy.length->E[j]?=oy[j]?:=fun j f=>by
    have Q:j<aj.length*n:=by rw[<-o.len];exact f
    rw[a2 j Q,r,ff,aG Q];simp
   obtain⟨y,g⟩:=K.Et (ae:=ae) (uP:=.bn n aj) (X:=E) H d q (by simp) fun k=>
    iH.box (o.grow k.grow) I d hV.symm (setRow_heap w m X E elem (0,0) c) B (by omega) q a4
   have b3:heap.set b (.bn n aj)=heap:=by
    apply fe;intro j;rw[iS];split
    .subst_vars;exact H.symm
    .rfl
   rw[b3]at y;obtain⟨M,k2⟩:=y.Ew (ae:=ae) (nb:=nb) (V:=.slice (some ⟨m,0,none⟩) (aj.length+a.length) cap) (bx:=.bn n (aj++a)) I S (by simp) (by
    refine iH.box (l:=oy++news) (cap:=cap) ((o.grow g.grow).append (n1.grow g.grow)) (.inr rfl) (by simp[Gh.dM,sI,d]) (by simp) (setRow_heap w m X E elem (0,0) c) (by rw[dC];exact J) (by omega) q fun j f=>?_
    rcases bY j oy.length with h|h
    .rw[cj h];exact a4 j h
    .rw[eN h,<-a1 _ (by simp at f;omega),o.len]
     congr 1
     rw[o.len]at h;omega)
   refine⟨_,_,N,_,?_,M,g.trans k2⟩;exact .N4 (.inr rfl) (aG rfl) rfl
def Ez(u:Inv P w0 aR O G heap w)(F:P.underlying t=some (.slice m))(Z:cw P m=some k)(B:aS G ae w V (.bA b))(s:heap[b]?=some (.bn n aj))(z:a<=aj.length)(T:cx nb [.bn n (aj.take a)] (heap.set b .dead)=some o):
  ∃v w',(do pure (.value (<-Instr.sliceAt t V none (some (.int kk (a:Int))) none)):Sem Next).run P w = .ok (.value v) w'/\∃H,lQ P w0 aR O G ae w (.bA nb) ae o v H w':=by
 obtain⟨l,rfl⟩:=iG T;have S:=(aE.1 s).1;obtain⟨hV,Q,x,A,cap,oy,rfl,a2,a0,q⟩:=u.Ey B s;have U:b≠nb:=fun e=>by
  subst e;rw[bU S]at l;simp at l
 have a1:heap[nb]?=some .free:=by rwa [bT U]at l
 have I:(Instr.sliceBound (.int kk (a:Int)) cap .sliceAcap).run P w = .ok a w:=by
  have:(a:Int)<=(cap:Int):=by omega
  simp[Instr.sliceBound,asIntOf,this]
 have E:(Instr.sliceAt t (.slice A aj.length cap) none (some (.int kk (a:Int))) none).run P w = .ok (.slice (if cap=0 then A else A.map (·.add (0*k))) (a-0) (cap-0)) w:=by
  simp[Instr.sliceAt,Instr.slice,run_underlying F,Instr.sliceBounds,I,dQ Z]
 have N:(if cap=0 then A else A.map (·.add (0*k)))=A:=by
  split
  .rfl
  .rcases q with⟨_,h⟩|⟨y,X,elem,rfl,_⟩
   .omega
   .simp[nW]
 rw[N,Nat.sub_zero,Nat.sub_zero]at E;obtain⟨C,L⟩:=u.Ew (ae:=ae) (nb:=nb) (V:=.slice A a cap) (bx:=.bn n (aj.take a)) Q a1 (by simp) (by
  refine⟨.inr rfl,fun r h=>x r (sC h),?_⟩
  rcases q with⟨f,g⟩|⟨y,X,elem,rfl,f,g,J,K,M⟩
  .have:aj=[]:=ir.1 f
   subst this;subst g;have:a=0:=by simpa using z
   subst this;exact .inr ⟨by simp,A,by simp⟩
  .refine .inl ⟨y,X,elem,cap,by simp[Gh.dM,sI,f],by simp[z],by simp;omega,g,J,K,fun i j v p R c=>?_⟩
   have D:kf aj i j=some p:=by
    unfold kf at c⊢;rw[ff]at c;split at c
    .exact c
    .simp at c
   obtain⟨v',d,Y⟩:=a0.get i j p D;have W:=tw x D;rw[M,ff,aG W]at d;simp at d;rw[R]at d;obtain rfl:=ax d;exact Y)
 refine⟨_,_,bK _ E,_,?_,C,L⟩;exact .N4 (.inr rfl) (aG rfl) rfl
def EA{t f n b:Nat}{i:Int}(k:Inv P w0 aR O G heap w)(o:aS G ae w V (.bA b))(c:heap[b]?=some (.bn n aj)\/heap[b]?=some (.uK n aj))(m:P.underlying t=some (.slice f))(l:cw P f=some n)(h:0<=i/\i<aj.length):Plain P G ae w (do pure (.value (<-Instr.indexAt t V (.int kk i)))) (.gg b n i 0):=by
 rcases c with c|c
 .obtain⟨d,e,y,A,cap,oy,rfl,K,M,q⟩:=k.Ey o c
  rcases q with⟨p,_⟩|⟨J,X,elem,rfl,p,z,r,D,E⟩
  .omega
  .refine .pure (bK _ (m5 m l h _)) ?_
   have:=aS.gg (G:=G) (ae:=ae) (w:=w) (b:=b) (n:=n) (j:=0) (i:=i) e ⟨h.1,by omega⟩ d.symm
   simpa using this
 .obtain⟨e,g⟩:=k.box _ _ c
  have d:V=G.val b:=by cases o;rfl
  subst d;generalize s:G.val b=v at g;cases g with
  |m3=>simp at h;omega
  |Jo a=>simp at h;omega
  |sl b' off len cap n aj u x H y Q I=>
   subst x;refine .pure (bK _ (m5 m l h _)) ?_;have:=aS.gg (G:=G) (ae:=ae) (w:=w) (b:=b) (n:=n) (j:=0) (i:=i) e ⟨h.1,by omega⟩ s
   simpa using this
def JR(a:kT P c p=true)(h:cm e w v p):∃d,P.underlying c=some d/\MapKept.IsKey d v:=by
 unfold kT at a;split at a
 .rename_i k f n b
  cases h;exact⟨_,b,by have:=aU a;simp[MapKept.IsKey,this]⟩
 .rename_i b
  cases h;exact⟨_,b,by simp[MapKept.IsKey]⟩
 .simp at a
def key_eq(z:P.underlying g=some d)(c:kT P g p=true)(b:kT P g f=true)(h:cm o w v p)(m:cm o w j f):
  Instr.sameNow d v j=some (l9 p f)/\(l9 p f=true->f=p/\j=v):=by
 unfold kT at c b;rw[z]at c b;split at c
 .rename_i k r n l
  obtain rfl:=ax l;split at b
  .rename_i D E H q
   simp only[ay,TypeDesc.int.injEq]at q;subst q;have t:=aU c;have u:=aU b;subst t;subst u;cases h;cases m;refine⟨by simp[Instr.sameNow,l9],fun a=>?_⟩
   simp[l9]at a;subst a;exact⟨rfl,rfl⟩
  .simp_all
  .simp at b
 .rename_i l
  obtain rfl:=ax l;split at b
  .simp_all
  .cases h with
   |str s=>
    cases m with
    |str i=>
     have e:(s==i)=(s.data.toList==i.data.toList):=by
      rw[beq_toListBytes,ByteArray.toList_eq,ByteArray.toList_eq]
     refine⟨by simp only[Instr.sameNow,l9,e],fun a=>?_⟩
     simp only[l9,beq_iff_eq]at a;refine⟨by rw[a],?_⟩
     obtain⟨⟨x⟩⟩:=s;obtain⟨⟨y⟩⟩:=i;simp at a;rw[a]
  .simp at b
 .simp at c
def Ck(h:kT P a p=true):l9 p p=true:=by
 unfold kT at h;split at h<;>simp[l9]at*
def N5(p q:PV):l9 p q=l9 q p:=by
 cases p<;>cases q<;>simp[l9,Bool.beq_comm,BEq.comm]
def uY(u:P.underlying t=some d)(v:kT P t key=true)(r:cm D w j key):∀(l:List MapEntry)(b:List (PV×AV))(c:Nat),l.length=b.length ->
  (∀(i:Nat)e x,l[i]?=some e->b[i]?=some x->cm D w e.key x.1)->(∀x∈b,kT P t x.1=true)->
  (cK b key=none/\Instr.findNow d j l c=some none/\(∀a,cB b key a=b++[(key,a)])/\k9 b key=b/\∀x∈b,l9 key x.1=false) \/
  (∃i e x,l[i]?=some e/\b[i]?=some x/\x.1=key/\e.key=j/\cK b key=some x.2/\Instr.findNow d j l c=some (some (c+i,e.val))/\(∀a,cB b key a=b.set i (key,a))/\k9 b key=b.eraseIdx i)
 |[],[],c,_,_,_=>.inl ⟨rfl,rfl,fun _=>rfl,rfl,by simp⟩
 |e::l,x::b,c,g,z,h=>by
  obtain⟨f,q⟩:=key_eq u v (h x (aW ..)) r (z 0 e x rfl rfl);cases hb:l9 key x.1 with
  |true=>
   obtain⟨H,I⟩:=q hb;rw[hb]at f;exact .inr ⟨0,e,x,rfl,rfl,H,I,by simp[cK,hb],by simp[Instr.findNow,f],fun a=>by simp[cB,hb],by simp[k9,hb]⟩
  |false=>
   rw[hb]at f;rcases uY u v r l b (c+1) (by simpa using g) (fun i e x f q=>z (i+1) e x (by simpa using f) (by simpa using q)) (fun x Q=>h x (aV _ Q))with⟨k,m,n,o,p⟩|⟨i,E,T,k,m,n,o,p,J,K,M⟩
   .exact .inl ⟨by simp[cK,hb,k],by simp[Instr.findNow,f,m],fun a=>by simp[cB,hb,n],by simp[k9,hb,o],fun y s=>by
     rcases aY.1 s with rfl|s
     .exact hb
     .exact p y s⟩
   .exact .inr ⟨i+1,E,T,by simpa using k,by simpa using m,n,o,by simp[cK,hb,p],by simp[Instr.findNow,f,J];omega,fun a=>by simp[cB,hb,K],by simp[k9,hb,M]⟩
 |[],x::b,c,g,_,_=>by simp at g
 |e::l,[],c,g,_,_=>by simp at g
def x0.push(h:x0 f clock n)(k v:Value):x0 (f.push {key:=k,val:=v,born:=clock}) (clock+1) (n+1):=by
 refine⟨by simp[h.1],fun x c=>?_,?_⟩
 .rw[Array.toList_push]at c
  rcases bp.1 c with c|c
  .exact Nat.lt_succ_of_lt (h.2.1 x c)
  .simp at c;subst c;exact Nat.lt_succ_self _
 .rw[Array.toList_push,bN]
  refine uz.2 ⟨h.2.2,by simp,fun a g b d e=>?_⟩
  simp at d;subst d;obtain⟨x,c,rfl⟩:=bh.1 g;exact absurd (h.2.1 x c) (by omega)
def x0.modify(h:x0 a clock n)(i:Nat)(k v:Value):x0 (a.modify i fun e=>{e with key:=k,val:=v}) clock n:=by
 have e:(a.modify i fun e=>{e with key:=k,val:=v}).toList.map (·.born)=a.toList.map (·.born):=by
  apply fe;intro j;simp only[bu,iq,yn];by_cases b:i=j
  .subst b;cases a[i]?<;>simp
  .rw[aN b]
 refine⟨by simp[h.1],fun x c=>?_,by rw[e];exact h.2.2⟩
 have:x.born∈a.toList.map (·.born):=by rw[<-e];exact bh.2 ⟨x,c,rfl⟩
 obtain⟨y,d,e⟩:=bh.1 this;rw[<-e];exact h.2.1 y d
def x0.erase(h:x0 a clock n)(d:i<n):x0 (a.eraseIdxIfInBounds i) clock (n-1):=by
 have c:i<a.size:=by rw[h.1];exact d
 have e:(a.eraseIdxIfInBounds i).toList=a.toList.eraseIdx i:=by
  rw[Js,dif_pos c,Array.toList_eraseIdx]
 refine⟨by rw[Js,dif_pos c,Array.size_eraseIdx,h.1],fun x b=>?_,?_⟩
 .rw[e]at b
  exact h.2.1 x (D5 b)
 .rw[e]
  exact h.2.2.sublist ((List.eraseIdx_sublist _ _).map _)
def Inv.JS(D:Inv P w0 aR O G heap w)(g:aS G ae w V (.mp b))(h:heap[b]?=some (.map t c))(E:P.underlying t=some (.map l n)):
  ∃a d clock,V = .map (some a)/\G.bD b/\G.val b = .map (some a)/\G.h (.box b)=some a/\w.heap[a]?=some (.map d clock)/\x0 d clock c.length/\(∀x∈c,x.2.JB=true/\kT P l x.1=true)/\
   (c.map (·.1)).Pairwise (fun k H=>l9 k H=false)/\∀(i:Nat)e x,d[i]?=some e->c[i]?=some x->cm G.bX w e.key x.1/\oS G w (.ov b x.1) e.val x.2:=by
 have z:V=G.val b:=by cases g;rfl
 subst z;obtain⟨a,d,clock,r,o,j,p,q,s,u,v⟩:=D.box _ _ h;refine⟨a,d,clock,j,r,j,o,p,q,fun x g=>?_,u,v⟩
 obtain⟨y,J,I,f,m⟩:=s x g;rw[E]at f;simp only[ay,TypeDesc.map.injEq]at f;rw[f.1];exact⟨y,m⟩
def oS.rep(h:oS G w x v a)(d:∀n aj,a≠.ke n aj):aS G ae w v a:=by
 by_cases b:∃ps,a = .agg ps
 .obtain⟨ps,rfl⟩:=b
  exact aS.ofNil h rfl
 .have c:=(mM fun ps e=>b ⟨ps,e⟩).1 h
  have:=c.view (ae:=ae);have e:a.view=a:=by cases a<;>first|rfl|exact absurd rfl (d _ _)
  rwa [e]at this
def GG(g:Inv P w0 aR O G heap w)(f:cx nb [.map t []] heap=some b):
  ∃v w',(do pure (.value (<-Instr.makeMap t none)):Sem Next).run P w = .ok (.value v) w'/\∃a,lQ P w0 aR O G ae w (.mp nb) ae b v a w':=by
 obtain⟨o,rfl⟩:=iG f;obtain⟨m,n⟩:=g.wj (ae:=ae) (.map #[] 0) 0 (.map (some w.heap.size)) (.map t []) o (by simp) fun k=>
  ⟨w.heap.size, #[],0,.inr rfl,aG rfl,aG rfl,heap_alloc_new w _,⟨rfl,by simp,by simp⟩,by simp,by simp,fun i e x p c=>by simp at c⟩
 refine⟨_,_,bK _ (run_makeMap_plain w t),_,?_,m,n⟩;have:∀(a:Gh)(v:Value),a.bD nb->a.val nb=v->v.oneCell'=true->aS a ae (w.alloc (.map #[] 0)) v (.mp nb):=by
  intro a v d l j;subst l;exact .mp d j
 exact this _ _ (.inr rfl) (aG rfl) rfl
def za(j:P.underlying t=some (.map l f))(a:P.underlying l=some d)(g:MapKept.IsKey d b)(k:w.heap[m]?=some (.map e clock))(h:(∃i,Instr.findNow d b e.toList 0=some (some (i,v))/\B=true)\/(Instr.findNow d b e.toList 0=some none/\B=false/\(zeroValue f).run P w = .ok v w)):
  (Instr.lookup t (.map (some m)) b ok).run P w = .ok (if ok then .tuple #[v,.bool B]else v) w:=by
 rcases h with⟨i,c,rfl⟩|⟨c,rfl,n⟩
 .simp[Instr.lookup,run_underlying j,MapKept.run_getObj_map k,MapKept.run_checkKey a g,MapKept.run_findKey a c]
 .simp[Instr.lookup,run_underlying j,MapKept.run_getObj_map k,MapKept.run_checkKey a g,MapKept.run_findKey a c,n]
def yw{ok B:Bool}(h:aS e bz w' v a):aS e bz w' (if ok then .tuple #[v,.bool B]else v) (match ok with|true=>.xZ [a,.v (.bool B)]|false=>a):=by
 cases ok with
 |false=>exact h
 |true=>
  refine .xZ rfl fun j u b d c=>?_
  match j with
  |0=>simp at d c;subst d;subst c;exact h
  |1=>simp at d c;subst d;subst c;exact .ma _
  |j+2=>simp at c
def JT(u:Inv P w0 aR O G heap w)(E:aS G ae w V (.mp b))(a3:cm G.bX w K key)(hb:heap[b]?=some (.map t g))(D:P.underlying t=some (.map B T))(Z:kT P B key=true):
  (cK g key=none->∀z,qW P T=some z->Plain P G ae w (do pure (.value (<-Instr.lookup t V K ok))) (match ok with|true=>.xZ [z,.v (.bool false)]|false=>z))/\
  (∀a,cK g key=some a->(∀n aj,a≠.ke n aj)->Plain P G ae w (do pure (.value (<-Instr.lookup t V K ok))) (match ok with|true=>.xZ [a,.v (.bool true)]|false=>a))/\
  (∀n aj,cK g key=some (.ke n aj)->Plain P G ae w (do pure (.value (<-Instr.lookup t V K ok))) (match ok with|true=>.xZ [.v (.sl n aj),.v (.bool true)]|false=>.v (.sl n aj))/\
   ∃v,(do pure (.value (<-Instr.lookup t V K ok)):Sem Next).run P w = .ok (.value v) w/\∃G',lQ P w0 aR O G ae w (match ok with|true=>.xZ [.own ae.length 0 n aj,.v (.bool true)]|false=>.own ae.length 0 n aj) (ae++[some 0])
    (heap.set b (.map t (cB g key (.v (.sl n aj))))) v G' w):=by
 obtain⟨b1,a6,clock,rfl,he,hv,hh,R,a5,U,a4,r⟩:=u.JS E hb D;have hs:=a5.1;obtain⟨d,Y,W⟩:=JR Z a3;have I:=uY Y Z a3 a6.toList g 0 (by simpa using hs) (fun i e x k f=>(r i e x (by simpa using k) f).1) (fun x E=>(U x E).2)
 refine⟨fun s z hz=>?_,fun a s hc=>?_,fun n aj s=>?_⟩
 .rcases I with⟨_,o,_⟩|⟨i,e,x,_,_,_,_,p,_⟩
  .obtain⟨zv,b7,rfl⟩:=Ce hz
   exact .pure (bK _ (za D Y W R (.inr ⟨o,rfl,b7 w⟩))) (yw (lP _ _ _ _))
  .rw[s]at p;simp at p
 .rcases I with⟨c,_⟩|⟨i,e,x,c,o,X,g4,p,N,_⟩
  .rw[s]at c;simp at c
  .rw[s]at p
   obtain rfl:=ax p;have L:=(r i e x (by simpa using c) o).2
   exact .pure (bK _ (za D Y W R (.inl ⟨_,N,rfl⟩))) (yw (L.rep hc))
 .rcases I with⟨c,_⟩|⟨i,e,x,c,o,X,g4,p,N,g7,_⟩
  .rw[s]at c;simp at c
  .rw[s]at p
   have b6:=ax p;have L:=(r i e x (by simpa using c) o).2
   rw[<-b6,X]at L;have a9:eO G w (.ov b key) e.val (.ke n aj):=L;obtain⟨A,len,cap,b3,F,b8⟩:=a9.2;have a8:=za (ok:=ok) D Y W R (.inl ⟨_,N,rfl⟩);refine⟨.pure (bK _ a8) (yw (.v F)),_,bK _ a8,?_⟩;have a0:=(aE.1 hb).1;have a2:cq G ae w ⟨G.bX,(G.dM (mv (.ov b key) (.tok ae.length))).h,G.val,G.bD⟩ (ae++[some 0]) w:=by
    refine .ghost _ (fun _ h=>h) (fun _ _=>rfl) (by simp) fun t m k f=>?_
    rw[cj f]at k;refine⟨m,k,.inr ⟨rfl,eh (fun e=>?_) (by simp)⟩⟩
    simp only[Hd.tok.injEq]at e;omega
   rw[g7];have C:=(aE.1 o).1;refine⟨⟨G.bX,(G.dM (mv (.ov b key) (.tok ae.length))).h,G.val,G.bD⟩,yw ?_,u.ghost (mv (.ov b key) (.tok ae.length)) (Es _ _) (fun b' h=>by rw[ft];exact u.nb b' h) (fun b' bx l=>?_) (fun b' m l=>?_),a2⟩
   .rw[b3]at F⊢
    exact .own (by simp) (fun m J=>by simp at J;omega) F fun _=>b8.bF fun m J=>⟨by simp[Gh.dM,sI,J],rfl,rfl⟩
   .by_cases H:b'=b
    .subst H
     rw[bU a0]at l;obtain rfl:=ax l;refine⟨b1,a6,clock,he,?_,hv,R,by rw[ft];exact a5,fun M b5=>?_,?_,fun j Q M k f=>?_⟩
     .simp[Gh.dM,eh (x:=.ov b' key) (y:=.tok ae.length) (z:=.box b') (by simp) (by simp),hh]
     .rcases uJ b5 with h|rfl
      .exact⟨(U _ h).1,B,T,D,(U _ h).2⟩
      .exact⟨rfl,B,T,D,Z⟩
     .have:(g.set i (key,AV.v (.sl n aj))).map (·.1)=g.map (·.1):=by
       rw[List.map_set];apply fe;intro q;rw[iS];split
       .subst_vars;simp[(aE.1 o).2,C]
       .rfl
      rw[this];exact a4
     .by_cases S:i=j
      .subst S
       rw[bU C]at f;obtain rfl:=ax f;have b2:Q=e:=by rw[iq]at c;rw[c]at k;exact(ax k).symm
       subst b2;refine⟨by have:=(r i Q x k o).1;rw[X]at this;exact this,?_⟩
       exact(mM (by simp)).2 ⟨a9.1,.v F⟩
      .rw[bT S]at f
       refine⟨(r j Q M k f).1,(r j Q M k f).2.bF a2.low fun m J=>⟨?_,rfl,rfl⟩⟩
       have b4:(Hd.ov b' M.1)≠.ov b' key:=by
        intro e2;simp only[Hd.ov.injEq,true_and]at e2;have a1:=(aE.1 f).1;have b0:l9 key key=true:=Ck Z;have p1:(g.map (·.1))[i]?=some key:=by simp[o,X]
        have p2:(g.map (·.1))[j]?=some key:=by simp[f,e2]
        have a7:=yt.1 a4;rcases Nat.lt_trichotomy i j with h|h|h
        .have:=a7 i j (by simpa using C) (by simpa using a1) h
         rw[(aE.1 p1).2,(aE.1 p2).2,b0]at this;simp at this
        .exact S h
        .have:=a7 j i (by simpa using a1) (by simpa using C) h
         rw[(aE.1 p1).2,(aE.1 p2).2,b0]at this;simp at this
       simp[Gh.dM,eh (x:=.ov b' key) (y:=.tok ae.length) (z:=.ov b' M.1) (by simp) b4,J]
    .rw[bT (fun e=>H e.symm)]at l
     refine(u.box b' bx l).dM (fun _ h=>h) (fun _ _=>rfl) (fun I=>by subst I;exact u.box _ _ l) fun x E=>eh (fun e=>?_) fun e=>?_
     .subst e;exact E
     .subst e;exact H E.symm
   .by_cases H:b'=b
    .subst H
     rw[bU a0]at l;simp at l
    .rw[bT (fun e=>H e.symm)]at l
     have:=u.dead b' m l;simpa[Gh.dM,eh (x:=.ov b key) (y:=.tok ae.length) (z:=.box b') (by simp) (by simp)]using this
def GH(h:ti P t a T=some (b,f)):
  (∃tk e n aj,a = .own tk e n aj/\T[tk]?=some (some e)/\b = .ke n aj/\f=T.set tk none/\ti P t a []=some (.v (.sl n aj),[]))\/(f=T/\ti P t a []=some (b,[])):=by
 unfold ti at h⊢;split at h
 .simp only[ay,aA]at h
  obtain⟨rfl,rfl⟩:=h;exact .inr ⟨rfl,rfl⟩
 .split at h<;>try(simp at h;done)
  .rcases ku h with⟨tk,e,n,aj,g,c,d,i,j⟩|⟨c,d⟩
   .exact .inl ⟨tk,e,n,aj,g,c,d,i,j⟩
   .exact .inr ⟨c,d⟩
  .rcases ku h with⟨tk,e,n,aj,g,c,d,i,j⟩|⟨c,d⟩
   .simp at g
   .exact .inr ⟨c,d⟩
def zb(h:k8 c a T=some (.agg ps,d)):False:=by
 unfold k8 at h;split at h
 .split at h<;>simp at h
 .cases c<;>simp only at h<;>try(simp at h;done)
  split at h<;>simp at h
 .split at h<;>try(simp at h;done)
  rename_i b;simp only[ay,aA]at h;rw[h.1]at b;simp[AV.qX]at b
def zc(h:ti P t a []=some (b,[]))(c:aS G ae w v a):oS G w x v b:=by
 unfold ti at h;split at h
 .simp only[ay,aA]at h
  obtain⟨rfl,-⟩:=h;cases c with
  |agg f d=>
   have:=mE.norm (kr P t) (⟨f,d⟩:mE G.bX w _ _);exact aS.agg this.1 this.2
 .split at h<;>try(simp at h;done)
  .exact(mM fun ps e=>zb (e▸h)).2 (lR (x:=x) h rfl c).2.1
  .exact(mM fun ps e=>zb (e▸h)).2 (lR (x:=x) h rfl c).2.1
def JU(h:ti P t a T=some (b,d)):b.JB=true:=by
 unfold ti at h;have cell:∀(c:CT)(a:AV),a.qX=false->k8 c a T=some (b,d)->b.JB=true:=by
  intro c a e h;unfold k8 at h;split at h
  .split at h<;>simp at h<;>rw[<-h.1]<;>rfl
  .cases c<;>simp only at h<;>try(simp at h;rw[<-h.1];rfl)
   split at h<;>simp at h<;>rw[<-h.1]<;>rfl
  .rw[e]at h;simp at h
 split at h
 .simp at h;rw[<-h.1];rfl
 .split at h<;>try(simp at h;done)
  .exact cell _ _ rfl h
  .exact cell _ _ rfl h
def XZ{b:List (PV×AV)}{i j:Nat}(s:(b.map (·.1)).Pairwise (fun k p=>l9 k p=false))(n:l9 key key=true)(c:b[i]?=some (key,a))(d:b[j]?=some x)(q:i≠j):x.1≠key:=by
 intro o;have g:=(aE.1 c).1;have l:=(aE.1 d).1;have e:(b.map (·.1))[i]?=some key:=by simp[c]
 have f:(b.map (·.1))[j]?=some key:=by simp[d,o]
 have m:=yt.1 s;rcases Nat.lt_trichotomy i j with h|h|h
 .have:=m i j (by simpa using g) (by simpa using l) h
  rw[(aE.1 e).2,(aE.1 f).2,n]at this;simp at this
 .exact q h
 .have:=m j i (by simpa using l) (by simpa using g) h
  rw[(aE.1 e).2,(aE.1 f).2,n]at this;simp at this
def Inv.JV(f:Inv P w0 aR O G heap w)(M:heap[b]?=some (.map t k))(l:k[i]?=some (key,.v (.sl n aj)))(a3:l9 key key=true)(S:∀s v clock,G.h (.box b)=some s->w.heap[s]?=some (.map v clock)->∃e,v[i]?=some e/\e.val=u)(X:ae[tk]?=some (some L))(hu:aS G ae w u (.own tk L n aj)):
  ∃J,Inv P w0 aR O J (heap.set b (.map t (k.set i (key,.ke n aj)))) w/\cq G ae w J (ae.set tk none) w:=by
 have a5:=(aE.1 X).1;have F:=(aE.1 M).1;have R:=(aE.1 l).1;have T:cq G ae w ⟨G.bX,(G.dM (mv (.tok tk) (.ov b key))).h,G.val,G.bD⟩ (ae.set tk none) w:=by
  refine .ghost _ (fun _ h=>h) (fun _ _=>rfl) (by simp) fun t' m c d=>?_
  rw[iS]at c;split at c
  .simp at c
  .rename_i I
   exact⟨m,c,.inr ⟨rfl,eh (by simp) (by simpa using fun e=>I e.symm)⟩⟩
 refine⟨_,f.ghost (mv (.tok tk) (.ov b key)) (Es _ _) (fun b' h=>by rw[ft];exact f.nb b' h) (fun b' bx a=>?_) (fun b' m a=>?_),T⟩
 .by_cases g:b'=b
  .subst g
   rw[bU F]at a;obtain rfl:=ax a;obtain⟨s,v,clock,a0,Q,hv,Y,W,B,C,E⟩:=f.box _ _ M;refine⟨s,v,clock,a0,?_,hv,Y,by rw[ft];exact W,fun o a2=>?_,?_,fun j p o c d=>?_⟩
   .simp[Gh.dM,eh (x:=.tok tk) (y:=.ov b' key) (z:=.box b') (by simp) (by simp),Q]
   .rcases uJ a2 with h|rfl
    .exact B _ h
    .exact⟨rfl,(B (key,.v (.sl n aj)) (aK l)).2⟩
   .have:(k.set i (key,AV.ke n aj)).map (·.1)=k.map (·.1):=by
     rw[List.map_set];apply fe;intro q;rw[iS];split
     .subst_vars;simp[(aE.1 l).2,R]
     .rfl
    rw[this];exact C
   .by_cases H:i=j
    .subst H
     rw[bU R]at d;obtain rfl:=ax d;obtain⟨r,K,N⟩:=S _ _ _ Q Y;rw[c]at K;obtain rfl:=ax K;refine⟨(E i p _ c l).1,?_⟩;cases hu with
     |@own _ _ _ _ A len cap a6 a4 V a1=>
      have:eO ⟨G.bX,(G.dM (mv (.tok tk) (.ov b' key))).h,G.val,G.bD⟩ w (.ov b' key) p.val (.ke n aj):=by
       rw[N];exact⟨rfl,A,len,cap,rfl,V,(a1 X).bF fun m D=>⟨by simp[Gh.dM,sI,D],rfl,rfl⟩⟩
      exact this
    .rw[bT H]at d
     refine⟨(E j p o c d).1,(E j p o c d).2.bF T.low fun m D=>⟨?_,rfl,rfl⟩⟩
     have I:(Hd.ov b' o.1)≠.ov b' key:=by
      intro r;simp only[Hd.ov.injEq,true_and]at r;exact XZ C a3 l d H r
     simp[Gh.dM,eh (x:=.tok tk) (y:=.ov b' key) (z:=.ov b' o.1) I (by simp),D]
  .rw[bT (fun e=>g e.symm)]at a
   refine(f.box b' bx a).dM (fun _ h=>h) (fun _ _=>rfl) (fun U=>by subst U;exact f.box _ _ a) fun x Z=>eh (fun e=>?_) fun e=>?_
   .subst e;exact g Z.symm
   .subst e;exact Z
 .by_cases g:b'=b
  .subst g
   rw[bU F]at a;simp at a
  .rw[bT (fun e=>g e.symm)]at a
   have:=f.dead b' m a;simpa[Gh.dM,eh (x:=.tok tk) (y:=.ov b key) (z:=.box b') (by simp) (by simp)]using this
def GI(h:w.heap[b]?=some (.map a clock)):w.cell? ⟨b,j,none⟩=none:=by
 simp[World.cell?,h]
def Inv.EB(l:Inv P w0 aR O G heap w)(g:heap[b]?=some bx)(j:G.h (.box b)=some a)(c:w.heap[a]?=some (.map s clock))(i:uP≠.free)(q:cq G ae w G ae {w with heap:=w.heap.setIfInBounds a (.map rk pJ)}->gH P G {w with heap:=w.heap.setIfInBounds a (.map rk pJ)} b uP):
  Inv P w0 aR O G (heap.set b uP) {w with heap:=w.heap.setIfInBounds a (.map rk pJ)}/\cq G ae w G ae {w with heap:=w.heap.setIfInBounds a (.map rk pJ)}:=by
 obtain⟨k,h⟩:=l.write (ae:=ae) (bz:=ae) (hK:=G.bX) j (w':={w with heap:=w.heap.setIfInBounds a (.map rk pJ)}) (by simp) rfl rfl rfl (fun m n=>⟨(MapKept.heap_set c).2 m n,rfl⟩) (ar _)
  (fun o u=>by rw[GI c];exact GI (MapKept.heap_set c).1) (ar _) fun t m h _=>⟨m,h,.inr ⟨rfl,by simp⟩⟩
 refine⟨h _ (by simp) (fun b' p=>bT fun e=>p e) fun b' v f d=>?_,k⟩
 simp only[Hd.on]at f;subst f;rw[bU (aE.1 g).1]at d;obtain rfl:=ax d;exact⟨i,q k⟩
def Inv.P0(J:Inv P w0 aR O G heap w)(R:aS G ae w V (.mp b))(Z:cm G.bX w u key)(F:heap[b]?=some (.map t o))(h:P.underlying t=some (.map r E))(Y:kT P r key=true)(hB:a.JB=true)(hU:∀(w':World),cq G ae w G ae w'->oS G w' (.ov b key) U a):
  ∃w',(Instr.mapUpdate t V u U).run P w = .ok () w'/\Inv P w0 aR O G (heap.set b (.map t (cB o key a))) w'/\cq G ae w G ae w' /\
   ∃i,(cB o key a)[i]?=some (key,a)/\(∀a',cB o key a'=(cB o key a).set i (key,a'))/\∀s n clock,G.h (.box b)=some s->w'.heap[s]?=some (.map n clock)->∃e,n[i]?=some e/\e.val=U:=by
 obtain⟨s,n,clock,rfl,he,hv,v,l,W,Q,a1,K⟩:=J.JS R F h;have A:=W.1;obtain⟨d,I,a0⟩:=JR Y Z;have a7:s<w.heap.size:=(J.nO _ _ v).1;have a2:∀x m,x≠.box b->G.h x=some m->m≠s:=fun x m a3 z e=>a3 (J.inj _ _ _ z (e▸v))
 rcases uY I Y Z n.toList o 0 (by simpa using A) (fun i e x c f=>(K i e x (by simpa using c) f).1) (fun x R=>(Q x R).2)with⟨g1,T,H,g4,g5⟩|⟨i,e,x,g1,T,H,g4,g5,g6,X,g8⟩
 .obtain⟨B,C⟩:=J.EB (ae:=ae) (pJ:=clock+1) (rk:=n.push {key:=u,val:=U,born:=clock}) (uP:=.map t (cB o key a)) F v l (by simp) (fun k=>by
   rw[H];refine⟨s,_,clock+1,he,v,hv,(MapKept.heap_set l).1,by rw[dC];exact W.push _ _,fun y g=>?_,?_,fun j D M c f=>?_⟩
   .rcases bp.1 g with g|g
    .exact⟨(Q y g).1,r,E,h,(Q y g).2⟩
    .simp at g;subst g;exact⟨hB,r,E,h,Y⟩
   .rw[bN]
    refine List.pairwise_append.2 ⟨a1,by simp,fun p hp q hq=>?_⟩
    simp at hq;subst hq;obtain⟨y,g,rfl⟩:=bh.1 hp;rw[N5];exact g5 y g
   .rw[Array.getElem?_push]at c
    by_cases hj:j=n.size
    .subst hj
     rw[aG rfl]at c;obtain rfl:=ax c;rw[A,eN (ar _),lM]at f;simp at f;subst f;exact⟨Z.grow k.grow,hU _ k⟩
    .rw[aN hj]at c
     have a6:=(ia.1 c).1;rw[cj (by omega)]at f
     exact⟨(K j D M c f).1.grow k.grow,(K j D M c f).2.bF k.low fun m z=>⟨z,rfl,(MapKept.heap_set l).2 m (a2 _ m (by simp) z)⟩⟩)
  refine⟨_,?_,B,C,o.length,by rw[H];simp,fun a'=>by rw[H,H];simp,fun a4 rk a5 c f=>?_⟩
  .simp[Instr.mapUpdate,run_underlying h,MapKept.run_getObj_map l,MapKept.run_checkKey I a0,MapKept.run_findKey I T,MapKept.run_setObj_map _ l]
  .rw[v]at c
   obtain rfl:=ax c;have:=(MapKept.heap_set (o':=.map (n.push {key:=u,val:=U,born:=clock}) (clock+1)) l).1;rw[show({w with heap:=w.heap.setIfInBounds s (.map (n.push {key:=u,val:=U,born:=clock}) (clock+1))}:World).heap[s]?=_ from this]at f
   simp only[ay,Obj.map.injEq]at f;obtain⟨rfl,rfl⟩:=f;exact⟨{key:=u,val:=U,born:=clock},by rw[<-A];simp,rfl⟩
 .have S:=(aE.1 T).1
  have L:n[i]?=some e:=by simpa using g1
  obtain⟨B,C⟩:=J.EB (ae:=ae) (pJ:=clock) (rk:=n.modify i fun e=>{e with key:=u,val:=U}) (uP:=.map t (cB o key a)) F v l (by simp) (fun k=>by
   rw[X];refine⟨s,_,clock,he,v,hv,(MapKept.heap_set l).1,by rw[ft];exact W.modify _ _ _,fun y g=>?_,?_,fun j D M c f=>?_⟩
   .rcases uJ g with g|rfl
    .exact⟨(Q y g).1,r,E,h,(Q y g).2⟩
    .exact⟨hB,r,E,h,Y⟩
   .have:(o.set i (key,a)).map (·.1)=o.map (·.1):=by
     rw[List.map_set];apply fe;intro q;rw[iS];split
     .subst_vars;simp[(aE.1 T).2,S]
     .rfl
    rw[this];exact a1
   .rw[yn]at c
    by_cases N:i=j
    .subst N
     rw[aG rfl,L]at c;simp at c;subst c;rw[bU S]at f;obtain rfl:=ax f;exact⟨Z.grow k.grow,hU _ k⟩
    .rw[aN N]at c
     rw[bT N]at f;exact⟨(K j D M c f).1.grow k.grow,(K j D M c f).2.bF k.low fun m z=>⟨z,rfl,(MapKept.heap_set l).2 m (a2 _ m (by simp) z)⟩⟩)
  refine⟨_,?_,B,C,i,by rw[X,bU S],fun a'=>by rw[X,X,qS],fun a4 rk a5 c f=>?_⟩
  .simp[Instr.mapUpdate,run_underlying h,MapKept.run_getObj_map l,MapKept.run_checkKey I a0,MapKept.run_findKey I g6,L,g4,MapKept.run_keyThatStays a0,MapKept.run_setObj_map _ l]
  .rw[v]at c
   obtain rfl:=ax c;have:=(MapKept.heap_set (o':=.map (n.modify i fun e=>{e with key:=u,val:=U}) clock) l).1
   rw[show({w with heap:=w.heap.setIfInBounds s (.map (n.modify i fun e=>{e with key:=u,val:=U}) clock)}:World).heap[s]?=_ from this]at f
   simp only[ay,Obj.map.injEq]at f;obtain⟨rfl,rfl⟩:=f;exact⟨_,by rw[yn,aG rfl,L];rfl,rfl⟩
def BY(v:Inv P w0 aR O G heap w)(z:aS G ae w V (.mp b))(E:cm G.bX w e key)(j:aS G ae w U x)(l:heap[b]?=some (.map t p))(y:P.underlying t=some (.map D q))(m:kT P D key=true)(u:ti P q x T=some (a,o))(s:(T=ae/\F=o)\/(T=[]/\F=ae)):
  ∃w',(do Instr.mapUpdate t V e U;pure .skip:Sem Next).run P w = .ok .skip w'/\∃I,lQ P w0 aR O G ae w .none F (heap.set b (.map t (cB p key a))) undef I w':=by
 have skip:∀w',(Instr.mapUpdate t V e U).run P w = .ok () w'->(do Instr.mapUpdate t V e U;pure .skip:Sem Next).run P w = .ok .skip w':=fun w' h=>by simp[h]
 rcases GH u with⟨tk,Z,n,aj,rfl,H,rfl,rfl,g⟩|⟨rfl,g⟩
 .rcases s with⟨rfl,rfl⟩|⟨rfl,rfl⟩
  .obtain⟨w',f,d,c,i,K,M,Q⟩:=v.P0 (ae:=T) (a:=.v (.sl n aj)) z E l y m rfl fun w' k=>zc g (j.bF k)
   have Y:=(aE.1 l).1;obtain⟨J,r,X⟩:=d.JV (bU Y) K (Ck m) Q H (j.bF c);rw[qS,<-M]at r;exact⟨w',skip w' f,J,.none _,r,c.trans X⟩
  .simp at H
 .obtain⟨w',f,d,c,_⟩:=v.P0 (ae:=ae) (a:=a) z E l y m (JU u) fun w' k=>zc g (j.bF k)
  rcases s with⟨rfl,rfl⟩|⟨rfl,rfl⟩
  .exact⟨w',skip w' f,G,.none _,d,c⟩
  .exact⟨w',skip w' f,G,.none _,d,c⟩
def JW(E:Inv P w0 aR O G heap w)(M:aS G ae w V (.mp b))(N:cm G.bX w B key)(K:heap[b]?=some (.map t o))(v:P.underlying t=some (.map H I))(A:kT P H key=true):
  ∃w',(Builtin.delete_ #[t,t2] ty #[V,B]).run P w = .ok (.tuple #[]) w'/\Inv P w0 aR O G (heap.set b (.map t (k9 o key))) w'/\cq G ae w G ae w':=by
 obtain⟨X,n,clock,rfl,F,R,s,f,Y,D,S,u⟩:=E.JS M K v;have hs:=Y.1;obtain⟨d,q,W⟩:=JR A N;have U:∀x m,x≠.box b->G.h x=some m->m≠X:=fun x m a0 l e=>a0 (E.inj _ _ _ l (e▸s))
 rcases uY q A N n.toList o 0 (by simpa using hs) (fun i e x c a=>(u i e x (by simpa using c) a).1) (fun x M=>(D x M).2)with⟨g1,J,g3,Z,g5⟩|⟨i,e,x,g1,J,g3,Z,g5,g6,g7,g8⟩
 .obtain⟨Q,T⟩:=E.EB (ae:=ae) (pJ:=clock) (rk:=n) (uP:=.map t (k9 o key)) K s f (by simp) (fun k=>by
   rw[Z];exact⟨X,n,clock,F,s,R,(MapKept.heap_set f).1,Y,fun y z=>⟨(D y z).1,H,I,v,(D y z).2⟩,S,fun j g p c a=>
    ⟨(u j g p c a).1.grow k.grow,(u j g p c a).2.bF k.low fun m l=>⟨l,rfl,(MapKept.heap_set f).2 m (U _ m (by simp) l)⟩⟩⟩)
  refine⟨_,?_,Q,T⟩;simp[Builtin.delete_,run_underlying v,MapKept.run_getObj_map f,MapKept.run_checkKey q W,MapKept.run_findKey q J,MapKept.run_setObj_map _ f]
 .have C:=(aE.1 J).1
  have a1:i<n.size:=by omega
  obtain⟨Q,T⟩:=E.EB (ae:=ae) (pJ:=clock) (rk:=n.eraseIdxIfInBounds i) (uP:=.map t (k9 o key)) K s f (by simp) (fun k=>by
   rw[g8];refine⟨X,_,clock,F,s,R,(MapKept.heap_set f).1,?_,fun y z=>⟨(D y (D5 z)).1,H,I,v,(D y (D5 z)).2⟩,?_,fun j g p c a=>?_⟩
   .rw[List.length_eraseIdx,aG C];exact Y.erase C
   .exact S.sublist ((List.eraseIdx_sublist _ _).map _)
   .have r:(n.toList.eraseIdx i)[j]?=some g:=by
     rw[Js,dif_pos a1]at c;rw[<-c,<-iq,Array.toList_eraseIdx]
    rw[List.getElem?_eraseIdx]at r a;have key:∃h:Nat,n[h]?=some g/\o[h]?=some p:=by
     by_cases L:j<i
     .rw[aG L]at r a
      exact⟨j,by simpa using r,a⟩
     .rw[aN L]at r a
      exact⟨j+1,by simpa using r,a⟩
    obtain⟨h,c,a⟩:=key;exact⟨(u h g p c a).1.grow k.grow,(u h g p c a).2.bF k.low fun m l=>⟨l,rfl,(MapKept.heap_set f).2 m (U _ m (by simp) l)⟩⟩)
  refine⟨_,?_,Q,T⟩;simp[Builtin.delete_,run_underlying v,MapKept.run_getObj_map f,MapKept.run_checkKey q W,MapKept.run_findKey q g6,MapKept.run_setObj_map _ f]
def dH(P:Program)(x:Sem Next)(w:World)(K:Value->World->Prop):Prop:=
 match x.run P w with
 |.ok (.value v) w'=>K v w'
 |.ok .skip w'=>K undef w'
 |.ok (.enter f args) w'=>Calls P f args w' fun e a=>∃v,e = .returned v/\K v a
 |_=>False
def dH.gv(h:x.run P w = .ok (.value v) w')(k:K v w'):dH P x w K:=by
 unfold dH;rw[h];exact k
def dH.yx(h:x.run P w = .ok .skip w')(k:K undef w'):dH P x w K:=by
 unfold dH;rw[h];exact k
def dH.GJ(h:x.run P w = .ok (.enter f args) w')(k:Calls P f args w' fun e a=>∃v,e = .returned v/\K v a):dH P x w K:=by
 unfold dH;rw[h];exact k
def dH.mono(h:dH P x w K)(k:∀v w',K v w'->a v w'):dH P x w a:=by
 unfold dH at*;split at h
 .exact k _ _ h
 .exact k _ _ h
 .exact Calls.mono h fun e d⟨v,b,c⟩=>⟨v,b,k _ _ c⟩
 .exact h.elim
def Good(P:Program)(w0:World)(aR:Nat->Nat)(O:Nat->Prop)(G:Gh)(ae:List (Option Nat))(w:World)(a:AV)(bz:List (Option Nat))(c:List Bx)(v:Value)(w':World):Prop:=
 ∃b,lQ P w0 aR O G ae w a bz c v b w'
def Plain.ze(d:Inv P w0 aR O G heap w)(h:Plain P G ae w x a):dH P x w (Good P w0 aR O G ae w a ae heap):=by
 obtain⟨v,w',b,c⟩:=h.after d;exact .gv b c
def N6(g:q8 G ae w e ρ o.op)(h:plain P o.op an k ρ=some (a,l))(n:∀q∈l,q)(D:∀t len aT,o.op≠.buildSlice t len aT):Plain P G ae w (execOp e o) a:=by
 obtain⟨J,op,type,M,after,guard⟩:=o;cases op
 case move x=>simp only[plain,ay,aA]at h;obtain⟨rfl,rfl⟩:=h;exact .pure (by simp[execOp]) (g x (by simp[Op.operands]))
 case assign x=>simp only[plain,ay,aA]at h;obtain⟨rfl,rfl⟩:=h;exact .pure (by simp[execOp]) (g x (by simp[Op.operands]))
 case pick c x y=>
  obtain⟨E,v⟩:=g;have key:∀{B:Bool},ρ c = .v (.bool B)->aS G ae w (if B then e x else e y) a->Plain P G ae w (execOp e ⟨J,.pick c x y,type,M,after,guard⟩) a:=fun j I=>PN E j I
  by_cases r:∃t,k = .pk t
  .obtain⟨t,rfl⟩:=r
   simp only[plain]at h;split at h<;>try(simp at h;done)
   rename_i B j;simp only[ay,aA]at h;obtain⟨rfl,rfl⟩:=h;have K:B=t:=n _ (by simp)
   subst K;refine key j ?_;cases B with
   |true=>exact(v _ j).1 rfl
   |false=>exact(v _ j).2 rfl
  .have m:(match ρ c with
    |.v (.bool B)=>match ρ x,ρ y with
     |.v (.bool x),.v (.bool y)=>some ((.v (.bool (bif B then x else y)),[]):AV×List Prop)
     |x,y=>match B with
      |true=>some (x,[])
      |false=>some (y,[])
    |_=>none)=some (a,l):=by
    cases k<;>first|exact h|exact(r ⟨_,rfl⟩).elim
   clear h;split at m<;>try(simp at m;done)
   rename_i B j;refine key j ?_;split at m
   .rename_i bx Q u z
    simp only[ay,aA]at m;obtain⟨rfl,rfl⟩:=m;cases B with
    |true=>have:=(v _ j).1 rfl;rw[u]at this;exact this
    |false=>have:=(v _ j).2 rfl;rw[z]at this;exact this
   .split at m<;>simp only[ay,aA]at m<;>obtain⟨rfl,rfl⟩:=m
    .exact(v _ j).1 rfl
    .exact(v _ j).2 rfl
 case build t aT=>exact NZ (fun p H=>g p.2 (by simp only[Op.operands];exact bh.2 ⟨p,H,rfl⟩)) h
 case buildSlice t len aT=>exact absurd rfl (D t len aT)
 case load t x=>exact NT (g x (by simp[Op.operands])) h
 case nilCheck x=>exact El (g x (by simp[Op.operands])) rfl h
 case binOp op t x y t'=>exact NW (g x (by simp[Op.operands])) (g y (by simp[Op.operands])) h n
 case unOp op t x=>exact PU (g x (by simp[Op.operands])) h
 case convert s d x=>exact Gw (g x (by simp[Op.operands])) h n
 case makeInterface t x=>exact uU (g x (by simp[Op.operands])) h
 case typeAssert x xt t ok=>exact y5 (g x (by simp[Op.operands])) h n
 case makeFunc f first cap=>
  simp only[plain,ay,aA]at h;obtain⟨rfl,rfl⟩:=h;exact Em (fun x u=>g x (by simp only[Op.operands,uB];exact ef _ u)) fun x u=>g x (by simp only[Op.operands,uB];exact fD _ u)
 case slice t x lo hh mx=>
  exact NY (g x (by simp[Op.operands])) (fun y z=>g y (by cases z;simp[Op.operands])) (fun y z=>g y (by cases z;simp[Op.operands])) h n
 case fieldAddr s x f=>exact BS (g x (by simp[Op.operands])) h
 case field t x f=>exact NU (g x (by simp[Op.operands])) h
 case indexAddr t x ix=>exact BT (g x (by simp[Op.operands])) (g ix (by simp[Op.operands])) h n
 case index t x ix=>exact NV (g x (by simp[Op.operands])) (g ix (by simp[Op.operands])) h n
 case extract x i=>exact Gt (g x (by simp[Op.operands])) h
 case call c=>
  obtain⟨callee,args,argTypes⟩:=c;cases callee with
  |builtin b=>exact Gx (fun x u=>g x (by simp only[Op.operands,Call.operands];simpa using u)) rfl h n
  |_=>simp[plain]at h
 all_goals (simp[plain]at h)
def rn{c:Bool}(a:T=if c then ae else[])(d:Inv P w0 aR O G heap w)(i:q8 G ae w e ρ o.op)(h:(plain P o.op an k ρ).map (fun(v,l)=>({v,ae:=T,heap,dN:=l}:l8))=some r)(b:∀t len aT,o.op≠.buildSlice t len aT)(f:∀q∈r.dN,q):dH P (execOp e o) w (Good P w0 aR O G ae w r.v (if c then r.ae else ae) r.heap):=by
 obtain⟨⟨v,l⟩,g,rfl⟩:=bc.1 h;have:(if c then T else ae)=ae:=by subst a;cases c<;>rfl
 simp only[this];exact(N6 i g f b).ze d
def zf(c:Bool)(T:List (Option Nat)):((if c then ae else[])=ae/\(if c then T else ae)=T)\/((if c then ae else[])=[]/\(if c then T else ae)=ae):=by
 cases c
 .exact .inr ⟨rfl,rfl⟩
 .exact .inl ⟨rfl,rfl⟩
def lH(c:Bool):(if c then(if c then ae else[])else ae)=ae:=by cases c<;>rfl
def JX{t nb:Nat}(p:o.op = .alloc t)(j:Inv P w0 aR O G heap w)(h:core P nb (.alloc t) an k ρ [] heap=some r):dH P (execOp e o) w (Good P w0 aR O G ae w r.v ae r.heap):=by
 simp only[core]at h;split at h<;>try(simp at h;done)
 rename_i cs T n a u;split at h<;>try(simp at h;done)
 obtain⟨s,i,rfl⟩:=bc.1 h;obtain⟨z,l,a⟩:=cV.1 a;obtain⟨m,q,_,g⟩:=yY l;obtain⟨b,c,d,f⟩:=j.GB (elem:=t) (bz:=ae) (g G ae w) a (.inr ⟨rfl,rfl⟩) i;refine .gv (v:=.pointer (some ⟨w.heap.size,0,none⟩)) (w':=w.alloc (.cells m.cells t)) ?_ ⟨b,c,d,f⟩;simp only[execOp,p,Instr.alloc,Sem.run_bind,q,Result.andThen_ok,newVar,newRow];simp
def P1{t nb:Nat}(p:o.op = .box t x)(l:Inv P w0 aR O G heap w)(m:aS G ae w (e x) (ρ x)){c:Bool}(h:core P nb (.box t x) an k ρ (if c then ae else[]) heap=some r):dH P (execOp e o) w (Good P w0 aR O G ae w r.v (if c then r.ae else ae) r.heap):=by
 simp only[core]at h;split at h<;>try(simp at h;done)
 rename_i cs T n a s;split at h<;>try(simp at h;done)
 obtain⟨q,j,rfl⟩:=bc.1 h;unfold cellsOf at a;obtain⟨u,d,_,_⟩:=nY _ _ _ _ _ a;obtain⟨b,f,g,i⟩:=l.GB (elem:=t) (m.aT d) a (zf c T) j;refine .gv (v:=.pointer (some ⟨w.heap.size,0,none⟩)) (w':=w.alloc (.cells (e x).cells t)) ?_ ⟨b,f,g,i⟩;simp[execOp,p,Instr.box,newVar,newRow]
def zg{t nb:Nat}(I:o.op = .makeSlice t x y)(j:Inv P w0 aR O G heap w)(b:aS G ae w (e x) (ρ x))(c:aS G ae w (e y) (ρ y))(h:core P nb (.makeSlice t x y) an k ρ [] heap=some r)(a:∀q∈r.dN,q):dH P (execOp e o) w (Good P w0 aR O G ae w r.v ae r.heap):=by
 simp only[core]at h;split at h<;>try(simp at h;done)
 rename_i T u;split at h<;>try(simp at h;done)
 rename_i n F z Y m Z E s g D K M;split at h<;>try(simp at h;done)
 rename_i Q;obtain⟨J,p,H⟩:=aU Q;obtain⟨X,i,rfl⟩:=bc.1 h;rw[K]at b;rw[M]at c;have l:E=m:=a _ (aW ..);subst l;obtain⟨v,w',d,f⟩:=BV (P:=P) j b c u s g D J p H (a _ (aV _ (aW ..))) (a _ (aV _ (aV _ (aW ..)))) i;exact .gv (by simpa[execOp,I]using d) f
def EC{t nb:Nat}(f:o.op = .makeMap t y)(d:Inv P w0 aR O G heap w)(h:core P nb (.makeMap t y) an k ρ [] heap=some r):dH P (execOp e o) w (Good P w0 aR O G ae w r.v ae r.heap):=by
 cases y with
 |some y=>simp[core,plain]at h
 |none=>
  simp only[core]at h;split at h<;>try(simp at h;done)
  obtain⟨g,c,rfl⟩:=bc.1 h;obtain⟨v,w',a,b⟩:=GG (P:=P) (ae:=ae) d c;exact .gv (by simpa[execOp,f]using a) b
def GK{t nb:Nat}(M:o.op = .lookup t m i ok)(f:Inv P w0 aR O G heap w)(s:aS G ae w (e m) (ρ m))(H:aS G ae w (e i) (ρ i))(h:core P nb (.lookup t m i ok) an k ρ (if an.take then ae else[]) heap=some r)(g:∀q∈r.dN,q):dH P (execOp e o) w (Good P w0 aR O G ae w r.v (if an.take then r.ae else ae) r.heap):=by
 have run:∀a j l,dH P (do pure (.value (<-Instr.lookup t (e m) (e i) ok))) w (Good P w0 aR O G ae w a j l)->dH P (execOp e o) w (Good P w0 aR O G ae w a j l):=fun a j l y=>by
  simpa only[execOp,M]using y
 simp only[core]at h;split at h<;>try(simp at h;done)
 rename_i b key F Z look T X E;split at h<;>try(simp at h;done)
 rename_i A Y z x I D;split at h<;>try(simp at h;done)
 rename_i Q;obtain rfl:=aU Q;rw[T]at s;have J:=H.pv X;obtain⟨f1,f2,f3⟩:=JT (ok:=ok) f s J x E D;split at h
 .rename_i n aj
  split at h
  .rename_i d
   simp only[ay]at h;subst h;have c:=g _ (cP.2 rfl);obtain⟨_,v,u,p⟩:=f3 n aj c;simp only[d,if_true]at p⊢;exact run _ _ _ (.gv u p)
  .rename_i d
   simp only[ay]at h;subst h;have c:=g _ (cP.2 rfl);simp only[d,kp,if_false];exact run _ _ _ ((f3 n aj c).1.ze f)
 .rename_i a K
  split at h<;>try(simp at h;done)
  rename_i d;simp only[ay]at h;subst h;have c:=g _ (cP.2 rfl);simp only[d,kp,if_false];exact run _ _ _ ((f2 a c fun n aj e=>K n aj (by rw[e])).ze f)
 .simp only[ay]at h
  subst h;have c:=g _ (cP.2 rfl);simp only[lH];exact run _ _ _ ((f1 c z I).ze f)
def zh{t nb:Nat}{c:Bool}(v:o.op = .mapUpdate t m i x)(n:Inv P w0 aR O G heap w)(d:aS G ae w (e m) (ρ m))(u:aS G ae w (e i) (ρ i))(s:aS G ae w (e x) (ρ x))(h:core P nb (.mapUpdate t m i x) an k ρ (if c then ae else[]) heap=some r):dH P (execOp e o) w (Good P w0 aR O G ae w r.v (if c then r.ae else ae) r.heap):=by
 simp only[core]at h;split at h<;>try(simp at h;done)
 rename_i b key J I z E q;split at h<;>try(simp at h;done)
 rename_i K H a f l D p;split at h<;>try(simp at h;done)
 rename_i y;obtain rfl:=aU y;simp only[ay]at h;subst h;rw[z]at d;obtain⟨w',g,j⟩:=BY n d (u.pv E) s l q p D (zf c f);exact .yx (by simpa only[execOp,v]using g) j
def GL(D:o.op = .call {callee:=.builtin .delete,args:=args,argTypes:=c})(q:Inv P w0 aR O G heap w)(j:∀x∈args.toList,aS G ae w (e x) (ρ x))(h:core P nb (.call {callee:=.builtin .delete,args:=args,argTypes:=c}) an k ρ [] heap=some r):dH P (execOp e o) w (Good P w0 aR O G ae w r.v ae r.heap):=by
 simp only[core]at h;split at h<;>try(simp at h;done)
 rename_i b i t Z u H;obtain⟨x,y,rfl,I,J⟩:=Ep u;split at h<;>try(simp at h;done)
 rename_i a T key Y X p M z;split at h<;>try(simp at h;done)
 rename_i E s;obtain rfl:=aU E;simp only[ay]at h;subst h;have f:=j x (by simp)
 have g:=j y (by simp)
 rw[I]at f;rw[J]at g;have K:∀ty,∀w':World,(∀t2,(Builtin.delete_ #[a,t2] ty #[e x,e y]).run P w = .ok (.tuple #[]) w')->(Builtin.delete_ c ty #[e x,e y]).run P w = .ok (.tuple #[]) w':=by
  intro ty w' Q;have d:c[0]?=some a:=by rw[<-iq,H];rfl
  have:=Q 0;simp only[Builtin.delete_,d]at this⊢;simpa using this
 obtain⟨w',l,m,n⟩:=JW (t2:=0) (ty:=o.type) q f (g.pv M) p z s;refine .gv (v:=.tuple #[]) (w':=w') ?_ ⟨G,.none _,m,n⟩;have:=K o.type w' fun t2=>by
  have d:(Builtin.delete_ #[a,t2] o.type #[e x,e y])=(Builtin.delete_ #[a,0] o.type #[e x,e y]):=by simp[Builtin.delete_]
  rw[d];exact l
 simp[execOp,D,resolve,invoke,builtin,this]
def JY{t nb:Nat}{c:Bool}(H:o.op = .store t a x)(z:Inv P w0 aR O G heap w)(d:aS G ae w (e a) (ρ a))(y:aS G ae w (e x) (ρ x))(h:core P nb (.store t a x) an k ρ (if c then ae else[]) heap=some r)(D:∀q∈r.dN,q):dH P (execOp e o) w (Good P w0 aR O G ae w r.v (if c then r.ae else ae) r.heap):=by
 simp only[core]at h;split at h<;>try(simp at h;done)
 .rename_i b off v
  rw[v]at d;split at h<;>try(simp at h;done)
  rename_i cs u;obtain⟨⟨K,I⟩,T,rfl⟩:=bc.1 h;obtain⟨w',f,g⟩:=N0 z d y u T (zf c I);exact .yx (by simpa only[execOp,H]using f) g
 .rename_i b s n l i j v
  rw[v]at d;split at h<;>try(simp at h;done)
  rename_i cs K u;split at h<;>try(simp at h;done)
  rename_i p B E X;rw[X]at y;split at h<;>try(simp at h;done)
  rename_i R M C;simp only[ay]at h;subst h;have J:j<n:=D _ (aW ..);have Z:=D _ (aV _ (aW ..));obtain⟨w',f,g⟩:=JM z d y u E (aU M) J;simp only[lH];rw[<-Z];exact .yx (by simpa only[execOp,H]using f) g
 .rename_i b n i j v
  rw[v]at d;split at h<;>try(simp at h;done)
  rename_i m aj A ps u E F;split at h<;>try(simp at h;done)
  rename_i Y;obtain⟨rfl,Q⟩:=aU Y;simp only[ay]at h;subst h;obtain⟨w',f,g⟩:=JO z d y u E F Q (D _ (cP.2 rfl));simp only[lH];exact .yx (by simpa only[execOp,H]using f) g
def P2{c:Bool}(h:T=if c then ae else[]):(if c then T else ae)=ae:=by subst h;cases c<;>rfl
def Cm{t nb:Nat}(Q:o.op = .load t x)(g:Inv P w0 aR O G heap w)(u:aS G ae w (e x) (ρ x))(hc:an.fz=false->an.take=true->c=true)(h:core P nb (.load t x) an k ρ (if c then ae else[]) heap=some r)(M:∀q∈r.dN,q):dH P (execOp e o) w (Good P w0 aR O G ae w r.v (if c then r.ae else ae) r.heap):=by
 have run:∀a Y Z,dH P (do pure (.value (<-Instr.loadAt t (e x)))) w (Good P w0 aR O G ae w a Y Z)->dH P (execOp e o) w (Good P w0 aR O G ae w a Y Z):=fun a Y Z hd=>by
  simpa only[execOp,Q]using hd
 have K:∀T,T=(if c then ae else[])->(if c then T else ae)=ae:=fun T h=>P2 h
 simp only[core]at h;generalize I:(if c then ae else[])=T at h
 split at h
 .rename_i b off a1 J
  rw[J]at u;split at h<;>try(simp at h;done)
  rename_i cs d;split at h
  .rename_i n aj a3 N f
   simp only[ay]at h;subst h;have a0:=hc a1 a3;subst a0;simp only[if_true]at I⊢;subst I;obtain⟨a4,X,elem,W,A,B,h4,h5,h6⟩:=g.rh u d;have a2:off<X.size:=by have:=(aE.1 N).1;omega
   have C:X[off]?=some X[off]:=cX a2;obtain⟨V,R⟩:=g.PX (ae:=ae) d N A B C;refine run _ _ _ (.gv ?_ ⟨V,R⟩);rw[W];exact jJ (hL f (by rw[dF B];exact C))
  .obtain⟨v,hv,rfl⟩:=bc.1 h
   show dH P _ _ (Good _ _ _ _ _ _ _ _ (if c then T else ae) heap)
   rw[K _ I.symm];exact run _ _ _ ((GC g u d hv).ze g)
 .rename_i b s n l i j _ J
  rw[J]at u;split at h<;>try(simp at h;done)
  rename_i cs p d f D;split at h<;>try(simp at h;done)
  simp only[ay]at h;subst h;show dH P _ _ (Good _ _ _ _ _ _ _ _ (if c then T else ae) heap)
  rw[K _ I.symm];exact run _ _ _ ((N2 g u d f (M _ (cP.2 rfl))).ze g)
 .rename_i b n i j _ J
  rw[J]at u;have S:∀m aj z E,(heap[b]?=some (.bn m aj)\/heap[b]?=some (.uK m aj))->du P t=some true->cw P t=some z ->
    (match decide (m=n/\j+z<=n/\E.length=n)with
    |true=>some ({v:=.agg ((E.drop j).take z),ae:=T,heap,dN:=[aj[i.toNat]?=some E]}:l8)
    |false=>none)=some r->dH P (execOp e o) w (Good P w0 aR O G ae w r.v (if c then r.ae else ae) r.heap):=by
   intro m aj z E d f D H;split at H<;>try(simp at H;done)
   rename_i F;obtain⟨rfl,A,R⟩:=aU F;cases H;show dH P _ _ (Good _ _ _ _ _ _ _ _ (if c then T else ae) heap)
   rw[K _ I.symm];exact run _ _ _ ((N1 g u d f D (M _ (cP.2 rfl)) (by omega)).ze g)
  have U:∀m aj p,(heap[b]?=some (.bn m aj)\/heap[b]?=some (.uK m aj))->du P t=some false ->
    (match decide (m=n)with
    |true=>some ({v:=.v p,ae:=T,heap,dN:=[(aj[i.toNat]?).bind (·[j]?)=some p]}:l8)
    |false=>none)=some r->dH P (execOp e o) w (Good P w0 aR O G ae w r.v (if c then r.ae else ae) r.heap):=by
   intro m aj p d f H;split at H<;>try(simp at H;done)
   rename_i F;obtain rfl:=aU F;cases H;show dH P _ _ (Good _ _ _ _ _ _ _ _ (if c then T else ae) heap)
   rw[K _ I.symm];exact run _ _ _ ((JP g u d f (M _ (cP.2 rfl))).ze g)
  split at h<;>try(simp at h;done)
  .rename_i m aj z E d f D
   exact S m aj z E (.inl d) f D h
  .rename_i m aj z E d f D
   exact S m aj z E (.inr d) f D h
  .rename_i m aj p d f D
   exact U m aj p (.inl d) f h
  .rename_i m aj p d f D
   exact U m aj p (.inr d) f h
 .exact rn (T:=T) (an:=an) (k:=k) (ρ:=ρ) I.symm g (by rw[Q];intro y L;simp[Op.operands]at L;subst L;exact u) (by rw[Q];exact h) (fun _ _ _=>by rw[Q];simp) M
def zi{t nb:Nat}{c:Bool}(u:o.op = .indexAddr t x g)(p:Inv P w0 aR O G heap w)(l:aS G ae w (e x) (ρ x))(s:aS G ae w (e g) (ρ g))(h:core P nb (.indexAddr t x g) an k ρ (if c then ae else[]) heap=some r)(E:∀q∈r.dN,q):dH P (execOp e o) w (Good P w0 aR O G ae w r.v (if c then r.ae else ae) r.heap):=by
 have run:∀a z D,dH P (do pure (.value (<-Instr.indexAt t (e x) (e g)))) w (Good P w0 aR O G ae w a z D)->dH P (execOp e o) w (Good P w0 aR O G ae w a z D):=fun a z D Q=>by
  simpa only[execOp,u]using Q
 simp only[core]at h;split at h
 .rename_i b J
  rw[J]at l;have box:∀n aj kk i,(heap[b]?=some (.bn n aj)\/heap[b]?=some (.uK n aj))->ρ g = .v (.int kk i)->
    (match P.underlying t with
    |some (.slice e)=>match decide (cw P e=some n)with
     |true=>some ({v:=.gg b n i 0,ae:=if c then ae else[],heap,dN:=[0<=i/\i<aj.length]}:l8)
     |false=>none
    |_=>none)=some r->dH P (execOp e o) w (Good P w0 aR O G ae w r.v (if c then r.ae else ae) r.heap):=by
   intro n aj kk i d f h;split at h<;>try(simp at h;done)
   rename_i M I;split at h<;>try(simp at h;done)
   rename_i H;simp only[ay]at h;subst h;rw[f]at s;rw[s.gM]at run;simp only[lH];exact run _ _ _ ((EA p l d I (aU H) (E _ (cP.2 rfl))).ze p)
  split at h<;>try(simp at h;done)
  .rename_i n aj kk i d f
   exact box n aj kk i (.inl d) f h
  .rename_i n aj kk i d f
   exact box n aj kk i (.inr d) f h
 .rename_i b n i j J
  rw[J]at l;split at h<;>try(simp at h;done)
  rename_i kk m len M f I;split at h<;>try(simp at h;done)
  rename_i F H;simp only[ay]at h;subst h;rw[f]at s;rw[s.gM]at run;have Y:=E _ (cP.2 rfl);simp only[lH];generalize e x=V at l run;cases l with
  |@gg _ _ _ R off A cap _ X Z d=>
   refine run _ _ _ (Plain.ze p (.pure (bK _ (mb I H Y _)) ?_));rw[gU];exact .gg X Z d
 .exact rn (T:=if c then ae else[]) (an:=an) (k:=k) (ρ:=ρ) rfl p (by rw[u];intro y K;simp[Op.operands]at K;rcases K with rfl|rfl<;>assumption) (by rw[u];exact h) (fun _ _ _=>by rw[u];simp) E
def JZ{t nb:Nat}{c:Bool}(a:o.op = .slice t x lo j s)(l:Inv P w0 aR O G heap w)(f:q8 G ae w e ρ o.op)(h:core P nb (.slice t x lo j s) an k ρ (if c then ae else[]) heap=some r)(m:∀q∈r.dN,q):dH P (execOp e o) w (Good P w0 aR O G ae w r.v (if c then r.ae else ae) r.heap):=by
 have d:=f;rw[a]at d;have p:aS G ae w (e x) (ρ x):=d x (by simp[Op.operands])
 simp only[core]at h;split at h
 .rename_i b M
  rw[M]at p;split at h<;>try(simp at h;done)
  rename_i n aj kk i H Q;split at h<;>try(simp at h;done)
  rename_i X J;split at h<;>try(simp at h;done)
  rename_i F I;obtain⟨Y,g,rfl⟩:=bc.1 h;obtain⟨E,Z⟩:=m _ (cP.2 rfl);obtain⟨y,rfl,K⟩:=bc.1 Q;have u:aS G ae w (e y) (ρ y):=d y (by simp[Op.operands])
  rw[K]at u;obtain⟨q,rfl⟩:=iT E;simp only[uA]at g;simp only[lH];obtain⟨v,w',z,D⟩:=Ez (kk:=kk) l J I p H (by omega) g
  refine .gv (v:=v) (w':=w') ?_ D;simp only[execOp,a,de,qU,u.gM];exact z
 .exact rn (T:=if c then ae else[]) (an:=an) (k:=k) (ρ:=ρ) rfl l f (by rw[a];exact h) (fun _ _ _=>by rw[a];simp) m
def x5{t len nb:Nat}(y:o.op = .buildSlice t len aT)(j:Inv P w0 aR O G heap w)(s:q8 G ae w e ρ o.op)(h:core P nb (.buildSlice t len aT) an k ρ (if an.bF then ae else[]) heap=some r)(M:∀q∈r.dN,q):dH P (execOp e o) w (Good P w0 aR O G ae w r.v (if an.bF then r.ae else ae) r.heap):=by
 rw[y]at s;have m:∀p∈aT.toList,aS G ae w (e p.2) (ρ p.2):=fun p a=>s p.2 (by simp only[Op.operands];exact bh.2 ⟨p,a,rfl⟩)
 have run:∀K,dH P (do pure (.value (<-Instr.buildSlice t len (aT.map fun(i,x)=>(i,e x))))) w K->dH P (execOp e o) w K:=fun K H=>by
  simpa only[execOp,y]using H
 simp only[core]at h;split at h<;>try(simp at h;done)
 .rename_i n aj l z a
  obtain⟨J,I,rfl⟩:=bc.1 h;obtain⟨u,E,c,v,w',b,d,f,g⟩:=m6 j m a;simp only[AV.v.injEq,PV.sl.injEq]at c;obtain⟨rfl,rfl⟩:=c;simp only[lH];exact run _ (.gv b (g _ _ I))
 .rename_i n aj l z D a
  simp only[ay]at h;subst h;obtain⟨u,E,c,v,w',b,d,f,g⟩:=m6 j m a;simp only[AV.v.injEq,PV.sl.injEq]at c;obtain⟨rfl,rfl⟩:=c;simp only[D,if_true];exact run _ (.gv b f)
 .rename_i v l z D a
  simp only[ay]at h;subst h;obtain⟨u,E,rfl,v,w',b,d,f,g⟩:=m6 j m a;simp only[lH];exact run _ (.gv b d)
def GM(L:o.op = .call {callee:=.builtin .append,args:=args,argTypes:=F})(l:Inv P w0 aR O G heap w)(B:∀x∈args.toList,aS G ae w (e x) (ρ x))(h:core P nb (.call {callee:=.builtin .append,args:=args,argTypes:=F}) an k ρ ae heap=some r)(p:∀q∈r.dN,q):dH P (execOp e o) w (Good P w0 aR O G ae w r.v r.ae r.heap):=by
 simp only[core]at h;split at h<;>try(simp at h;done)
 rename_i s x t C M a1;split at h<;>try(simp at h;done)
 rename_i e1 e2 u D;split at h<;>try(simp at h;done)
 rename_i n a0 z Y Q hz;split at h<;>try(simp at h;done)
 rename_i ys a6 a4;obtain⟨a5,hn,a9⟩:=aU a6;have c:=B s (by rw[M];simp)
 have E:=(B x (by rw[M];simp)).aj a4
 have U:args = #[s,x]:=by rw[<-m1,M]
 have W:F = #[t,C]:=by rw[<-m1,a1]
 rw[U,W]at L;obtain⟨i,zv,f,y,b2,hZ⟩:=y8 hz;have J:i.size=n:=by unfold cw at Y;rw[f]at Y;simpa using Y
 have I:i.bytes=a0:=by unfold yQ at Q;rw[f]at Q;simpa using Q
 have H:zv.cells.size=n:=by rw[(hZ G.bX w).1,a5]
 have run:∀K,(∃v w',(Builtin.append_ #[t,C] o.type #[e s,e x]).run P w = .ok v w'/\K v w')->dH P (execOp e o) w K:=fun K⟨v,w',a,j⟩=>
  .gv (v:=v) (w':=w') (by simp[execOp,L,resolve,invoke,builtin,a]) j
 unfold yS at h;split at h<;>try(simp at h;done)
 .rename_i g
  rw[g]at c;have N:e s = .slice none 0 0:=by generalize e s=V at c;cases c with|v h=>cases h;rfl
  split at h
  .obtain⟨h',T,rfl⟩:=bc.1 h
   have d:=p _ (cP.2 rfl);rw[N]at run;exact run _ (BW l u D f y J H (by omega) E (by rw[I];exact d) T)
  .simp only[ay]at h
   subst h;have d:=p _ (cP.2 rfl);rw[N]at run;refine run _ ?_;have:=tl (ae:=ae) (ty:=o.type) (tk:=ae.length) (N3:=0) (aj:=[]) (bz:=ae++[some 0]) l u D f y J H (by omega) (.m3 n) E (by rw[I];simpa using d) (by rw[eN (ar _),lM];rfl) (by simp)
    (fun t m a j=>by rw[cj j]at a;exact⟨m,a,.inr ⟨rfl,by omega⟩⟩) (fun b1=>by omega)
   simp only[dP]at this;exact this
 .rename_i tk R m aj g
  rw[g]at c;split at h<;>try(simp at h;done)
  rename_i X a7;obtain rfl:=aU X;have Z:=aU a7;simp only[ay]at h;subst h;have d:=p _ (cP.2 rfl);have S:=(aE.1 Z).1;generalize e s=V at c run;cases c with
  |@own _ _ _ _ A len cap b3 b0 hP a8=>
   exact run _ (tl (tk:=tk) (N3:=R+1) (bz:=ae.set tk (some (R+1))) l u D f y J H (by omega) hP E (by rw[I];exact d) (by simp[S]) (by simp)
    (fun t q a j=>by
     rw[iS]at a;split at a
     .subst_vars
      simp[S]at a;exact⟨R,Z,.inl (by omega)⟩
     .rename_i a3
      exact⟨q,a,.inr ⟨rfl,fun e=>a3 e.symm⟩⟩) (fun _=>a8 Z))
 .rename_i b g
  rw[g]at c;split at h<;>try(simp at h;done)
  rename_i m aj a2;split at h<;>try(simp at h;done)
  rename_i X;obtain rfl:=aU X;obtain⟨h',T,rfl⟩:=bc.1 h;have d:=p _ (cP.2 rfl);exact run _ (BX l u D f y J H (by omega) c a2 E (by rw[I];exact d) T)
def P3{c:Bool}(j:o.op = .call {callee:=.builtin .len,args:=args,argTypes:=v})(i:Inv P w0 aR O G heap w)(p:q8 G ae w e ρ o.op)(h:core P nb (.call {callee:=.builtin .len,args:=args,argTypes:=v}) an k ρ (if c then ae else[]) heap=some r)(E:∀q∈r.dN,q):dH P (execOp e o) w (Good P w0 aR O G ae w r.v (if c then r.ae else ae) r.heap):=by
 have u:∀x∈args.toList,aS G ae w (e x) (ρ x):=by rw[j]at p;exact fun x u=>p x (by simp only[Op.operands,Call.operands];simpa using u)
 simp only[core]at h;split at h
 .rename_i b t D J
  obtain⟨x,rfl,I⟩:=JF D;have y:v = #[t]:=by rw[<-m1,J]
  subst y;have l:=u x (by simp)
  rw[I]at l;have key:∀n aj d,(heap[b]?=some (.bn n aj)\/heap[b]?=some (.uK n aj))->P.underlying t=some (.slice d)->dH P (execOp e o) w (Good P w0 aR O G ae w (.v (.int .i64 aj.length)) ae heap):=by
   intro n aj d a g;have f:∃A cap,e x = .slice A aj.length cap:=by
    rcases a with a|a
    .obtain⟨_,_,_,A,cap,_,z,_⟩:=i.Ey l a
     exact⟨A,cap,z⟩
    .obtain⟨K,s⟩:=i.box _ _ a
     have f:e x=G.val b:=by generalize e x=V at l;cases l;rfl
     rw[f];obtain⟨A,m,c,H⟩:=uX s;rw[H]at s⊢;exact⟨A,c,by rw[(s.flat).1]⟩
   obtain⟨A,cap,f⟩:=f;refine Plain.ze i (.pure ?_ (.mkInt .i64 aj.length));simp[execOp,j,resolve,invoke,builtin,Builtin.len_,run_underlying g,goInt,f]
  split at h<;>try(simp at h;done)
  .rename_i n aj d a g
   simp only[ay]at h;subst h;simp only[lH];exact key n aj d (.inl a) g
  .rename_i n aj d a g
   simp only[ay]at h;subst h;simp only[lH];exact key n aj d (.inr a) g
 .exact rn (T:=if c then ae else[]) (an:=an) (k:=k) (ρ:=ρ) rfl i p (by rw[j];exact h) (fun _ _ _=>by rw[j];simp) E
def N7(n:Inv P w0 aR O G heap w)(d:q8 G ae w e ρ o.op)(h:core P nb o.op an k ρ (if(cY o.op an nb).tk then ae else[]) heap=some r)(p:∀q∈r.dN,q)(J:∀f args u,o.op≠.call {callee:=.value f,args:=args,argTypes:=u}):
  dH P (execOp e o) w (Good P w0 aR O G ae w r.v (if(cY o.op an nb).tk then r.ae else ae) r.heap):=by
 have K:(∀x∈o.op.operands.toList,aS G ae w (e x) (ρ x))\/∃c a b,o.op = .pick c a b:=by
  by_cases D:∃c a b,o.op = .pick c a b
  .exact .inr D
  .left
   have:=d;unfold q8 at this;split at this
   .exact absurd ⟨_,_,_,by assumption⟩ D
   .exact this
 obtain⟨g,op,type,j,after,guard⟩:=o;have pl:∀(c:Bool),(cY op an nb).tk=c->(∀t len aT,op≠.buildSlice t len aT)->(core P nb op an k ρ (if c then ae else[]) heap=(plain P op an k ρ).map fun(v,l)=>({v,ae:=if c then ae else[],heap,dN:=l}:l8))->
   dH P (execOp e ⟨g,op,type,j,after,guard⟩) w (Good P w0 aR O G ae w r.v (if(cY op an nb).tk then r.ae else ae) r.heap):=by
  intro c H E I;simp only at h;rw[H]at h⊢;rw[I]at h;exact rn (o:=⟨g,op,type,j,after,guard⟩) rfl n d h E p
 cases op
 case alloc t=>exact JX (o:=⟨g,.alloc t,type,j,after,guard⟩) rfl n h
 case box t x=>exact P1 (o:=⟨g,.box t x,type,j,after,guard⟩) rfl n (d x (by simp[Op.operands])) h
 case makeSlice t x y=>exact zg (o:=⟨g,.makeSlice t x y,type,j,after,guard⟩) rfl n (d x (by simp[Op.operands])) (d y (by simp[Op.operands])) h p
 case makeMap t y=>exact EC (o:=⟨g,.makeMap t y,type,j,after,guard⟩) rfl n h
 case lookup t m i ok=>exact GK (o:=⟨g,.lookup t m i ok,type,j,after,guard⟩) rfl n (d m (by simp[Op.operands])) (d i (by simp[Op.operands])) h p
 case mapUpdate t m i x=>exact zh (o:=⟨g,.mapUpdate t m i x,type,j,after,guard⟩) rfl n (d m (by simp[Op.operands])) (d i (by simp[Op.operands])) (d x (by simp[Op.operands])) h
 case store t a x=>exact JY (o:=⟨g,.store t a x,type,j,after,guard⟩) rfl n (d a (by simp[Op.operands])) (d x (by simp[Op.operands])) h p
 case load t x=>
  have s:=d x (by simp[Op.operands])
  cases hfz:an.fz with
  |false=>
   have z:cY (.load t x) an nb={hr:=true,hw:=an.take,tk:=an.take,bx:=an.fb}:=by simp[cY,hfz]
   simp only[z]at h⊢;exact Cm (o:=⟨g,.load t x,type,j,after,guard⟩) rfl n s (fun _ h=>h) h p
  |true=>
   have z:cY (.load t x) an nb={}:=by simp[cY,hfz]
   simp only[z]at h⊢;exact Cm (o:=⟨g,.load t x,type,j,after,guard⟩) (c:=false) rfl n s (fun h=>by rw[hfz]at h;simp at h) h p
 case indexAddr t x ix=>exact zi (o:=⟨g,.indexAddr t x ix,type,j,after,guard⟩) (c:=false) rfl n (d x (by simp[Op.operands])) (d ix (by simp[Op.operands])) h p
 case slice t x lo hh mx=>exact JZ (o:=⟨g,.slice t x lo hh mx,type,j,after,guard⟩) (c:=false) rfl n d h p
 case buildSlice t len aT=>exact x5 (o:=⟨g,.buildSlice t len aT,type,j,after,guard⟩) rfl n d h p
 case call c=>
  obtain⟨callee,args,u⟩:=c;cases callee with
  |value f=>exact absurd rfl (J f args u)
  |invoke a b=>simp[core,plain]at h
  |builtin b=>
   have s:∀x∈args.toList,aS G ae w (e x) (ρ x):=fun x s=>d x (by simp only[Op.operands,Call.operands];simpa using s)
   cases b
   case append=>exact GM (o:=⟨g,.call {callee:=.builtin .append,args:=args,argTypes:=u},type,j,after,guard⟩) rfl n s h p
   case delete=>exact GL (o:=⟨g,.call {callee:=.builtin .delete,args:=args,argTypes:=u},type,j,after,guard⟩) rfl n s h
   case len=>exact P3 (o:=⟨g,.call {callee:=.builtin .len,args:=args,argTypes:=u},type,j,after,guard⟩) (c:=false) rfl n d h p
   all_goals exact pl false rfl (by simp) rfl
 all_goals exact pl false rfl (by simp) rfl
end
section
variable {P:Program} {G:Gh} {ae:List (Option Nat)} {heap:List Bx} {w:World}
structure lS (G G':Gh) (f:Nat->Nat) (S:Nat->Prop):Prop where
 bX:G'.bX=G.bX
 bD:∀b,S b->G.bD b->G'.bD (f b)
 val:∀b,S b->G'.val (f b)=G.val b
 box:∀b,S b->G'.h (.box (f b))=G.h (.box b)
 cell:∀b j,S b->G'.h (.cell (f b) j)=G.h (.cell b j)
 ov:∀b k,S b->G'.h (.ov (f b) k)=G.h (.ov b k)
def cm.jV(h:cm a w v p)(e:hK=a):cm hK w v p:=by subst e;exact h
def aS.uM{v:Value}(h:aS G ae w v a)(t:a.simple=true)(s:∀g l m,a≠.fn g l m)(R:lS G q f S)(n:∀b∈a.nQ,S b):aS q bz w v (a.uM f):=by
 cases h with
 |none v=>exact .none _
 |v h=>exact .v (h.jV R.bX)
 |agg o h=>exact .agg o fun i v p j k=>(h i v p j k).jV R.bX
 |@az b off u d h=>
  have c:S b:=n b (by simp[AV.nQ])
  exact .az (R.bD _ c d) ((R.val _ c).trans h)
 |@bA b d e=>
  have c:S b:=n b (by simp[AV.nQ])
  rw[<-R.val _ c]at e⊢;exact .bA (R.bD _ c d) e
 |@mp b d e=>
  have c:S b:=n b (by simp[AV.nQ])
  rw[<-R.val _ c]at e⊢;exact .mp (R.bD _ c d) e
 |qN=>exact .qN
 |B9 o h=>exact .B9 o fun i v p j k=>(h i v p j k).jV R.bX
 |fn=>exact absurd rfl (s _ _ _)
 |_=>simp[AV.simple]at t
def aS.dM{v:Value}(h:aS G ae w v a)(k:a.simple=true)(R:lS G s f S)(t:∀b∈a.refs,S b):aS s bz w v (a.dM f):=by
 by_cases u:∃g l m,a = .fn g l m
 .obtain⟨g,first,cap,rfl⟩:=u
  have n:∀a∈first++cap,a.simple=true/\(∀g l m,a≠.fn g l m):=by
   intro a c;have:=bf.1 (by simpa[AV.simple]using k) a c
   cases a<;>simp at this<;>exact⟨rfl,by simp⟩
  have x:∀a∈first++cap,∀b∈a.nQ,S b:=fun a c b I=>t b (by simp only[AV.refs,eW];exact⟨a,c,I⟩)
  cases h with
  |fn r D E H=>
   refine .fn (by simpa using r) (by simpa using D) (fun i v a q c=>?_) fun i v a q c=>?_
   .rw[bu]at c
    obtain⟨o,j,rfl⟩:=bc.1 c;have d:=ef cap (aK j);exact(E i v o q j).uM (n _ d).1 (n _ d).2 R (x _ d)
   .rw[bu]at c
    obtain⟨o,j,rfl⟩:=bc.1 c;have d:=fD first (aK j)
    exact(H i v o q j).uM (n _ d).1 (n _ d).2 R (x _ d)
 .have p:∀g l m,a≠.fn g l m:=fun g l m e=>u ⟨g,l,m,e⟩
  have y:a.dM f=a.uM f:=by cases a<;>first|rfl|exact absurd rfl (p _ _ _)|simp[AV.simple]at k
  have z:a.refs=a.nQ:=by cases a<;>first|rfl|exact absurd rfl (p _ _ _)|simp[AV.simple]at k
  rw[y];exact h.uM k p R (z▸t)
def Room.eq(h:Room G x w A len cap n)(e:a.bX=G.bX)(d:a.h y=G.h x):Room a y w A len cap n:=
 h.bF fun b c=>⟨d.trans c,by rw[e],rfl⟩
def eO.dM(h:eO G w x v a)(l:a.simple=true)(R:lS G c f S)(k:∀b∈a.refs,S b)(i:c.h y=G.h x):eO c w y v (a.dM f):=by
 refine⟨h.1,?_⟩;have d:=h.2;by_cases g:∃n aj,a = .ke n aj
 .obtain⟨n,aj,rfl⟩:=g
  obtain⟨A,len,cap,e,j,m⟩:=d;exact⟨A,len,cap,e,j.jV R.bX,m.eq R.bX i⟩
 .have key:aS G [] w v a->aS c [] w v (a.dM f):=fun h=>h.dM l R k
  cases a<;>first|exact absurd ⟨_,_,rfl⟩ g|exact key d
def oS.dM(h:oS G w x v a)(j:a.JB=true)(d:b.bX=G.bX)(k:b.h y=G.h x):oS b w y v a:=by
 cases a<;>simp[AV.JB]at j
 .rename_i p
  have c:eO G w x v (.v p):=h;have:eO b w y v (.v p):=⟨c.1,by
   have g:=c.2;cases g with
   |v h=>exact .v (h.jV d)⟩
  exact this
 .rename_i ps
  have c:aS G [] w v (.agg ps):=h;have:aS b [] w v (.agg ps):=by
   cases c with
   |agg m h=>exact .agg m fun i v p f g=>(h i v p f g).jV d
  exact this
 .rename_i n aj
  have c:eO G w x v (.ke n aj):=h;obtain⟨f,A,len,cap,e,l,o⟩:=c;exact(⟨f,A,len,cap,e,l.jV d,o.eq d k⟩:eO b w y v (.ke n aj))
def gH.Uq(h:gH P G w b bx)(Y:bx.simple=true)(Z:bx.there=true)(R:lS G r f S)(c:S b)(T:∀b∈bx.refs,S b):gH P r w (f b) (bx.dM f):=by
 cases bx with
 |cells cs=>
  obtain⟨s,X,elem,l,d,g,m,o,k,q⟩:=h;refine⟨s,X,elem,R.bD _ c l,(R.box _ c).trans d,(R.val _ c).trans g,m,by simpa using o,by rw[R.bX];exact k,fun j v a y E=>?_⟩
  rw[bu]at E;obtain⟨D,I,rfl⟩:=bc.1 E;have H:=aK I;exact(q j v D y I).dM (bf.1 Y _ H) R (fun b M=>T b (by simp only[Bx.refs,eW];exact⟨D,H,M⟩)) (R.cell _ _ c)
 |bn n aj=>
  obtain⟨l,J,h|⟨d,A,g⟩⟩:=h
  .obtain⟨s,X,elem,cap,d,g,m,o,k,q,u⟩:=h
   exact⟨R.bD _ c l,J,.inl ⟨s,X,elem,cap,(R.box _ c).trans d,(R.val _ c).trans g,m,o,k,by rw[R.bX];exact q,fun i j v p y Q=>(u i j v p y Q).jV R.bX⟩⟩
  .exact⟨R.bD _ c l,J,.inr ⟨d,A,(R.val _ c).trans g⟩⟩
 |uK n aj=>exact⟨R.bD _ c h.1,by rw[R.val _ c];exact h.2.jV R.bX⟩
 |map t B=>
  obtain⟨s,F,clock,l,d,g,m,o,k,q,u⟩:=h;refine⟨s,F,clock,R.bD _ c l,(R.box _ c).trans d,(R.val _ c).trans g,m,o,k,q,fun i e x K z=>⟨(u i e x K z).1.jV R.bX,?_⟩⟩
  exact(u i e x K z).2.dM (k x (aK z)).1 R.bX (R.ov _ _ c)
 |dead=>exact R.bD _ c h
 |free=>simp[Bx.there]at Z
end
def lT(G:Gh)(ae:List (Option Nat))(w:World)(b:List Value)(l:List AV):Prop:=b.length=l.length/\∀(i:Nat)v a,b[i]?=some v->l[i]?=some a->aS G ae w v a
def uZ:List Value->Value
 |[v]=>v
 |l=>.tuple l.toArray
def zj(P:Program)(g:FuncId)(d:List AV)(j:List Bx)(r:List AV)(i:List Bx):Prop:=
 ∀(w:World)(a:Gh)(O:Nat->Prop)(f:List Value),Inv P w a.bX O a j w->lT a (cD d) w f d ->
  dH P (callFunc g f.toArray) w fun v w'=>∃c e,Inv P w a.bX O c i w'/\lT c (cD r) w' e r/\v=uZ e/\∀b,a.bD b->c.bD b/\c.val b=a.val b
section
variable {P:Program} {w0:World} {aR:Nat->Nat} {O:Nat->Prop} {G:Gh} {ae:List (Option Nat)} {heap:List Bx} {w:World}
structure rp (bV ae dv:List (Option Nat)):Prop where
 len:ae.length=bV.length
 bl:∀(t n:Nat),ae[t]?=some (some n)->bV[t]?=some (some n)
 gone:∀k t:Nat,dv[k]?=some (some t)->(∃n,bV[t]?=some (some n))/\ae[t]?=some none
 inj:∀k k' t:Nat,dv[k]?=some (some t)->dv[k']?=some (some t)->k=k'
def rp.refl(ae:List (Option Nat)):rp ae ae []:=⟨rfl,fun _ _ h=>h,fun k t h=>by simp at h,fun k a t h=>by simp at h⟩
def h9(h:(l++[a])[j]?=some x):l[j]?=some x\/(j=l.length/\x=a):=by
 rcases bY j l.length with b|b
 .rw[cj b]at h;exact .inl h
 .rw[eN b]at h
  rcases DP (j-l.length)with c|c
  .rw[c]at h;simp at h;exact .inr ⟨by omega,h.symm⟩
  .rw[eJ (by simp;omega)]at h;simp at h
def rp.snoc(k:rp f ae dv)(b:ae[t]?=some (some e)):rp f (ae.set t none) (dv++[some t]):=by
 have d:=(aE.1 b).1;refine⟨by simp[k.len],fun c n h=>?_,fun q c h=>?_,fun q p c h i=>?_⟩
 .rw[iS]at h
  split at h
  .simp at h
  .exact k.bl _ _ h
 .rcases h9 h with h|⟨_,h⟩
  .obtain⟨j,l⟩:=k.gone _ _ h
   refine⟨j,?_⟩;rw[iS];split
   .simp[d]
   .exact l
  .simp only[ay]at h
   subst h;exact⟨⟨e,k.bl _ _ b⟩,by simp[d]⟩
 .rcases h9 h with g|⟨m,g⟩<;>rcases h9 i with a|⟨o,a⟩
  .exact k.inj _ _ _ g a
  .simp only[ay]at a
   subst a;have:=(k.gone _ _ g).2;rw[b]at this;simp at this
  .simp only[ay]at g
   subst g;have:=(k.gone _ _ a).2;rw[b]at this;simp at this
  .omega
def rp.cN(k:rp b ae dv):rp b ae (dv++[none]):=by
 refine⟨k.len,k.bl,fun q t h=>?_,fun q c t h a=>?_⟩
 .rcases h9 h with h|⟨_,h⟩
  .exact k.gone _ _ h
  .simp at h
 .rcases h9 h with h|⟨_,h⟩<;>rcases h9 a with a|⟨_,a⟩
  .exact k.inj _ _ _ h a
  .simp at a
  .simp at h
  .simp at h
def rq:∀(l:List Nat),kZ l=true->l.Nodup
 |[],_=>List.nodup_nil
 |a::l,h=>by
  simp only[kZ,cd,gZ,List.contains_eq_mem]at h;exact gX.2 ⟨by simpa using h.1,rq l h.2⟩
def wk{a:List Nat}(h:a.Nodup)(d:a[i]?=some b):a.idxOf b=i:=by
 have f:b∈a:=aK d;have c:=yO f;have e:a[a.idxOf b]?=some b:=by rw[bo c,List.getElem_idxOf]
 exact(List.getElem?_inj c h).1 (e.trans d.symm)
def mF{a:List Nat}(d:b∈a):a[a.idxOf b]?=some b:=by
 have c:=yO d;rw[bo c,List.getElem_idxOf]
def lf(a:List Nat)(dv:List (Option Nat)):Hd->Option Hd
 |.box i=>(a[i]?).map .box
 |.cell i j=>(a[i]?).map fun b=>.cell b j
 |.ov i k=>(a[i]?).map fun b=>.ov b k
 |.tok k=>(dv[k]?).join.map .tok
def zk(h:g.Nodup)(n:∀k m t:Nat,dv[k]?=some (some t)->dv[m]?=some (some t)->k=m):∀x y z,lf g dv x=some z->lf g dv y=some z->x=y:=by
 have key:∀(i j b:Nat),g[i]?=some b->g[j]?=some b->i=j:=fun i j b c l=>(List.getElem?_inj (aE.1 c).1 h).1 (c.trans l.symm)
 intro x y z c l;cases x<;>cases y<;>simp only[lf,bc]at c l<;>obtain⟨a,d,rfl⟩:=c<;>obtain⟨b,e,f⟩:=l<;>simp at f
 .subst f;rw[key _ _ _ d e]
 .obtain⟨rfl,rfl⟩:=f;rw[key _ _ _ d e]
 .obtain⟨rfl,rfl⟩:=f;rw[key _ _ _ d e]
 .subst f
  rw[Option.join_eq_some_iff]at d e;rw[n _ _ _ d e]
def Gh.pK(G:Gh)(a:List Nat)(dv:List (Option Nat)):Gh:=
 ⟨G.bX,fun x=>(lf a dv x).bind G.h,fun i=>G.val (a.getD i 0),fun i=>i<a.length⟩
def Gh.GN(G:Gh){c:List Nat}(dv:List (Option Nat)):lS G (G.pK c dv) (fun b=>c.idxOf b) (· ∈ c) where
 bX:=rfl
 bD:=fun b a _=>yO a
 val:=fun b a=>by simp[Gh.pK,bR,mF a]
 box:=fun b a=>by simp[Gh.pK,lf,mF a]
 cell:=fun b j a=>by simp[Gh.pK,lf,mF a]
 ov:=fun b k a=>by simp[Gh.pK,lf,mF a]
def Inv.pK(d:Inv P w0 aR O G heap w){a:List Nat}{dv:List (Option Nat)}(l:a.Nodup)(E:∀k p t:Nat,dv[k]?=some (some t)->dv[p]?=some (some t)->k=p)
  (D:(a.map fun b=>heap.getD b .dead).all Bx.simple=true)(j:(a.map fun b=>heap.getD b .dead).all Bx.alive=true)(r:((a.map fun b=>heap.getD b .dead).flatMap Bx.refs).all a.contains=true):
  Inv P w G.bX (fun n=>∃x,(G.pK a dv).h x=some n) (G.pK a dv) ((a.map fun b=>heap.getD b .dead).map (Bx.dM fun b=>a.idxOf b)) w where
 frame:=m4.refl _ _ _ d.frame.xr d.frame.Ca
 nb:=fun b h=>by simpa[Gh.pK]using h
 box:=fun i bx h=>by
  simp only[dW,bu]at h;obtain⟨b,f,rfl⟩:=bc.1 h;have m:=aK f;have e:heap.getD b .dead∈a.map fun b=>heap.getD b .dead:=bh.2 ⟨b,m,rfl⟩
  have c:=bf.1 j _ e;have J:=bf.1 D _ e;have M:heap[b]?=some (heap.getD b .dead):=by
   rw[bR]at c⊢;cases hh:heap[b]? with
   |none=>rw[hh]at c;simp[Bx.alive]at c
   |some x=>rfl
  have:=(d.box b _ M).Uq J (by revert c;cases heap.getD b .dead<;>simp[Bx.alive,Bx.there]) (G.GN dv) m fun b' I=>by
   have:=bf.1 r b' (eW.2 ⟨_,e,I⟩);simpa using this
  rw[wk l f]at this;exact this
 inj:=fun x y n s z=>by
  obtain⟨u,o,g⟩:=cV.1 s;obtain⟨v,H,K⟩:=cV.1 z;obtain rfl:=d.inj _ _ _ g K;exact zk l E _ _ _ o H
 nO:=fun x n h=>by
  obtain⟨u,o,g⟩:=cV.1 h;exact⟨(d.nO _ _ g).1,fun _=>⟨x,h⟩⟩
 dead:=fun i n h=>by
  simp only[dW,bu]at h;obtain⟨b,f,q⟩:=bc.1 h;have e:heap.getD b .dead∈a.map fun b=>heap.getD b .dead:=bh.2 ⟨b,aK f,rfl⟩
  have c:=bf.1 j _ e;simp only[DS]at q;revert c q
  cases heap.getD b .dead<;>simp[Bx.alive,Bx.dM]
structure Wf (G G0:Gh) (f:Nat->Nat) (S:Nat->Prop) (dv:List (Option Nat)):Prop where
 dM:lS G G0 f S
 tok:∀q t:Nat,dv[q]?=some (some t)->G0.h (.tok q)=G.h (.tok t)
def AV.rr:AV->Bool
 |.own .. => true
 |_=>false
def ru(h:b.rr=false):cD [b]=[]:=by cases b<;>first|rfl|simp[AV.rr]at h
def Co{a:AV}(h:a.simple=true):(a.dM f).rr=false:=by cases a<;>first|rfl|simp[AV.simple]at h
def tz(h:a.rr=false):(yR P t a).rr=false:=by
 unfold yR;split
 .split<;>rfl
 .rfl
 .exact h
def GO(k:rp u ae dv)(h:uN P t own f a ae dv.length=some (b,hF,m))(i:aS G u w v a)(y:∀b∈a.refs,S b):
  ∃o,rp u hF o/\o.length=m/\(∃l,o=dv++l)/\cD [b]=List.replicate (m-dv.length) (some 0)/\
   ∀(c:Gh)(T d:List (Option Nat)),(∀(q:Nat)x,o[q]?=some x->d[q]?=some x)->Wf G c f S d->(∀q:Nat,q<m->T[q]?=some (some 0))->aS c T w v b:=by
 unfold uN at h;split at h
 .split at h<;>try(simp at h;done)
  .rename_i tk Q n aj
   split at h<;>try(simp at h;done)
   rename_i D;have r:=aU D;simp only[ay,aA]at h;obtain⟨rfl,rfl,rfl⟩:=h;refine⟨_,k.snoc r,by simp,⟨_,rfl⟩,by simp[cD],fun c T d g L e=>?_⟩
   cases i with
   |@own _ _ _ _ A len cap E I p z=>
    have s:=e dv.length (by omega)
    refine .own (aE.1 s).1 (fun _ _=>dV _) (p.jV L.dM.bX) fun _=>?_
    exact(z (k.bl _ _ r)).eq L.dM.bX (L.tok _ _ (g _ _ (by simp)))
  .split at h<;>try(simp at h;done)
   rename_i n K;simp only[ay,aA]at h;obtain⟨rfl,rfl,rfl⟩:=h;refine⟨_,k.cN,by simp,⟨_,rfl⟩,by simp[cD],fun c T d g L e=>?_⟩
   have H:v = .slice none 0 0:=by cases i with|v h=>cases h;rfl
   subst H;have s:=e dv.length (by omega)
   exact .own (aE.1 s).1 (fun _ _=>dV _) (.m3 n) fun _ M=>by omega
 .split at h
  .simp only[ay,aA]at h
   obtain⟨rfl,rfl,rfl⟩:=h;refine⟨dv,k,rfl,⟨[],by simp⟩,by simp[cD],fun c T d g L e=>?_⟩
   cases i with
   |own E I p z=>exact .v (p.jV L.dM.bX)
  .split at h<;>try(simp at h;done)
   rename_i j;split at h
   .rename_i J
    simp only[ay,aA]at h;obtain⟨rfl,rfl,rfl⟩:=h;refine⟨dv,k,rfl,⟨[],by simp⟩,?_,fun c T d g L e=>(i.dM j L.dM y).norm⟩
    rw[lM];exact ru (tz (Co j))
   .simp only[ay,aA]at h
    obtain⟨rfl,rfl,rfl⟩:=h;refine⟨dv,k,rfl,⟨[],by simp⟩,?_,fun c T d g L e=>i.dM j L.dM y⟩
    rw[lM];exact ru (Co j)
def u3(b:AV)(a:List AV):cD (b::a)=cD [b]++cD a:=by cases b<;>rfl
def u5{cons:List Nat}:∀(e:List AV)(s:List TypeId)(i:Nat)(ae dv:List (Option Nat))(g:List AV)(hF:List (Option Nat))(m:Nat)(d:List Value),
  rp J ae dv->iF P f cons s i e ae dv.length=some (g,hF,m)->d.length=e.length->(∀(j:Nat)v a,d[j]?=some v->e[j]?=some a->aS G J w v a)->(∀a∈e,∀b∈a.refs,S b)->
  ∃t,rp J hF t/\t.length=m/\(∃l,t=dv++l)/\g.length=e.length/\cD g=List.replicate (m-dv.length) (some 0)/\
   ∀(n:Gh)(T o:List (Option Nat)),(∀(q:Nat)x,t[q]?=some x->o[q]?=some x)->Wf G n f S o->(∀q:Nat,q<m->T[q]?=some (some 0))->∀(j:Nat)v b,d[j]?=some v->g[j]?=some b->aS n T w v b
 |[],s,i,ae,dv,g,hF,m,d,k,h,D,z,E=>by
  simp only[iF,ay,aA]at h;obtain⟨rfl,rfl,rfl⟩:=h;exact⟨dv,k,rfl,⟨[],by simp⟩,rfl,by simp[cD],fun _ _ _ _ _ _ j v b _ V=>by simp at V⟩
 |a::e,s,i,ae,dv,g,hF,m,d,k,h,D,z,E=>by
  simp only[iF]at h;split at h<;>try(simp at h;done)
  rename_i b a3 kA a2;split at h<;>try(simp at h;done)
  rename_i a0 a4 kB Z;simp only[ay,aA]at h;obtain⟨rfl,rfl,rfl⟩:=h;cases d with
  |nil=>simp at D
  |cons v d=>
   obtain⟨I,W,K,⟨l1,M⟩,F,A⟩:=GO (S:=S) k a2 (z 0 v a rfl rfl) (E a (aW ..));rw[<-K]at Z;obtain⟨Y,a1,R,⟨l2,y⟩,B,C,N⟩:=u5 e s.tail (i+1) a3 I a0 a4 kB d W Z (by simpa using D) (fun j v a U p=>z (j+1) v a (by simpa using U) (by simpa using p)) (fun a h=>E a (aV _ h))
   have P4:dv.length<=I.length:=by rw[M];simp
   have N8:I.length<=Y.length:=by rw[y];simp
   refine⟨Y,a1,R,⟨l1++l2,by rw[y,M];simp⟩,by simp[B],?_,fun n T o p L Q j u c H r=>?_⟩
   .rw[u3,F,C,<-K,List.replicate_append_replicate]
    congr 1
    omega
   .cases j with
    |zero=>
     simp at H r;subst H;subst r;exact A n T o (fun q x X=>p q x (by rw[y,cj (aE.1 X).1];exact X)) L (fun q hq=>Q q (by omega))
    |succ j=>exact N n T o p L Q j u c (by simpa using H) (by simpa using r)
end
def u6:∀(xs:List Bx)(nb:Nat)(c h:List Bx),cx nb xs c=some h->(∀i,i<xs.length->c[nb+i]?=some .free)/\h.length=c.length /\
  ∀b:Nat,h[b]?=if nb<=b/\b<nb+xs.length then xs[b-nb]? else c[b]?
 |[],nb,c,h,a=>by
  simp only[cx,ay]at a;subst a;exact⟨by simp,rfl,fun b=>by rw[aN (by simp only[cS];omega)]⟩
 |x::xs,nb,c,h,a=>by
  simp only[cx]at a;split at a<;>try(simp at a;done)
  rename_i g;obtain⟨j,k,l⟩:=u6 xs (nb+1) _ h a;refine⟨fun i m=>?_,by simpa using k,fun b=>?_⟩
  .cases i with
   |zero=>exact g
   |succ i=>
    have:=j i (by simpa using m)
    rw[bT (by omega)]at this
    rw[show nb+(i+1)=nb+1+i by omega]
    exact this
  .rw[l b]
   by_cases d:b=nb
   .subst d
    rw[aN (by omega),aG ⟨ar _,by simp⟩,bU (aE.1 g).1]
    simp
   .by_cases f:nb+1<=b/\b<nb+1+xs.length
    .rw[aG f,aG ⟨by omega,by simp;omega⟩,show b-nb=(b-(nb+1))+1 by omega]
     simp
    .rw[aN f,aN (by simp;omega),bT (fun e=>d e.symm)]
def u7(f:Nat->Nat):∀(a:List Nat)(d c:List Bx),a.Nodup->a.length<=d.length->(iu f a d c).length=c.length /\
  ∀b:Nat,(iu f a d c)[b]?=if b∈a/\b<c.length then(d[a.idxOf b]?).map (Bx.dM f)else c[b]?
 |[],d,c,_,_=>by
  cases d<;>exact⟨rfl,fun b=>by simp[iu]⟩
 |l::a,[],c,_,h=>by simp at h
 |l::a,x::d,c,n,h=>by
  obtain⟨o,p⟩:=gX.1 n;obtain⟨k,m⟩:=u7 f a d (c.set l (x.dM f)) p (by simpa using h)
  refine⟨by rw[iu,k];simp,fun b=>?_⟩
  rw[iu,m b];simp only[ft];by_cases i:b=l
  .subst i
   rw[aN (fun h=>o h.1)]
   by_cases j:b<c.length
   .rw[aG ⟨aW ..,j⟩,bU j,List.idxOf_cons_self]
    rfl
   .rw[aN (fun h=>j h.2),eJ (by simpa using j),eJ (by omega)]
  .have q:(l::a).idxOf b=a.idxOf b+1:=by
    rw[List.idxOf_cons];have:(l==b)=false:=by simpa using fun e:l=b=>i e.symm
    rw[this];rfl
   by_cases g:b∈a/\b<c.length
   .rw[aG g,aG ⟨aV _ g.1,g.2⟩,q]
    simp
   .rw[aN g,aN (fun h=>g ⟨(aY.1 h.1).resolve_left i,h.2⟩),bT (fun e=>i e.symm)]
def BP(a:List Nat)(nb m b:Nat):Option Nat:=
 if b∈a then some (a.idxOf b)else if nb<=b/\b<nb+m then some (a.length+(b-nb))else none
def Jp(a:List Nat)(nb j:Nat):Nat:=match decide (j<a.length)with
 |true=>a.getD j 0
 |false=>nb+(j-a.length)
def GP(c:a.Nodup)(d:∀i,i<m->nb+i∉a)(e:j<a.length+m):BP a nb m (Jp a nb j)=some j:=by
 unfold BP Jp;by_cases h:j<a.length
 .have b:a[j]?=some (a.getD j 0):=by rw[bR,bo h];rfl
  simp only[h,decide_true];rw[aG (aK b),wk c b]
 .simp only[h,decide_false]
  rw[aN (d _ (by omega)),aG ⟨by omega,by omega⟩]
  congr 1
  omega
def LQ(h:BP a nb m b=some j):Jp a nb j=b/\j<a.length+m:=by
 unfold BP at h;unfold Jp;split at h
 .rename_i c
  obtain rfl:=ax h;have d:=yO c;have e:=mF c;simp only[d,decide_true];exact⟨by rw[bR,e];rfl,by omega⟩
 .split at h<;>try(simp at h;done)
  obtain rfl:=ax h;have:¬(a.length+(b-nb)<a.length):=by omega
  simp only[this,decide_false];exact⟨by omega,by omega⟩
def oV(a:List Nat)(nb m nt:Nat)(bF:Bool):Hd->Option Hd
 |.box b=>(BP a nb m b).map .box
 |.cell b j=>(BP a nb m b).map fun i=>.cell i j
 |.ov b k=>(BP a nb m b).map fun i=>.ov i k
 |.tok t=>if bF=true/\nt<=t then some (.tok (t-nt))else none
def Gh.back(G a:Gh)(c:List Nat)(dv:List (Option Nat))(nb m nt:Nat)(bF:Bool):Gh where
 bX:=a.bX
 h:=fun x=>match oV c nb m nt bF x with
  |some y=>a.h y
  |none=>match x with
   |.tok t=>if some t∈dv\/nt<=t then none else G.h (.tok t)
   |x=>G.h x
 val:=fun b=>match BP c nb m b with
  |some i=>a.val i
  |none=>G.val b
 bD:=fun b=>match BP c nb m b with
  |some i=>a.bD i
  |none=>G.bD b
def Gh.P5(G f:Gh){e:List Nat}(dv:List (Option Nat)){nb m nt:Nat}(bF:Bool)(c:e.Nodup)(d:∀i,i<m->nb+i∉e):lS f (G.back f e dv nb m nt bF) (Jp e nb) (· < e.length+m) where
 bX:=rfl
 bD:=fun b a h=>by simp only[Gh.back,GP c d a];exact h
 val:=fun b a=>by simp only[Gh.back,GP c d a]
 box:=fun b a=>by simp only[Gh.back,oV,GP c d a,de]
 cell:=fun b j a=>by simp only[Gh.back,oV,GP c d a,de]
 ov:=fun b k a=>by simp only[Gh.back,oV,GP c d a,de]
end Go.Ac
end
