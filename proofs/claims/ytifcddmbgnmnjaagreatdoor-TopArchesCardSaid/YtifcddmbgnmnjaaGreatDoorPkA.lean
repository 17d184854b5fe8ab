/-
Part 1 of the proof: lemmas; no conditions of their own beyond those that they state.
-/
import Derived.Orders
import Derived.KernelRfl
import Derived.Laws.Sem
import Derived.Below
import Derived.Laws.World
import Derived.Laws.StructEq
import Derived.Laws.Cells
import Derived.Laws.BytesString
import Derived.Laws.Strings
import Derived.Laws.NewFold
import Derived.Laws.Rows
import Derived.Laws.MakeOwn
import Derived.Laws.CopyRow
import Derived.Deep.AppendSrc
import Derived.Laws.AppendOwn
import Derived.MapKept
import Derived.MapFrom
import Derived.WideMake
import Derived.Calls
set_option linter.all false
set_option autoImplicit true
section
abbrev aI :=@if_neg
abbrev aF :=@if_pos
abbrev aj :=@cond_true
abbrev af :=@cond_false
abbrev mh :=@Prod.mk.inj
abbrev iN :=@Nat.le_succ
abbrev oa :=@Int.pow_pos
abbrev dY :=@Int.le_refl
abbrev cN :=@Nat.one_mul
abbrev dD :=@Nat.zero_le
abbrev bY :=@Nat.add_mul
abbrev ar :=@Nat.le_refl
abbrev iO :=@Int.le_of_lt
abbrev jL :=@Int.ne_of_gt
abbrev mi :=@List.all_nil
abbrev ob :=@List.map_nil
abbrev oc :=@Nat.add_comm
abbrev qj :=@Nat.lt_trans
abbrev dE :=@List.map_map
abbrev bg :=@List.mem_map
abbrev kY :=@Nat.mul_comm
abbrev cr :=@Nat.zero_add
abbrev qk :=@List.set_set
abbrev bR :=@Nat.lt_or_ge
abbrev hE :=@Nat.add_zero
abbrev kZ :=@Nat.sub_self
abbrev dF :=@Nat.le_trans
abbrev od :=@List.map_drop
abbrev iP :=@List.any_cons
abbrev iQ :=@List.map_take
abbrev eF :=@List.sum_cons
abbrev aU :=@List.mem_cons
abbrev bE :=@List.all_cons
abbrev mj :=@Bool.false_or
abbrev bB :=@List.map_cons
abbrev fh :=@Bool.not_true
abbrev ax :=@Prod.mk.injEq
abbrev gp :=@Nat.add_assoc
abbrev bI :=@decide_eq_true
abbrev hF :=@Nat.mul_le_mul
abbrev tM :=@Int.mul_nonneg
abbrev gq :=@List.drop_zero
abbrev fj :=@List.drop_drop
abbrev dG :=@List.mem_range
abbrev jM :=@Bool.not_false
abbrev gr :=@ne_of_beq_false
abbrev cf :=@decide_eq_false
abbrev tN :=@List.cons.injEq
abbrev iR :=@Nat.not_lt_zero
abbrev mm :=@Int.emod_nonneg
abbrev cx :=@List.find?_cons
abbrev ao :=@List.length_map
abbrev dZ :=@List.mem_filter
abbrev ql :=@List.find?_some
abbrev gu :=@Bool.or_eq_true
abbrev hH :=@List.nodup_cons
abbrev cg :=@List.map_append
abbrev ea :=@List.nil_append
abbrev eG :=@List.append_nil
abbrev bC :=@List.mem_append
abbrev eH :=@List.length_set
abbrev cO :=@List.length_nil
abbrev qm :=@Option.map_none
abbrev cP :=@Option.map_some
abbrev au :=@Option.some.inj
abbrev jN :=@List.not_mem_nil
abbrev hK :=@List.length_drop
abbrev di :=@List.cons_append
abbrev oe :=@List.length_take
abbrev qn :=@List.nodup_range
abbrev tO :=@List.filter_cons
abbrev og :=@List.any_eq_true
abbrev fk :=@List.mem_flatMap
abbrev gv :=@List.getElem_mem
abbrev mo :=@Nat.mod_eq_of_lt
abbrev fS :=@Option.bind_some
abbrev mq :=@Option.getD_some
abbrev bU :=@Bool.and_eq_true
abbrev aC :=@List.length_cons
abbrev bf :=@List.all_eq_true
abbrev mr :=@Array.toList_inj
abbrev aN :=@of_decide_eq_true
abbrev fm :=@decide_eq_true_eq
abbrev eI :=@List.flatMap_cons
abbrev hL :=@List.take_add_one
abbrev tP :=@List.push_toArray
abbrev bn :=@List.append_assoc
abbrev k8 :=@Bool.eq_false_iff
abbrev gw :=@Bool.not_eq_true'
abbrev tQ :=@List.nodup_append
abbrev rJ :=@List.size_toArray
abbrev il :=@List.getElem?_set
abbrev bp :=@List.getElem?_map
abbrev tR :=@Int.toNat_natCast
abbrev eR :=@List.ext_getElem?
abbrev aw :=@Option.some.injEq
abbrev bH :=@of_decide_eq_false
abbrev xw :=@BitVec.toNat_ofNat
abbrev CZ :=@Nat.lt_of_le_of_lt
abbrev oV :=@Int.emod_lt_of_pos
abbrev kR :=@List.pairwise_cons
abbrev C0 :=@Nat.eq_zero_or_pos
abbrev de :=@List.length_append
abbrev jO :=@Bool.false_eq_true
abbrev C1 :=@Array.getElem?_map
abbrev aS :=@List.mem_cons_self
abbrev eS :=@List.getElem?_take
abbrev cE :=@List.mem_singleton
abbrev jb :=@List.getElem?_drop
abbrev gg :=@Nat.lt_of_lt_of_le
abbrev fo :=@beq_eq_false_iff_ne
abbrev C2 :=@List.mem_map_of_mem
abbrev rK :=@List.drop_succ_cons
abbrev xx :=@List.append_toArray
abbrev xy :=@List.take_succ_cons
abbrev xz :=@List.filter_eq_self
abbrev xA :=@Bool.or_eq_true_iff
abbrev rL :=@List.map_congr_left
abbrev C4 :=@Function.comp_apply
abbrev tS :=@Array.toList_append
abbrev C5 :=@List.length_pos_iff
abbrev lR :=@List.getElem?_range
abbrev lS :=@Array.length_toList
abbrev xB :=@BitVec.ofInt_natCast
abbrev tT :=@List.dropLast_subset
abbrev tU :=@List.mem_of_getLast?
abbrev Db :=@Nat.pow_le_pow_right
abbrev Dc :=@List.getElem?_of_mem
abbrev xC :=@Array.replicate_zero
abbrev xD :=@Array.replicate_succ
abbrev Dd :=@Array.toArray_toList
abbrev De :=@Bool.or_eq_false_iff
abbrev Df :=@List.getElem?_modify
abbrev dt :=@Nat.mul_le_mul_right
abbrev bM :=@List.getElem?_set_ne
abbrev aK :=@List.mem_of_getElem?
abbrev tV :=@List.mem_of_mem_drop
abbrev xE :=@List.mem_of_mem_take
abbrev dL :=@List.mem_append_left
abbrev aP :=@List.mem_cons_of_mem
abbrev xF :=@List.take_append_drop
abbrev Dg :=@List.dropLast_eq_take
abbrev xG :=@UInt8.le_iff_toNat_le
abbrev rM :=@List.mem_iff_getElem?
abbrev tW :=@List.getElem?_toArray
abbrev xH :=@Array.getElem?_modify
abbrev gR :=@Array.getElem?_toList
abbrev ee :=@List.getElem?_eq_none
abbrev eT :=@List.mem_append_right
abbrev Dh :=@Array.mem_of_getElem?
abbrev Di :=@List.drop_eq_nil_of_le
abbrev eU :=@List.take_of_length_le
abbrev rN :=@Array.getElem?_eq_none
abbrev bN :=@List.getElem?_set_self
abbrev aX :=@Option.map_eq_some_iff
abbrev Dj :=@Array.getElem?_extract
abbrev Dk :=@List.IsPrefix.length_le
abbrev Dl :=@Nat.add_sub_cancel_left
abbrev gS :=@List.length_eq_zero_iff
abbrev Dm :=@List.getElem?_replicate
abbrev xI :=@List.getElem?_cons_zero
abbrev rO :=@List.getElem?_cons_succ
abbrev cI :=@Option.bind_eq_some_iff
abbrev iq :=@Int.eq_ofNat_of_zero_le
abbrev Dn :=@List.mem_of_mem_eraseIdx
abbrev lT :=@Option.isSome_iff_exists
abbrev bk :=@List.getElem?_eq_getElem
abbrev xJ :=@List.drop_eq_getElem_cons
abbrev xK :=@List.getLast?_eq_getElem?
abbrev jP :=@List.getLastD_eq_getLast?
abbrev kS :=@List.mem_of_find?_eq_some
abbrev xL :=@List.pairwise_iff_getElem
abbrev bX :=@List.getElem?_append_left
abbrev tX :=@List.mem_or_eq_of_mem_set
abbrev cK :=@Array.getElem?_eq_getElem
abbrev aE :=@List.getElem?_eq_some_iff
abbrev xM :=@Int.fdiv_eq_ediv_of_nonneg
abbrev tY :=@Int.tmod_eq_emod_of_nonneg
abbrev Dp :=@List.isPrefixOf_iff_prefix
abbrev xN :=@Int.tdiv_eq_ediv_of_nonneg
abbrev ei :=@List.getElem?_append_right
abbrev gK :=@Array.getElem?_eq_some_iff
abbrev bS :=@List.getD_eq_getElem?_getD
abbrev x8 :=@List.idxOf_lt_length_of_mem
abbrev Iw :=@Array.eraseIdxIfInBounds_eq
abbrev jj :=@Array.getD_eq_getD_getElem?
abbrev x9 :=@List.dropLast_concat_getLast
abbrev jk :=@List.getLast?_eq_some_getLast
abbrev Ix :=@Int.mul_le_mul_of_nonneg_right
abbrev N2 :=@Array.getElem?_setIfInBounds_self_of_lt
namespace Go.Ac
open Go
inductive PV where
 |bool (b:Bool)
 |int (k:IntKind) (n:Int)
 |str (s:List UInt8)
 |ng (k:FloatKind) (o:Option (Nat×Nat))
 |Dq (k:FloatKind)
 |sl (n:Nat) (al:List (List PV))
 |nil
 deriving Inhabited
inductive AV where
 |none
 |v (p:PV)
 |agg (cs:List PV)
 |Dr (cs:List AV)
 |own (t ver n:Nat) (al:List (List PV))
 |jH (n:Nat) (al:List (List PV))
 |aA (b off:Nat)
 |iS (b base n len:Nat) (i:Int) (j:Nat)
 |fK (b n:Nat) (i:Int) (j:Nat)
 |kr (cs:List PV)
 |bo (b:Nat)
 |mp (b:Nat)
 |fn (f:Fn) (first cap:List AV)
 |xg (vs:List AV)
 |wG (o:Option (TypeId×List PV))
 |opt (c:Bool) (j:Nat) (w:Bool) (a:AV)
 deriving Inhabited
inductive Bx where
 |cells (cs:List AV)
 |bc (n:Nat) (al:List (List PV))
 |tZ (n:Nat) (al:List (List PV))
 |map (t:TypeId) (es:List (PV×AV))
 |dead
 |free
 deriving Inhabited
structure St where
 tmps:List AV
 ad:List (Option Nat)
 heap:List Bx
def S8:Value->Option PV
 |.bool b=>some (.bool b)
 |.int k n=>some (.int k n)
 |.string s=>some (.str s.data.toList)
 |.complex k c a=>some (.ng k (some (c,a)))
 |.slice .none 0 0=>some .nil
 |_=>.none
def FA:List Value->Option (List PV)
 |[]=>some []
 |v::a=>match S8 v,FA a with
  |some p,some ps=>some (p::ps)
  |_,_=>.none
def lU:Value->AV
 |.agg cs=>match FA cs.toList with
  |some ps=>.agg ps
  |.none=>.none
 |.nilIface=>.wG .none
 |v=>match S8 v with
  |some p=>.v p
  |.none=>.none
def ff(tmps:List AV):Operand->AV
 |.tmp t=>tmps.getD t .none
 |.const v=>lU v
 |.func f=>.fn (.func f) [] []
 |.global _=>.none
def AV.pv:AV->Option PV
 |.v p=>some p
 |.own _ _ n al=>some (.sl n al)
 |.jH n al=>some (.sl n al)
 |_=>.none
def AV.bits:AV->Option (List PV)
 |.agg cs=>some cs
 |a=>match a.pv with
  |some p=>some [p]
  |.none=>.none
def AV.ua(n:Nat):AV->Option (List (List PV))
 |.v (.sl m al)=>if m=n then some al else .none
 |.v .nil=>some []
 |.own _ _ m al=>if m=n then some al else .none
 |_=>.none
inductive CT where
 |bool|int (k:IntKind)|str|U2 (k:FloatKind)|ng (k:FloatKind)|sl (n:Nat)|other
structure An where
 fz:Bool:=false
 take:Bool:=false
 bA:Bool:=false
 vec:Bool:=false
 tZ:Bool:=false
 wrap:Bool:=false
 spec:Bool:=false
 cons:List Nat:=[]
 fn:Nat:=0
 fb:Option (List Nat):=.none
inductive Kd where
 |d
 |row (r:List PV)
 |cell (a:AV)
 |put (cs:List AV)
 |pk (b:Bool)
 |call (r:List AV) (hp:List Bx)
 |look (o:Option AV)
 |S9 (o:Option (List PV))
 |conv (l:List UInt8)
 deriving Inhabited
structure FB where
 f:FuncId
 args:List AV
 heap:List Bx
 r:List AV
 sG:List Bx
structure ly where
 v:AV
 ad:List (Option Nat)
 heap:List Bx
 du:List Prop:=[]
 calls:List FB:=[]
structure nN where
 hr:Bool:=false
 hw:Bool:=false
 tk:Bool:=false
 bx:Option (List Nat):=.none
def cL(o:Op)(an:An)(nb:Nat):nN:=
 match o with
 |.load .. => match an.fz with
  |true=>{}
  |false=>{hr:=true,hw:=an.take,tk:=an.take,bx:=an.fb}
 |.alloc _|.makeSlice .. |.makeMap .. => {hw:=true,bx:=some [nb]}
 |.box .. => {hw:=true,tk:=an.take,bx:=some [nb]}
 |.store .. |.mapUpdate .. => {hr:=true,hw:=true,tk:=an.take,bx:=an.fb}
 |.lookup .. => {hr:=true,hw:=an.take,tk:=an.take,bx:=an.fb}
 |.buildSlice .. => {tk:=an.bA,hw:=an.vec,bx:=some [nb]}
 |.slice .. => {hr:=an.vec,hw:=an.vec,bx:=an.fb}
 |.call c=>match c.callee with
  |.builtin .append=>{tk:=true,hr:=an.vec,hw:=an.vec,bx:=an.fb}
  |.builtin .delete=>{hr:=true,hw:=true,bx:=an.fb}
  |.builtin .len=>{hr:=an.vec,bx:=an.fb}
  |.builtin _=>{}
  |_=>{hr :=!an.fz,hw :=!an.fz,tk:=an.bA || !an.cons.isEmpty,bx:=an.fb}
 |.indexAddr .. => {hr:=an.vec,bx:=an.fb}
 |_=>{}
def Bn(l:List Nat):Nat->List Bx->List Bx
 |_,[]=>[]
 |b,x::h=>(match l.contains b with|true=>x|false=>.dead)::Bn l (b+1) h
def vn(l:List Nat):Nat->List Bx->List Bx->List Bx
 |_,[],_=>[]
 |b,x::h,a=>(match l.contains b with|true=>a.headD .dead|false=>x)::vn l (b+1) h a.tail
def nN.view(c:nN)(heap:List Bx):List Bx:=
 match c.hr||c.hw with
 |true=>match c.bx with
  |.none=>heap
  |some l=>Bn l 0 heap
 |false=>[]
def nN.merge(c:nN)(heap a:List Bx):List Bx:=
 match c.hw with
 |true=>match c.bx with
  |.none=>a
  |some l=>vn l 0 heap a
 |false=>heap
def N3(P:Program)(o:Op)(an:An):Nat:=
 match o with
 |.alloc _|.makeSlice .. |.makeMap .. |.box .. => 1
 |.slice .. |.buildSlice .. => match an.vec with|true=>1|false=>0
 |.call c=>match c.callee with
  |.builtin .append=>match an.vec with|true=>1|false=>0
  |.value (.func g)=>match P.funcs[g]? with
   |some fn=>(fn.resultTypes.toList.filter fun t=>match P.underlying t with
    |some (.slice _)=>an.vec
    |some (.map _ _)|some (.func _ _ _)=>true
    |_=>false).length
   |.none=>0
  |_=>0
 |_=>0
def FC(op:BinOp)(k:IntKind)(x y:Int):Option Int:=
 let a:=BitVec.ofInt k.bits x
 let b:=BitVec.ofInt k.bits y
 match op with
 |.and=>some (k.wrap (a &&& b).toNat)
 |.or=>some (k.wrap (a ||| b).toNat)
 |.xor=>some (k.wrap (a ^^^ b).toNat)
 |.andNot=>some (k.wrap (a &&& ~~~b).toNat)
 |_=>.none
def N4(op:BinOp)(x y:Int):Option Bool:=
 match op with
 |.eql=>some (x==y)
 |.neq=>some (x !=y)
 |.lss=>some (decide (x<y))
 |.leq=>some (decide (x<=y))
 |.gtr=>some (decide (x>y))
 |.geq=>some (decide (x>=y))
 |_=>.none
def bh(k:IntKind)(n:Int):Prop:=k.min<=n/\n<=k.max
def vo(op:BinOp)(k:IntKind)(x y:Int)(wrap:Bool):Option (Int×List Prop):=
 let put (n:Int):Option (Int×List Prop):=match wrap || !k.signed with
  |true=>some (k.wrap n,[])
  |false=>some (n,[bh k n])
 match op with
 |.add=>put (x+y)
 |.sub=>put (x-y)
 |.mul=>put (x*y)
 |.quo=>some (k.wrap (x.tdiv y),[y≠0])
 |.rem=>some (x.tmod y,[y≠0])
 |.shl=>some (k.wrap (x*2^(min y.toNat k.bits)),[0<=y])
 |.shr=>some (x.fdiv (2^(min y.toNat k.bits)),[0<=y])
 |_=>(FC op k x y).map fun n=>(n,[])
def Wf(op:BinOp)(x y:List UInt8):Option Bool:=
 match op with
 |.eql=>some (x==y)
 |.neq=>some (!(x==y))
 |.lss=>some (Op.bytesLess x y)
 |.leq=>some (Op.bytesLess x y||x==y)
 |.gtr=>some (!(Op.bytesLess x y||x==y))
 |.geq=>some (!(Op.bytesLess x y))
 |_=>.none
def YD(k:FloatKind):Option (Nat×Nat)->Option (Nat×Nat)->Bool
 |some (a,b),some (c,d)=>Op.floatEq k a c&&Op.floatEq k b d
 |_,_=>false
section
variable (P:Program)
def cZ(t:TypeId):Option Bool:=
 match P.underlying t with
 |some (.struct _)|some (.array _ _)=>some true
 |some _=>some false
 |.none=>.none
def ck(t:TypeId):Option Nat:=(P.info? t).map (·.size)
def ya(t:TypeId):Option Nat:=(P.info? t).map (·.bytes)
def qo(t:TypeId):Option AV:=((P.info? t).bind (·.zero)).map lU
def Iy:Nat->TypeId->List CT
 |0,_=>[.other]
 |d+1,t=>match P.underlying t with
  |some .bool=>[.bool]
  |some (.int k)=>[.int k]
  |some .string=>[.str]
  |some (.float k)=>[.U2 k]
  |some (.complex k)=>[.ng k]
  |some (.slice e)=>match ck P e with
   |some n=>[.sl n]
   |.none=>[.other]
  |some (.struct a)=>a.toList.flatMap fun f=>Iy d f.type
  |some (.array len e)=>(List.replicate len (Iy d e)).flatten
  |_=>[.other]
def jQ(t:TypeId):List CT:=Iy P 20 t
def CT.norm:CT->PV->PV
 |.sl n,.nil=>.sl n []
 |_,p=>p
def kt:List CT->List PV->List PV
 |c::cs,p::ps=>c.norm p::kt cs ps
 |_,ps=>ps
def yb(t:TypeId):AV->AV
 |.v p=>match jQ P t with
  |[c]=>.v (c.norm p)
  |_=>.v p
 |.agg ps=>.agg (kt (jQ P t) ps)
 |a=>a
def rowOf(t:TypeId)(a:AV):Option (List PV):=(a.bits).map (kt (jQ P t))
def eqFields(eq:TypeId->Bool->List PV->List PV->Option (Bool×List Prop))(xs c:List PV):List Field->Bool->Option (Bool×List Prop)
 |[],pre=>some (pre,[])
 |f::d,pre=>
  match f.name == "_" with
  |true=>eqFields eq xs c d pre
  |false=>match ck P f.type with
   |.none=>.none
   |some n=>
    match eq f.type pre ((xs.drop f.offset).take n) ((c.drop f.offset).take n)with
    |.none=>.none
    |some (a,l)=>match eqFields eq xs c d a with
     |some (b,m)=>some (b,l++m)
     |.none=>.none
def lV(eq:Bool->List PV->List PV->Option (Bool×List Prop))(n:Nat)(xs c:List PV):Nat->Nat->Bool->Option (Bool×List Prop)
 |0,_,pre=>some (pre,[])
 |k+1,i,pre=>match eq pre ((xs.drop (i*n)).take n) ((c.drop (i*n)).take n)with
  |.none=>.none
  |some (a,l)=>match lV eq n xs c k (i+1) a with
   |some (b,m)=>some (b,l++m)
   |.none=>.none
def Iz:Nat->TypeId->Bool->List PV->List PV->Option (Bool×List Prop)
 |0,_,_,_,_=>.none
 |d+1,t,pre,xs,c=>
  match P.underlying t,xs,c with
  |some .bool,[.bool a],[.bool b]=>some (pre&&(a==b),[])
  |some (.int _),[.int k a],[.int f b]=>if k=f then some (pre&&(a==b),[])else .none
  |some .string,[.str a],[.str b]=>some (pre&&(a==b),[])
  |some (.complex k),[.ng g a],[.ng i b]=>if k=g/\k=i then some (pre&&YD k a b,[pre=true->a.isSome=true/\b.isSome=true])else .none
  |some (.struct fields),xs,c=>
   match P.stoodInHeld t with
   |true=>.none
   |false=>eqFields P (Iz d) xs c fields.toList pre
  |some (.array len e),xs,c=>match ck P e with
   |some n=>lV (Iz d e) n xs c len 0 pre
   |.none=>.none
  |_,_,_=>.none
def Ds(t:TypeId):Option (List AV):=((P.info? t).bind (·.zero)).bind fun z=>match z.cells.toList.all Value.oneCell' with
 |true=>some (z.cells.toList.map lU)
 |false=>.none
def My(n:Nat):List (List PV)->Nat->List PV->Option (List (List PV))
 |[],_,_=>.none
 |_::a,0,x=>if x.length=n then some (x::a)else .none
 |r::a,i+1,x=>(My n a i x).map (r :: ·)
def putAt{α:Type}:List α->Nat->List α->List α
 |l,_,[]=>l
 |l,off,x::xs=>putAt (l.set off x) (off+1) xs
def k9(e:TypeId)(n:Nat)(ρ:Operand->AV):List (Nat×Operand)->List (List PV)->Option (List (List PV))
 |[],al=>some al
 |(i,x)::ps,al=>match rowOf P e (ρ x)with
  |some r=>match My n al i r with
   |some a=>k9 e n ρ ps a
   |.none=>.none
  |.none=>.none
def AV.cells:AV->List AV
 |.agg cs=>cs.map .v
 |.Dr cs=>cs
 |a=>[a]
def AV.inner:AV->Bool
 |.v _|.aA _ _|.bo _|.mp _=>true
 |_=>false
def AV.soft:AV->AV
 |.own _ _ n al=>.v (.sl n al)
 |a=>a
def jz(place:Nat->Option (Nat×Nat))(ρ:Operand->AV):List (Nat×Operand)->List AV->Option (List AV)
 |[],cs=>some cs
 |(i,x)::ps,cs=>match place i,(ρ x).soft.cells with
  |some (off,size),r=>if r.length=size&&off+size<=cs.length&&r.all AV.inner then jz place ρ ps (putAt cs off r)else .none
  |_,_=>.none
def rP:List AV->Option (List PV)
 |[]=>some []
 |.v p::l=>(rP l).map (p :: ·)
 |_=>.none
def Bo(cs:List AV):AV:=match rP cs with
 |some ps=>.agg ps
 |.none=>.Dr cs
def placesOf(t:TypeId):Option (Nat->Option (Nat×Nat)):=
 match P.underlying t with
 |some (.struct fields)=>match fields.toList.all fun f=>(ck P f.type).isSome with
  |true=>some fun i=>match fields[i]? with
   |some f=>(ck P f.type).map fun n=>(f.offset,n)
   |.none=>.none
  |false=>.none
 |some (.array _ elem)=>(ck P elem).map fun n=>fun i=>some (i*n,n)
 |_=>.none
def bytesOf:List (List PV)->Option (List UInt8)
 |[]=>some []
 |[.int .u8 n]::a=>(bytesOf a).map (UInt8.ofNat n.toNat :: ·)
 |_=>.none
def plain(o:Op)(an:An)(k:Kd)(ρ:Operand->AV):Option (AV×List Prop):=
 match o,k with
 |.move x,_|.assign x,_=>some (ρ x,[])
 |.pick c a b,.pk t=>match ρ c with
  |.v (.bool B)=>some (if t then ρ a else ρ b,[B=t])
  |_=>.none
 |.pick c a b,_=>match ρ c with
  |.v (.bool B)=>match ρ a,ρ b with
   |.v (.bool x),.v (.bool y)=>some (.v (.bool (bif B then x else y)),[])
   |x,y=>match B with
    |true=>some (x,[])
    |false=>some (y,[])
  |_=>.none
 |.build t aV,_=>match Ds P t,placesOf P t with
  |some z,some pl=>(jz pl ρ aV.toList z).map fun cs=>(Bo cs,[])
  |_,_=>.none
 |.buildSlice t len aV,_=>match P.underlying t with
  |some (.slice e)=>match ck P e,(qo P e).bind (rowOf P e)with
   |some n,some z=>if z.length=n&&n≠0&&len*n<=2^24 then(k9 P e n ρ aV.toList (List.replicate len z)).map fun al=>(.v (.sl n al),[])else .none
   |_,_=>.none
  |_=>.none
 |.load t a,_=>match ρ a with
  |.kr cs=>match cZ P t,ck P t with
   |some true,some n=>if n<=cs.length then some (.agg (cs.take n),[])else .none
   |some false,some 1=>match cs with
    |p::_=>some (.v p,[])
    |[]=>.none
   |_,_=>.none
  |_=>.none
 |.nilCheck x,_=>match ρ x with
  |.aA b off=>some (.aA b off,[])
  |.iS b s n l i j=>some (.iS b s n l i j,[])
  |.fK b n i j=>some (.fK b n i j,[])
  |.kr cs=>some (.kr cs,[])
  |_=>.none
 |.binOp op t x y _,_=>match ρ x,ρ y with
  |.v (.int q a),.v (.int w b)=>
   match op with
   |.shl|.shr=>(vo op q a b an.wrap).map fun(n,l)=>(.v (.int q n),l)
   |_=>if q=w then
     match N4 op a b with
     |some B=>some (.v (.bool B),[])
     |.none=>(vo op q a b an.wrap).map fun(n,l)=>(.v (.int q n),l)
    else .none
  |.v (.str a),.v (.str b)=>match op with
   |.add=>some (.v (.str (a++b)),[a.length+b.length<=9223372036854775807])
   |_=>(Wf op a b).map fun B=>(.v (.bool B),[])
  |.v (.bool a),.v (.bool b)=>match op,P.underlying t with
   |.eql,some .bool=>some (.v (.bool (a==b)),[])
   |.neq,some .bool=>some (.v (.bool (!(a==b))),[])
   |_,_=>.none
  |.v (.Dq q),.v (.Dq w)=>match op with
   |.add=>if q=w then some (.v (.Dq q),[])else .none
   |_=>.none
  |.agg xs,.agg H=>match P.eqGuardType P.depth t,cZ P t with
   |false,some true=>match op,Iz P 20 t true xs H with
    |.eql,some (B,l)=>some (.v (.bool B),l)
    |.neq,some (B,l)=>some (.v (.bool (!B)),l)
    |_,_=>.none
   |_,_=>.none
  |.wG o,.wG .none=>match op,P.underlying t,y with
   |.eql,some (.interface _),.const _=>some (.v (.bool o.isNone),[])
   |.neq,some (.interface _),.const _=>some (.v (.bool o.isSome),[])
   |_,_,_=>.none
  |_,_=>.none
 |.unOp op _ x,_=>match op,ρ x with
  |.not,.v (.bool b)=>some (.v (.bool (!b)),[])
  |.neg,.v (.int k n)=>some (.v (.int k (k.wrap (0-n))),[])
  |.xor,.v (.int k n)=>(FC .xor k (if k.signed then -1 else k.max) n).map fun m=>(.v (.int k m),[])
  |_,_=>.none
 |.convert s d x,k=>match P.underlying s,P.underlying d,ρ x with
  |some (.int _),some (.int k),.v (.int _ n)=>some (.v (.int k (k.wrap n)),[])
  |some (.int _),some (.float k),.v (.int _ _)=>some (.v (.Dq k),[])
  |some (.slice e),some .string,a=>match P.underlying e,a.ua 1 with
   |some (.int .u8),some al=>match k with
    |.conv l=>some (.v (.str l),[bytesOf al=some l])
    |_=>(bytesOf al).map fun l=>(.v (.str l),[])
   |_,_=>.none
  |_,_,_=>.none
 |.makeInterface t x,_=>match P.underlying t with
  |some (.interface _)=>.none
  |some (.struct _)=>match ρ x with
   |.agg cs=>some (.wG (some (t,cs)),[])
   |_=>.none
  |some _=>some (.none,[])
  |_=>.none
 |.typeAssert x _ t ok,.S9 o=>match ρ x,P.underlying t,ok with
  |.wG i,some (.struct _),true=>match o,qo P t with
   |some cs,_=>some (.xg [.agg cs,.v (.bool true)],[i=some (t,cs)])
   |.none,some (.agg z)=>some (.xg [.agg z,.v (.bool false)],[∀cs,i≠some (t,cs)])
   |_,_=>.none
  |.wG i,some (.struct _),false=>match o with
   |some cs=>some (.agg cs,[i=some (t,cs)])
   |_=>.none
  |_,_,_=>.none
 |.makeFunc f first cap,_=>some (.fn f (first.toList.map ρ) (cap.toList.map ρ),[])
 |.fieldAddr s x f,_=>match P.underlying s with
  |some (.struct fields)=>match fields[f]? with
   |some g=>match ck P g.type with
    |some 0=>.none
    |some _=>match ρ x with
     |.aA b off=>some (.aA b (off+g.offset),[])
     |.iS b s n l i j=>some (.iS b s n l i (j+g.offset),[])
     |.fK b n i j=>some (.fK b n i (j+g.offset),[])
     |.kr cs=>some (.kr (cs.drop g.offset),[])
     |_=>.none
    |.none=>.none
   |.none=>.none
  |_=>.none
 |.field t x f,_=>match P.underlying t,ρ x with
  |some (.struct fields),.agg cs=>match fields[f]? with
   |some g=>part cs g.type g.offset
   |.none=>.none
  |_,_=>.none
 |.indexAddr t x v,k=>match ρ v with
  |.v (.int _ i)=>match P.underlying t,ρ x with
   |some (.array len e),.aA b off=>match ck P e with
    |some n=>some (.iS b off n len i 0,[0<=i/\i<len])
    |.none=>.none
   |some (.array len e),.kr cs=>match ck P e with
    |some n=>some (.kr (cs.drop (i.toNat*n)),[0<=i/\i<len])
    |.none=>.none
   |some (.slice e),a=>match ck P e with
    |some n=>match a.ua n with
     |some al=>match k with
      |.row r=>match decide (r.length=n)with
       |true=>some (.kr r,[0<=i,al[i.toNat]?=some r])
       |false=>.none
      |_=>.none
     |.none=>.none
    |.none=>.none
   |_,_=>.none
  |_=>.none
 |.index t x v,k=>match ρ v,P.underlying t,ρ x with
  |.v (.int _ i),some (.array len e),.agg cs=>match cZ P e,ck P e,k with
   |some false,some 1,.cell (.v p)=>some (.v p,[0<=i/\i<len,cs[i.toNat]?=some p])
   |_,_,_=>.none
  |.v (.int _ i),some .string,.v (.str s)=>some (.v (.int .u8 (s.getD i.toNat 0).toNat),[0<=i/\i<s.length])
  |_,_,_=>.none
 |.extract x i,_=>match ρ x with
  |.xg G=>(G[i]?).map fun a=>(a,[])
  |_=>.none
 |.slice t x lo D E,_=>match E,P.underlying t with
  |.none,some (.slice e)=>
   match ck P e with
   |some n=>match(ρ x).ua n with
    |some al=>match bound (lo.map ρ) 0,bound (D.map ρ) al.length with
     |some l,some h=>some (.v (.sl n ((al.take h.toNat).drop l.toNat)),[0<=l/\l<=h/\h<=al.length])
     |_,_=>.none
    |_=>.none
   |.none=>.none
  |.none,some .string=>
   match ρ x with
   |.v (.str s)=>match bound (lo.map ρ) 0,bound (D.map ρ) s.length with
    |some l,some h=>some (.v (.str ((s.take h.toNat).drop l.toNat)),[0<=l/\l<=h/\h<=s.length])
    |_,_=>.none
   |_=>.none
  |_,_=>.none
 |.call {callee:=.builtin .len,args,argTypes},_=>match args.toList,argTypes.toList with
  |[x],[t]=>match P.underlying t,ρ x with
   |some (.slice e),a=>match ck P e with
    |some n=>(a.ua n).map fun al=>(.v (.int .i64 al.length),[])
    |.none=>.none
   |some (.array n _),_=>some (.v (.int .i64 n),[])
   |some .string,.v (.str s)=>some (.v (.int .i64 s.length),[])
   |_,_=>.none
  |_,_=>.none
 |.call {callee:=.builtin .real,args, ..},_|.call {callee:=.builtin .imag,args, ..},_=>match args.toList.map ρ with
  |[.v (.ng k _)]=>some (.v (.Dq k),[])
  |_=>.none
 |.call {callee:=.builtin .complex,args, ..},_=>match args.toList.map ρ with
  |[.v (.Dq k),.v (.Dq u)]=>if k=u then some (.v (.ng k .none),[])else .none
  |_=>.none
 |.call {callee:=.builtin .max,args, ..},_=>match args.toList.map ρ with
  |[.v (.int k a),.v (.int u b)]=>if k=u then some (.v (.int k (if b>a then b else a)),[])else .none
  |_=>.none
 |.call {callee:=.builtin .min,args, ..},_=>match args.toList.map ρ with
  |[.v (.int k a),.v (.int u b)]=>if k=u then some (.v (.int k (if b<a then b else a)),[])else .none
  |_=>.none
 |_,_=>.none
where
 part (cs:List PV) (t:TypeId) (off:Nat):Option (AV×List Prop):=
  match cZ P t,ck P t with
  |some true,some n=>if off+n<=cs.length then some (.agg ((cs.drop off).take n),[])else .none
  |some false,some 1=>(cs[off]?).map fun p=>(.v p,[])
  |_,_=>.none
 bound (x:Option AV) (d:Nat):Option Int:=
  match x with
  |.none=>some d
  |some (.v (.int _ i))=>some i
  |_=>.none
end
def AV.nh:AV->List Nat
 |.aA b _|.iS b .. |.fK b .. |.bo b|.mp b=>[b]
 |_=>[]
def AV.refs:AV->List Nat
 |.fn _ first cap=>(first++cap).flatMap AV.nh
 |.Dr cs=>cs.flatMap AV.nh
 |a=>a.nh
def Bx.refs:Bx->List Nat
 |.cells cs=>cs.flatMap AV.refs
 |_=>[]
def reach(heap:List Bx):Nat->List Nat->List Nat->List Nat
 |0,_,a=>a
 |_,[],a=>a
 |n+1,b::l,a=>match a.contains b with
  |true=>reach heap n l a
  |false=>reach heap n ((heap.getD b .dead).refs++l) (a++[b])
def AV.ub(f:Nat->Nat):AV->AV
 |.aA b off=>.aA (f b) off
 |.iS b s n l i j=>.iS (f b) s n l i j
 |.fK b n i j=>.fK (f b) n i j
 |.bo b=>.bo (f b)
 |.mp b=>.mp (f b)
 |a=>a
def AV.dq(f:Nat->Nat):AV->AV
 |.fn g first cap=>.fn g (first.map (AV.ub f)) (cap.map (AV.ub f))
 |.Dr cs=>.Dr (cs.map (AV.ub f))
 |a=>a.ub f
def Bx.dq(f:Nat->Nat):Bx->Bx
 |.cells cs=>.cells (cs.map (AV.dq f))
 |b=>b
def AV.simple:AV->Bool
 |.none|.v _|.agg _|.aA .. |.bo _|.mp _|.wG _|.jH .. => true
 |.fn _ first cap=>(first++cap).all fun
  |.v _|.aA .. |.mp _=>true
  |_=>false
 |_=>false
def Bx.alive:Bx->Bool
 |.dead|.free=>false
 |_=>true
def Bx.there:Bx->Bool
 |.free=>false
 |_=>true
def ku:List Nat->Bool
 |[]=>true
 |a::l => !(l.contains a)&&ku l
def Bx.simple:Bx->Bool
 |.cells cs=>cs.all AV.simple
 |_=>true
def AV.qp:AV->Bool
 |.aA .. |.bo _|.mp _|.wG _=>true
 |.fn f first cap=>(AV.fn f first cap).simple
 |_=>false
def kv(c:CT)(a:AV)(ad:List (Option Nat)):Option (AV×List (Option Nat)):=
 match a with
 |.own t b n al=>match decide (ad[t]?=some (some b))with
  |true=>some (.jH n al,ad.set t .none)
  |false=>some (.v (.sl n al),ad)
 |.v p=>match c with
  |.sl n=>match p with
   |.nil=>some (.jH n [],ad)
   |p=>some (.v p,ad)
  |_=>some (.v p,ad)
 |a=>match a.qp with
  |true=>some (a,ad)
  |false=>.none
def cellsIn:List CT->List AV->List (Option Nat)->Option (List AV×List (Option Nat))
 |_,[],ad=>some ([],ad)
 |c,a::d,ad=>match kv (c.headD .other) a ad with
  |some (b,ad)=>match cellsIn c.tail d ad with
   |some (e,ad)=>some (b::e,ad)
   |.none=>.none
  |.none=>.none
def AV.view:AV->AV
 |.jH n al=>.v (.sl n al)
 |a=>a
section
variable (P:Program)
def cellsOf(t:TypeId)(a:AV)(ad:List (Option Nat)):Option (List AV×List (Option Nat)):=cellsIn (jQ P t) a.cells ad
def varOf(t:TypeId)(cs:List AV)(off:Nat):Option AV:=
 match cZ P t,ck P t with
 |some true,some n=>if off+n<=cs.length then(rP (((cs.drop off).take n).map AV.view)).map .agg else .none
 |some false,some 1=>(cs[off]?).map AV.view
 |_,_=>.none
def Dt(t:TypeId)(cs:List AV)(off:Nat)(a:AV)(ad:List (Option Nat)):Option (List AV×List (Option Nat)):=
 match ck P t,cellsOf P t a ad with
 |some n,some (xs,ad)=>if xs.length=n&&off+n<=cs.length then some (putAt cs off xs,ad)else .none
 |_,_=>.none
def setRow(al:List (List PV))(i j:Nat)(ps:List PV):List (List PV):=al.modify i fun r=>putAt r j ps
def lz:PV->PV->Bool
 |.int _ a,.int _ b=>a==b
 |.str a,.str b=>a==b
 |_,_=>false
def cA:List (PV×AV)->PV->Option AV
 |[],_=>.none
 |e::a,k=>if lz k e.1 then some e.2 else cA a k
def cn:List (PV×AV)->PV->AV->List (PV×AV)
 |[],k,a=>[(k,a)]
 |e::b,k,a=>if lz k e.1 then(k,a)::b else e::cn b k a
def kx:List (PV×AV)->PV->List (PV×AV)
 |[],_=>[]
 |e::a,k=>if lz k e.1 then a else e::kx a k
def km(t:TypeId)(p:PV):Bool:=
 match P.underlying t,p with
 |some (.int k),.int a _=>decide (k=a)
 |some .string,.str _=>true
 |_,_=>false
def sH(t:TypeId)(a:AV)(ad:List (Option Nat)):Option (AV×List (Option Nat)):=
 match a with
 |.agg ps=>some (.agg (kt (jQ P t) ps),ad)
 |a=>match a with
  |.own .. |.v _=>kv ((jQ P t).headD .other) a ad
  |_=>.none
def uc(t:Option TypeId)(own:Bool)(f:Nat->Nat)(a:AV)(ad:List (Option Nat))(k:Nat):Option (AV×List (Option Nat)×Nat):=
 match own with
 |true=>match a with
  |.own tk b n al=>match decide (ad[tk]?=some (some b))with
   |true=>some (.own k 0 n al,ad.set tk .none,k+1)
   |false=>.none
  |.v .nil=>match t.map (jQ P)with
   |some [.sl n]=>some (.own k 0 n [],ad,k+1)
   |_=>.none
  |_=>.none
 |false=>match a with
  |.own _ _ n al=>some (.v (.sl n al),ad,k)
  |a=>match a.simple with
   |true=>match t with
    |some t=>some (yb P t (a.dq f),ad,k)
    |.none=>some (a.dq f,ad,k)
   |false=>.none
def hO(f:Nat->Nat)(cons:List Nat):List TypeId->Nat->List AV->List (Option Nat)->Nat->Option (List AV×List (Option Nat)×Nat)
 |_,_,[],ad,k=>some ([],ad,k)
 |c,i,a::d,ad,k=>match uc P c.head? (cons.contains i) f a ad k with
  |some (b,ad,k)=>match hO f cons c.tail (i+1) d ad k with
   |some (e,ad,k)=>some (b::e,ad,k)
   |.none=>.none
  |.none=>.none
def ir(bA:Bool)(f:Nat->Nat)(n:Nat):List AV->Nat->Option (List AV×List (Option Nat))
 |[],_=>some ([],[])
 |a::c,k=>
  match a with
  |.own j 0 m al=>
   if bA then if j=k then(ir bA f n c (k+1)).map fun(b,t)=>(.own (n+k) 0 m al::b,some 0::t)else .none
   else(ir bA f n c k).map fun(b,t)=>(.v (.sl m al)::b,t)
  |.own .. => .none
  |a=>match a.simple with
   |true=>(ir bA f n c k).map fun(b,t)=>(a.dq f::b,t)
   |false=>.none
def cm(nb:Nat):List Bx->List Bx->Option (List Bx)
 |[],heap=>some heap
 |x::xs,heap=>match heap[nb]? with
  |some .free=>cm (nb+1) xs (heap.set nb x)
  |_=>.none
def gT(f:Nat->Nat):List Nat->List Bx->List Bx->List Bx
 |b::a,x::xs,heap=>gT f a xs (heap.set b (x.dq f))
 |_,_,heap=>heap
def Du:List AV->AV
 |[a]=>a
 |l=>.xg l
def Dv(f:AV):Option (FuncId×List AV×List AV):=
 match f with
 |.fn (.func f) first cap=>some (f,first,cap)
 |_=>.none
def ud(f:FuncId):Bool:=
 match P.funcs[f]? with
 |some fn=>fn.body.isSome && !(fn.name == "runtime.NumGoroutine")
 |.none=>false
def abD(f:FuncId):Bool:=
 match P.funcs[f]? with
 |some fn => !(fn.name == "runtime.NumGoroutine")
 |.none=>false
def N5(f:FuncId):List TypeId:=
 match P.funcs[f]? with
 |some fn=>fn.params.toList
 |.none=>[]
def N6(cons:List Nat)(g:FuncId):List TypeId:=match cons.contains 99 with
 |true=>[]
 |false=>N5 P g
def freeze:List AV->List Bx->Option (List AV×List Bx)
 |[],heap=>some ([],heap)
 |.bo b::c,heap=>match heap[b]? with
  |some (.bc n al)|some (.tZ n al)=>(freeze c (heap.set b (.tZ n al))).map fun(d,h)=>(.v (.sl n al)::d,h)
  |_=>.none
 |a::c,heap=>(freeze c heap).map fun(d,h)=>(a::d,h)
def Kz(an:An)(args:List AV)(heap:List Bx):Option (List AV×List Bx):=
 match an.tZ with
 |true=>freeze args heap
 |false=>some (args,heap)
def Dw(nb:Nat)(an:An)(g:FuncId)(args:List AV)(r:List AV)(c:List Bx)(ad:List (Option Nat))(heap:List Bx):Option ly:=
 let a:=match an.fz with
  |true=>[]
  |false=>reach heap 100 (args.flatMap AV.refs) []
 let d:=a.map fun b=>heap.getD b .dead
 let f:=fun b=>a.idxOf b
 let back:=fun j=>match decide (j<a.length)with
  |true=>a.getD j 0
  |false=>nb+(j-a.length)
 match abD P g&&ku a&&(d.flatMap Bx.refs).all a.contains&&d.all Bx.simple&&d.all Bx.alive&&c.all Bx.simple&&c.all Bx.there&&decide (a.length<=c.length)&&(args.flatMap AV.refs).all a.contains&&(c.flatMap Bx.refs).all (decide <| · < c.length)&&(r.flatMap AV.refs).all (decide <| · < c.length),
  hO P f an.cons (N6 P an.cons g) 0 args ad 0 with
 |true,some (e,gx,_)=>
  match ir an.bA back gx.length r 0,cm nb ((c.drop a.length).map (Bx.dq back)) (gT back a c heap)with
  |some (k,new),some i=>some {v:=Du k,ad:=gx++new,heap:=i,calls:=[{f:=g,args:=e,heap:=d.map (Bx.dq f),r,sG:=c}]}
  |_,_=>.none
 |_,_=>.none
def qq(nb:Nat)(an:An)(g:FuncId)(b:List AV)(r:List AV)(a:List Bx)(ad:List (Option Nat))(c:List Bx):Option ly:=
 match Kz an b c with
 |some (args,heap)=>Dw P nb an g args r a ad heap
 |.none=>.none
def yc(nb:Nat)(e:Bool)(s:AV)(n c:Nat)(a:List (List PV))(ad:List (Option Nat))(heap:List Bx):Option ly:=
 match s with
 |.v .nil=>match e with
  |true=>(cm nb [.bc n a] heap).map fun h=>{v:=.bo nb,ad,heap:=h,du:=[a.length*c<=2^47]}
  |false=>some {v:=.own ad.length 0 n a,ad:=ad++[some 0],heap,du:=[a.length*c<=2^47]}
 |.own t d m al=>match decide (m=n),decide (ad[t]?=some (some d))with
  |true,true=>some {v:=.own t (d+1) n (al++a),ad:=ad.set t (some (d+1)),heap,du:=[(al++a).length*c<=2^47]}
  |_,_=>.none
 |.bo b=>match heap[b]? with
  |some (.bc m al)=>match decide (m=n)with
   |true=>(cm nb [.bc n (al++a)] (heap.set b .dead)).map fun h=>{v:=.bo nb,ad,heap:=h,du:=[(al++a).length*c<=2^47]}
   |false=>.none
  |_=>.none
 |_=>.none
def core(nb:Nat)(o:Op)(an:An)(k:Kd)(ρ:Operand->AV)(ad:List (Option Nat))(heap:List Bx):Option ly:=
 match o with
 |.alloc t=>match(Ds P t).bind (fun z=>cellsIn (jQ P t) z ad),ck P t with
  |some (cs,br),some n=>match decide (cs.length=n)with
   |true=>(cm nb [.cells cs] heap).map fun h=>{v:=.aA nb 0,ad:=br,heap:=h}
   |false=>.none
  |_,_=>.none
 |.box t x=>match cellsOf P t (ρ x) ad,ck P t with
  |some (cs,br),some n=>match decide (cs.length=n)with
   |true=>(cm nb [.cells cs] heap).map fun h=>{v:=.aA nb 0,ad:=br,heap:=h}
   |false=>.none
  |_,_=>.none
 |.makeSlice t l c=>match P.underlying t with
  |some (.slice e)=>match ck P e,ya P e,(qo P e).bind (rowOf P e),ρ l,ρ c with
   |some n,some w,some z,.v (.int _ m),.v (.int _ K)=>match decide (z.length=n/\0<n/\0<w)with
    |true=>(cm nb [.bc n (List.replicate m.toNat z)] heap).map fun h=>{v:=.bo nb,ad,heap:=h,du:=[K=m,0<=m,m*w<=2^47]}
    |false=>.none
   |_,_,_,_,_=>.none
  |_=>.none
 |.makeMap t .none=>match P.underlying t with
  |some (.map _ _)=>(cm nb [.map t []] heap).map fun h=>{v:=.mp nb,ad,heap:=h}
  |_=>.none
 |.lookup t m i ok=>match ρ m,(ρ i).pv,P.underlying t,k with
  |.mp b,some key,some (.map u D),.look o=>match heap[b]?,qo P D,km P u key with
   |some (.map d q),some z,true=>match decide (d=t)with
    |true=>
     let y (a:AV) (B:Bool) (ad:List (Option Nat)) (heap:List Bx):Option ly:=some {v:=match ok with|true=>.xg [a,.v (.bool B)]|false=>a,ad,heap,du:=[cA q key=o]}
     match o with
     |some (.jH n al)=>match an.take with
      |true=>y (.own ad.length 0 n al) true (ad++[some 0]) (heap.set b (.map t (cn q key (.v (.sl n al)))))
      |false=>y (.v (.sl n al)) true ad heap
     |some a=>match an.take with
      |true=>.none
      |false=>y a true ad heap
     |.none=>y z false ad heap
    |false=>.none
   |_,_,_=>.none
  |_,_,_,_=>.none
 |.mapUpdate t m i x=>match ρ m,(ρ i).pv,P.underlying t with
  |.mp b,some key,some (.map u D)=>match heap[b]?,sH P D (ρ x) ad,km P u key with
   |some (.map d q),some (a,br),true=>match decide (d=t)with
    |true=>some {v:=.none,ad:=br,heap:=heap.set b (.map t (cn q key a))}
    |false=>.none
   |_,_,_=>.none
  |_,_,_=>.none
 |.call {callee:=.builtin .delete,args,argTypes}=>match args.toList.map ρ,argTypes.toList with
  |[.mp b,i],t::_=>match heap[b]?,i.pv,P.underlying t with
   |some (.map d q),some key,some (.map u _)=>match decide (d=t),km P u key with
    |true,true=>some {v:=.none,ad,heap:=heap.set b (.map t (kx q key))}
    |_,_=>.none
   |_,_,_=>.none
  |_,_=>.none
 |.store t a x=>match ρ a with
  |.aA b off=>match heap[b]? with
   |some (.cells cs)=>(Dt P t cs off (ρ x) ad).map fun(cs,ad)=>{v:=.none,ad,heap:=heap.set b (.cells cs)}
   |_=>.none
  |.iS b s n l i j=>match heap[b]?,k with
   |some (.cells cs),.put J=>match cZ P t,ck P t,ρ x with
    |some false,some 1,.v p=>match decide (s+l*n<=cs.length),p with
     |true,.nil=>.none
     |true,p=>some {v:=.none,ad,heap:=heap.set b (.cells J),du:=[j<n,putAt cs (s+i.toNat*n+j) [.v p]=J]}
     |_,_=>.none
    |_,_,_=>.none
   |_,_=>.none
  |.fK b n i j=>match heap[b]?,ck P t,rowOf P t (ρ x)with
   |some (.bc m al),some c,some ps=>match decide (m=n/\ps.length=c)with
    |true=>some {v:=.none,ad,heap:=heap.set b (.bc n (setRow al i.toNat j ps)),du:=[j+c<=n]}
    |false=>.none
   |_,_,_=>.none
  |_=>.none
 |.load t a=>match an.fz,ρ a with
  |false,.aA b off=>match heap[b]? with
   |some (.cells cs)=>match an.take,cs[off]?,cZ P t with
    |true,some (.jH n al),some false=>some {v:=.own ad.length 0 n al,ad:=ad++[some 0],heap:=heap.set b (.cells (cs.set off (.v (.sl n al))))}
    |_,_,_=>(varOf P t cs off).map fun v=>{v,ad,heap}
   |_=>.none
  |false,.iS b s n l i j=>match heap[b]?,cZ P t,ck P t,k with
   |some (.cells cs),some false,some 1,.cell (.v p)=>match decide (s+l*n<=cs.length)with
    |true=>some {v:=.v p,ad,heap,du:=[cs[s+i.toNat*n+j]?=some (.v p)]}
    |false=>.none
   |_,_,_,_=>.none
  |false,.fK b n i j=>match heap[b]?,cZ P t,ck P t,k with
   |some (.bc m al),some true,some c,.row r|some (.tZ m al),some true,some c,.row r=>match decide (m=n/\j+c<=n/\r.length=n)with
    |true=>some {v:=.agg ((r.drop j).take c),ad,heap,du:=[al[i.toNat]?=some r]}
    |false=>.none
   |some (.bc m al),some false,some 1,.cell (.v p)|some (.tZ m al),some false,some 1,.cell (.v p)=>match decide (m=n)with
    |true=>some {v:=.v p,ad,heap,du:=[(al[i.toNat]?).bind (·[j]?)=some p]}
    |false=>.none
   |_,_,_,_=>.none
  |_,_=>(plain P (.load t a) an k ρ).map fun(v,l)=>{v,ad,heap,du:=l}
 |.indexAddr t x G=>match ρ x with
  |.bo b=>match heap[b]?,ρ G with
   |some (.bc n al),.v (.int _ i)|some (.tZ n al),.v (.int _ i)=>match P.underlying t with
    |some (.slice e)=>match decide (ck P e=some n)with
     |true=>some {v:=.fK b n i 0,ad,heap,du:=[0<=i/\i<al.length]}
     |false=>.none
    |_=>.none
   |_,_=>.none
  |.fK b n i j=>match ρ G,P.underlying t with
   |.v (.int _ m),some (.array len e)=>match ck P e with
    |some c=>some {v:=.fK b n i (j+m.toNat*c),ad,heap,du:=[0<=m/\m<len]}
    |.none=>.none
   |_,_=>.none
  |_=>(plain P (.indexAddr t x G) an k ρ).map fun(v,l)=>{v,ad,heap,du:=l}
 |.slice t x lo H I=>match ρ x with
  |.bo b=>match heap[b]?,lo,H.map ρ,I with
   |some (.bc n al),.none,some (.v (.int _ h)),.none=>match P.underlying t with
    |some (.slice e)=>match ck P e with
     |some _=>(cm nb [.bc n (al.take h.toNat)] (heap.set b .dead)).map fun E=>{v:=.bo nb,ad,heap:=E,du:=[0<=h/\h<=al.length]}
     |.none=>.none
    |_=>.none
   |_,_,_,_=>.none
  |_=>(plain P (.slice t x lo H I) an k ρ).map fun(v,l)=>{v,ad,heap,du:=l}
 |.buildSlice t len aV=>match an.vec,an.bA,plain P (.buildSlice t len aV) an k ρ with
  |true,_,some (.v (.sl n al),l)=>(cm nb [.bc n al] heap).map fun h=>{v:=.bo nb,ad,heap:=h,du:=l}
  |false,true,some (.v (.sl n al),l)=>some {v:=.own ad.length 0 n al,ad:=ad++[some 0],heap,du:=l}
  |false,false,some (v,l)=>some {v,ad,heap,du:=l}
  |_,_,_=>.none
 |.call {callee:=.builtin .append,args,argTypes}=>match args.toList,argTypes.toList with
  |[s,x],[t,d]=>match P.underlying t,P.underlying d with
   |some (.slice e),some (.slice _)=>match ck P e,ya P e,(qo P e).bind (rowOf P e)with
    |some n,some w,some z=>match decide (z.length=n/\0<n/\0<w),(ρ x).ua n with
     |true,some M=>yc nb an.vec (ρ s) n w M ad heap
     |_,_=>.none
    |_,_,_=>.none
   |_,_=>.none
  |_,_=>.none
 |.call {callee:=.builtin .len,args,argTypes}=>match args.toList.map ρ,argTypes.toList with
  |[.bo b],[t]=>match heap[b]?,P.underlying t with
   |some (.bc _ al),some (.slice _)|some (.tZ _ al),some (.slice _)=>some {v:=.v (.int .i64 al.length),ad,heap}
   |_,_=>.none
  |_,_=>(plain P (.call {callee:=.builtin .len,args,argTypes}) an k ρ).map fun(v,l)=>{v,ad,heap,du:=l}
 |.call {callee:=.value f,args, ..}=>match Dv (ρ f),k with
  |some (g,first,cap),.call r E=>qq P nb an g (first++args.toList.map ρ++cap) r E ad heap
  |_,_=>.none
 |o=>(plain P o an k ρ).map fun(v,l)=>{v,ad,heap,du:=l}
def S1(nb:Nat)(o:Op)(an:An)(k:Kd)(ρ:Operand->AV)(ad:List (Option Nat))(heap:List Bx):Option ly:=
 let c:=cL o an nb
 match core P nb o an k ρ (if c.tk then ad else[]) (c.view heap)with
 |some r=>some {r with ad:=if c.tk then r.ad else ad,heap:=c.merge heap r.heap}
 |.none=>.none
def St.put(s:St)(d:Option Tmp)(v:AV):List AV:=
 match d with
 |some d=>s.tmps.set d v
 |.none=>s.tmps
structure Step where
 st:St
 du:List Prop:=[]
 calls:List FB:=[]
def AV.strip:AV->AV
 |.opt _ _ _ a=>a
 |a=>a
def AV.conds:AV->List (Bool×Nat×Bool)
 |.opt c j w _=>[(c,j,w)]
 |_=>[]
def guardOf(ops:List Oper)(s:St)(j:Nat)(want:Bool):Option Bool:=
 match(ops[j]?).bind (·.dst)with
 |some t=>match s.tmps.getD t .none,want with
  |.v (.bool b),true=>some b
  |.v (.bool b),false=>some (!b)
  |.opt c _ _ (.v (.bool b)),true=>some (c&&b)
  |.opt c _ _ (.v (.bool b)),false=>some (c && !b)
  |_,_=>.none
 |.none=>.none
def iC(tmps:List AV)(o:Op):List ((Bool×Nat×Bool)×Option (Bool×Bool)):=
 match o with
 |.pick c a b=>
  (ff tmps c).conds.map (fun D=>(D,.none)) ++
  match(ff tmps c).strip with
  |.v (.bool B)=>(ff tmps a).conds.map (fun D=>(D,some (true,B)))++(ff tmps b).conds.map (fun D=>(D,some (false,!B)))
  |_=>[]
 |o=>o.operands.toList.flatMap fun x=>(ff tmps x).conds.map (fun D=>(D,.none))
inductive Gd where
 |yes|no
 |spec
 deriving Inhabited
structure En where
 g:Gd:=.yes
 k:Kd:=.d
 deriving Inhabited
def AV.IA:AV->Bool
 |.opt .. => false
 |_=>true
def qf(nb:Nat)(o:Oper)(an:An)(k:Kd)(G:Option (Bool×Nat×Bool))(s:St):Option Step:=
 match S1 P nb o.op an k (fun x=>(ff s.tmps x).strip) s.ad s.heap with
 |some r=>match G with
  |.none=>match r.v.IA with
   |true=>some {st:={tmps:=s.put o.dst r.v,ad:=r.ad,heap:=r.heap},du:=r.du,calls:=r.calls}
   |false=>.none
  |some (g,j,w)=>match(cL o.op an nb).hw||(cL o.op an nb).tk || !r.calls.isEmpty || !r.du.isEmpty with
   |true=>.none
   |false=>some {st:={tmps:=s.put o.dst (.opt g j w r.v),ad:=r.ad,heap:=r.heap}}
 |.none=>.none
def jl(o:Oper)(s:St):Step:={st:={s with tmps:=s.put o.dst (match o.guard with|some (j,w)=>.opt false j w .none|.none=>.none)}}
end
end Go.Ac
end
section
namespace Go.Ac
open Go
set_option maxRecDepth 100000
def jc(ops:List Oper)(o:Oper):List Tmp:=
 (o.op.operands.toList.filterMap fun|.tmp t=>some t|_=>.none) ++
 (match o.guard with
  |some (g,_)=>((ops[g]?).bind (·.dst)).toList
  |.none=>[])
def IB(ops:List Oper)(x y:Oper):Bool:=
 (match x.dst with
  |some d => !(jc ops y).contains d&&y.dst !=some d
  |.none=>true) &&
 (match y.dst with
  |some d => !(jc ops x).contains d
  |.none=>true)
def meets(a b:Option (List Nat)):Bool:=
 match a,b with
 |some l,some m=>l.any m.contains
 |_,_=>true
def nN.fits(a b:nN):Bool :=!((a.hw&&(b.hr||b.hw)||b.hw&&a.hr)&&meets a.bx b.bx) && !(a.tk&&b.tk)
def jR:List Oper->List Nat->List Nat
 |[],a=>a
 |o::os,a=>jR os (a++[o.after.toList.foldl (fun s e=>if Region.binds .any e then s ||| 2^e.on ||| a.getD e.on 0 else s) 0])
def KA(ops:List Oper)(an:Nat->An)(nb:Nat->Nat)(j i:Nat):Bool:=
 match ops[j]?,ops[i]? with
 |some x,some y=>IB ops x y&&(cL x.op (an j) (nb j)).fits (cL y.op (an i) (nb i))
 |_,_=>false
def KB(ops:List Oper)(an:Nat->An)(nb:Nat->Nat)(ms:List Nat)(j i:Nat):Bool:=(ms.getD i 0).testBit j||KA ops an nb j i
def IC(ops:List Oper):Bool:=
 Region.noSelect ops.toArray&&(List.range ops.length).all fun i=>
  match ops[i]? with
  |some o=>o.after.toList.all fun e => !(Region.binds .any e)||decide (e.on<i)
  |.none=>false
def ID(ops:List Oper)(an:Nat->An)(nb:Nat->Nat)(ms:List Nat):Bool:=
 (List.range ops.length).all fun i=>(List.range i).all fun j=>KB ops an nb ms j i
def iF(ops:List Oper)(a:List Nat)(i:Nat):Bool:=
 match ops[i]? with
 |some o=>o.after.toList.all fun e => !(Region.binds .any e) || !a.contains e.on
 |.none=>false
def Wg(ops:List Oper)(an:Nat->An)(nb:Nat->Nat)(ms:List Nat)(a:List Nat):Option Nat:=
 a.find? fun i=>iF ops a i&&a.all fun j=>j==i||(ms.getD j 0).testBit i||KA ops an nb j i
def oh:List CT->(List PV->Prop)->Prop
 |[],k=>k []
 |.bool::l,k=>∃b:Bool,oh l fun ps=>k (.bool b::ps)
 |.int a::l,k=>∃n:Int,oh l fun ps=>k (.int a n::ps)
 |.str::l,k=>∃s:List UInt8,oh l fun ps=>k (.str s::ps)
 |.sl n::l,k=>∃al:List (List PV),oh l fun ps=>k (.sl n al::ps)
 |.ng a::l,k=>∃o:Option (Nat×Nat),oh l fun ps=>k (.ng a o::ps)
 |_::l,k=>∃p:PV,oh l fun ps=>k (p::ps)
section
variable (P:Program)
def qs(an:An)(a:Nat):List TypeId->Nat->List Bx->(List AV->List Bx->Prop)->Prop
 |[],_,bx,k=>k [] bx
 |t::b,j,bx,k=>match P.underlying t,jQ P t with
  |some (.struct _),c|some (.array _ _),c=>oh c fun ps=>qs an a b j bx fun r bx=>k (.agg ps::r) bx
  |some (.interface _),_=>∃o:Option (TypeId×List PV),qs an a b j bx fun r bx=>k (.wG o::r) bx
  |some (.slice _),[.sl n]=>match an.vec,an.bA with
   |true,_=>∃al:List (List PV),qs an a b j (bx++[.bc n al]) fun r ue=>k (.bo (a+bx.length)::r) ue
   |_,true=>∃al:List (List PV),qs an a b (j+1) bx fun r bx=>k (.own j 0 n al::r) bx
   |_,_=>∃al:List (List PV),qs an a b j bx fun r bx=>k (.v (.sl n al)::r) bx
  |some (.map _ _),_=>∃d:List (PV×AV),qs an a b j (bx++[.map t d]) fun r ue=>k (.mp (a+bx.length)::r) ue
  |some (.func _ _ _),_=>qs an a b j (bx++[.cells [.mp 0]]) fun r ue=>k (.fn (.func an.fn) [] [.aA (a+bx.length) 0]::r) ue
  |_,c=>oh c fun ps=>match ps with
   |[p]=>qs an a b j bx fun r bx=>k (.v p::r) bx
   |_=>False
def Dx:AV->(AV->Prop)->Prop
 |.v (.bool _),k=>∃b:Bool,k (.v (.bool b))
 |.v (.int c _),k=>∃n:Int,k (.v (.int c n))
 |.v (.str _),k=>∃s:List UInt8,k (.v (.str s))
 |.v (.sl n _),k=>∃al:List (List PV),k (.v (.sl n al))
 |.v (.ng c _),k=>∃o:Option (Nat×Nat),k (.v (.ng c o))
 |.v _,k=>∃p:PV,k (.v p)
 |.jH n _,k=>∃al:List (List PV),k (.jH n al)
 |.wG _,k=>∃o,k (.wG o)
 |a,k=>k a
def oW(c:Bool)(idx:List Nat):Nat->List AV->(List AV->Prop)->Prop
 |_,[],k=>k []
 |i,a::l,k=>match c||idx.contains i with
  |true=>Dx a fun b=>oW c idx (i+1) l fun m=>k (b::m)
  |false=>match idx.contains (i+1000)with
   |true=>Dx a.view fun b=>oW c idx (i+1) l fun m=>k (b::m)
   |false=>oW c idx (i+1) l fun m=>k (a::m)
def Wh(idx:List Nat):Bx->(Bx->Prop)->Prop
 |.cells cs,k=>oW idx.isEmpty idx 0 cs fun c=>k (.cells c)
 |.bc n _,k=>match idx with
  |[]=>∃al:List (List PV),k (.bc n al)
  |_=>k .dead
 |.map t _,k=>∃a:List (PV×AV),k (.map t a)
 |b,k=>k b
def N7(a:List (Nat×List Nat)):Nat->List Bx->(List Bx->Prop)->Prop
 |_,[],k=>k []
 |i,b::l,k=>match a.lookup i with
  |some idx=>Wh idx b fun x=>N7 a (i+1) l fun m=>k (x::m)
  |.none=>N7 a (i+1) l fun m=>k (b::m)
def N8(t:TypeId)(k:AV->Prop):Prop:=
 match cZ P t,jQ P t with
 |some true,a=>oh a fun ps=>k (.agg ps)
 |_,[.sl n]=>∃al:List (List PV),k (.jH n al)
 |_,a=>oh a fun ps=>match ps with
  |[p]=>k (.v p)
  |_=>False
def Wi(o:Op)(an:An)(m:List (Nat×List Nat))(ρ:Operand->AV)(heap:List Bx)(k:Kd->Prop):Prop:=
 match o with
 |.load t a=>match ρ a,cZ P t with
  |.iS ..,_=>oh (jQ P t) fun ps=>match ps with|[p]=>k (.cell (.v p))|_=>False
  |.fK ..,some true=>oh (jQ P t) fun ps=>k (.row ps)
  |.fK ..,_=>oh (jQ P t) fun ps=>match ps with|[p]=>k (.cell (.v p))|_=>False
  |_,_=>k .d
 |.store _ a _=>match ρ a with
  |.iS b s n l _ _=>match heap[b]? with
   |some (.cells cs)=>oW false ((List.range (l*n)).map (s + ·)) 0 cs fun j=>k (.put j)
   |_=>False
  |_=>k .d
 |.indexAddr t x _=>match P.underlying t,ρ x with
  |some (.slice _),.bo _=>k .d
  |some (.slice e),_=>oh (jQ P e) fun ps=>k (.row ps)
  |_,_=>k .d
 |.index t _ _=>match P.underlying t with
  |some (.array _ e)=>oh (jQ P e) fun ps=>match ps with|[p]=>k (.cell (.v p))|_=>False
  |_=>k .d
 |.lookup t _ _ _=>match P.underlying t with
  |some (.map _ e)=>k (.look .none)\/N8 P e fun a=>k (.look (some a))
  |_=>False
 |.typeAssert _ _ t ok=>match ok with
  |true=>k (.S9 .none)\/oh (jQ P t) fun ps=>k (.S9 (some ps))
  |false=>oh (jQ P t) fun ps=>k (.S9 (some ps))
 |.call {callee:=.value f,args, ..}=>match Dv (ρ f)with
  |some (g,first,cap)=>
   let c:=first++args.toList.map ρ++cap
   let c:=match an.tZ with
    |true=>c.filter fun(a:AV)=>match a with|.bo _=>false|_=>true
    |false=>c
   let d:=match an.fz with
    |true=>[]
    |false=>reach heap 100 (c.flatMap AV.refs) []
   qs P an d.length ((match P.funcs[g]? with|some fn=>fn.resultTypes.toList|.none=>[])) 0 [] fun r bx=>
    N7 m 0 (d.map fun b=>(heap.getD b .dead).dq fun b=>d.idxOf b) fun i=>k (.call r (i++bx))
  |.none=>False
 |_=>k .d
variable (E:FuncId->List AV->List Bx->List AV->List Bx->Prop)
def ay(b:Bool)(x y:Prop):Prop:=
 match b with
 |true=>x
 |false=>y
def IE:List Prop->Prop->Prop
 |[],k=>k
 |p::l,k=>p/\IE l k
def ye:List FB->Prop->Prop
 |[],k=>k
 |c::l,k=>E c.f c.args c.heap c.r c.sG/\ye l k
abbrev Env:=List (Nat×Bool)
def U3(ops:List Oper):Nat->Option (Nat×Bool)->Nat×Bool->Bool
 |0,_,_=>false
 |_,.none,_=>false
 |n+1,some g,d=>g==d||U3 ops n ((ops[g.1]?).bind (·.guard)) d
def covered(ops:List Oper)(a:Env)(o:Oper)(D:Bool×Nat×Bool)(x:Option (Bool×Bool)):Bool:=
 a.contains (D.2.1,D.2.2)||U3 ops 20 o.guard (D.2.1,D.2.2) ||
 match o.op,x with
 |.pick (.tmp c) _ _,some (b,_)=>match ops[D.2.1]? with
  |some x=>x.dst==some c&&D.2.2==b
  |.none=>false
 |_,_=>false
def oi(ops:List Oper)(a:Env)(o:Oper):List ((Bool×Nat×Bool)×Option (Bool×Bool))->Prop->Prop
 |[],k=>k
 |(D,x)::l,k=>match covered ops a o D x with
  |true=>oi ops a o l k
  |false=>(match x with|.none=>D.1=true|some B=>B.2=true->D.1=true)/\oi ops a o l k
structure Cut where
 bl:List Nat:=[]
 dw:List (Nat×Nat):=[]
 owns:List Nat:=[]
 iu:List (Nat×Nat):=[]
 vp:List (Nat×Nat):=[]
structure sA where
 an:Nat->Nat->An:=fun _ _=>{}
 mod:Nat->Nat->List (Nat×List Nat):=fun _ _=>[]
 rf:Bool:=false
 join:Nat->Option Cut:=fun _=>.none
def Mz(nb:Nat->Nat)(ops:List Oper)(A:sA)(id:Nat)(i:Nat)(o:Oper)(g:Option (Bool×Nat×Bool))(s:St)(a:Env)(k:St->Env->Prop):Prop:=
 oi ops a o (iC s.tmps o.op)
  (Wi P o.op (A.an id i) (A.mod id i) (fun x=>(ff s.tmps x).strip) s.heap fun b=>
   match qf P (nb i) o (A.an id i) b g s with
   |some x=>IE x.du (ye E x.calls (k x.st a))
   |.none=>False)
def vq(ops:List Oper)(a:Env)(c:Operand):Option Bool:=
 match c with
 |.tmp t=>match a.find? fun x=>((ops[x.1]?).bind (·.dst))==some t with
  |some x=>some x.2
  |.none=>.none
 |_=>.none
def isB:AV->Bool
 |.v (.bool _)=>true
 |_=>false
def U4(t:Option Tmp)(tmps:List AV):Bool:=
 match t with
 |some t=>match tmps.getD t .none with
  |.opt c _ _ a=>match a with
   |.none => !c
   |_=>false
  |_=>false
 |.none=>false
def vr(nb:Nat->Nat)(ops:List Oper)(A:sA)(id:Nat)(i:Nat)(o:Oper)(x:Operand)(t:Bool)(s:St)(a:Env)(k:St->Env->Prop):Prop:=
 oi ops a o ((ff s.tmps x).conds.map fun D=>(D,.none)) (match qf P (nb i) o (A.an id i) (.pk t) .none s with
  |some x=>k x.st a
  |.none=>False)
def yf(nb:Nat->Nat)(ops:List Oper)(A:sA)(id:Nat)(i:Nat)(o:Oper)(s:St)(d:Env)(k:St->Env->Prop):Prop:=
 match o.op with
 |.pick c a b=>
  match vq ops d c with
  |some true=>vr P nb ops A id i o a true s d k
  |some false=>vr P nb ops A id i o b false s d k
  |.none=>match isB (ff s.tmps a).strip&&isB (ff s.tmps b).strip with
   |true=>Mz P E nb ops A id i o .none s d k
   |false=>match ff s.tmps c with
    |.v (.bool B)=>ay B (vr P nb ops A id i o a true s d k) (vr P nb ops A id i o b false s d k)
    |_=>False
 |_=>Mz P E nb ops A id i o .none s d k
def wpOp(nb:Nat->Nat)(ops:List Oper)(A:sA)(id:Nat)(i:Nat)(s:St)(d:Env)(k:St->Env->Prop):Prop:=
 match ops[i]? with
 |.none=>False
 |some o=>
  match o.guard with
  |.none=>yf P E nb ops A id i o s d k
  |some (j,w)=>match d.lookup j with
   |some b=>match b==w with
    |true=>yf P E nb ops A id i o s d k
    |false=>k (jl o s).st d
   |.none=>match(A.an id i).spec with
    |true=>match U4 ((ops[j]?).bind (·.dst)) s.tmps with
     |true=>k (jl o s).st d
     |false=>match guardOf ops s j w with
      |some G=>Mz P E nb ops A id i o (some (G,j,w)) s d k
      |.none=>False
    |false=>match(ops[j]?).bind (·.dst)with
     |some t=>match s.tmps.getD t .none with
      |.v (.bool B)=>match w with
       |true=>ay B (yf P E nb ops A id i o s ((j,true)::d) k) (k (jl o s).st ((j,false)::d))
       |false=>ay B (k (jl o s).st ((j,true)::d)) (yf P E nb ops A id i o s ((j,false)::d) k)
      |.opt c _ _ a=>match a with
       |.none=>match c with
        |false=>k (jl o s).st d
        |true=>False
       |_=>False
      |_=>False
     |.none=>False
def FD(nb:Nat->Nat)(ops:List Oper)(A:sA)(id:Nat):List Nat->St->Env->(St->Prop)->Prop
 |[],s,_,k=>k s
 |i::l,s,a,k=>wpOp P E nb ops A id i s a fun s a=>FD nb ops A id l s a k
def Dy:List Nat->(Nat->Prop)->Prop
 |[],_=>True
 |[i],k=>k i
 |i::l,k=>k i/\Dy l k
def vt(nb:Nat->Nat)(ops:List Oper)(A:sA)(id:Nat)(ms:List Nat):Nat->List Nat->St->Env->(St->Prop)->Prop
 |0,_,_,_,_=>False
 |_,[],s,_,k=>k s
 |n+1,b,s,a,k=>match Wg ops (A.an id) nb ms b with
  |some i=>wpOp P E nb ops A id i s a fun s a=>vt nb ops A id ms n (b.filter (· != i)) s a k
  |.none=>Dy (b.filter (iF ops b)) fun i=>wpOp P E nb ops A id i s a fun s a=>vt nb ops A id ms n (b.filter (· != i)) s a k
def Wj(ops:List Oper):Bool:=
 ku (ops.filterMap (·.dst))&&(List.range ops.length).all fun i=>
  match(ops[i]?).bind (·.guard)with
  |some (j,_)=>decide (j<i)&&(match ops[i]? with|some o=>o.after.toList.any fun e=>Region.binds .any e&&e.on==j|.none=>false)
  |.none=>true
def oX:AV->AV
 |.opt .. => .none
 |a=>a
def slotsOf(an:Nat->An):List Oper->Nat->Nat->List Nat
 |[],_,_=>[]
 |o::os,i,b=>b::slotsOf an os (i+1) (b+N3 P o.op (an i))
def KC(an:Nat->An):List Oper->Nat->Nat
 |[],_=>0
 |o::os,i=>N3 P o.op (an i)+KC an os (i+1)
def KD(ops:List Oper)(A:sA)(id:Nat)(draw:Bool)(s:St)(k:St->Prop):Prop:=
 let a (s:St):Prop:=k {s with tmps:=s.tmps.map oX}
 let sl:=slotsOf P (A.an id) ops 0 s.heap.length
 let nb:=fun i=>sl.getD i 0
 let s:={s with tmps:=s.tmps.map oX,heap:=s.heap++List.replicate (KC P (A.an id) ops 0) .free}
 match Wj ops,draw with
 |false,_=>False
 |true,false=>FD P E nb ops A id (List.range ops.length) s [] a
 |true,true=>match IC ops with
  |false=>False
  |true=>
   let ms:=jR ops []
   match ID ops (A.an id) nb ms with
   |true=>FD P E nb ops A id (List.range ops.length) s [] a
   |false=>vt P E nb ops A id ms (ops.length+1) (List.range ops.length) s [] a
def AV.under(n:Nat)(a:AV):Bool:=a.refs.all (decide <| · < n)
def oj:List (Nat×Nat)->List AV->List (Option Nat)->List AV×List (Option Nat)
 |[],tmps,ad=>(tmps,ad)
 |(i,n)::a,tmps,ad=>match tmps.getD i .none with
  |.v .nil=>oj a (tmps.set i (.own ad.length 0 n [])) (ad++[some 0])
  |_=>oj a tmps ad
def rQ:List (Nat×Nat)->List AV->List Bx->List AV×List Bx
 |[],tmps,heap=>(tmps,heap)
 |(i,n)::a,tmps,heap=>match tmps.getD i .none with
  |.v .nil=>rQ a (tmps.set i (.bo heap.length)) (heap++[.bc n []])
  |_=>rQ a tmps heap
def Dz(tmps:List AV)(ad:List (Option Nat)):List Nat->Option (List Nat)
 |[]=>some []
 |i::a=>match tmps.getD i .none with
  |.own t b _ _=>match decide (ad[t]?=some (some b))with
   |true=>(Dz tmps ad a).map (t :: ·)
   |false=>.none
  |_=>.none
def Cut.slot(c:Cut)(f:Nat->Nat)(i:Nat)(a:AV):AV:=
 match c.bl.contains i with
 |false=>.none
 |true=>
  match a with
  |.own _ _ n al=>match c.owns.idxOf? i with
   |some j=>.own j 0 n al
   |.none=>.v (.sl n al)
  |a=>match a.simple with
   |true=>a.dq f
   |false=>.none
def iv{α β:Type}(f:Nat->α->β):Nat->List α->List β
 |_,[]=>[]
 |i,a::l=>f i a::iv f (i+1) l
def Cut.refs(c:Cut)(tmps:List AV):List Nat:=c.bl.flatMap fun i=>match tmps.getD i .none with
 |.iS .. |.fK .. => []
 |a=>a.refs
def Bx.under(n:Nat)(b:Bx):Bool:=b.refs.all (decide <| · < n)
def ky(l:List (Nat×Nat)):Nat->List Bx->List Bx
 |_,[]=>[]
 |b,.cells cs::h=>.cells (iv (fun i a=>match l.contains (b,i)with|true=>a.view|false=>a) 0 cs)::ky l (b+1) h
 |b,x::h=>x::ky l (b+1) h
def Cut.app(c:Cut)(base:Nat)(s:St):Option St:=
 match oj c.dw s.tmps s.ad with
 |(tmps,ad)=>match rQ c.iu tmps s.heap with
  |(tmps,heap)=>match Dz tmps ad c.owns with
   |some d=>
    let a:=reach heap 100 (c.refs tmps) (List.range base)
    let f:=fun b=>a.idxOf b
    let h:=a.map fun b=>heap.getD b .dead
    match ku d&&(c.refs tmps).all a.contains&&(h.flatMap Bx.refs).all a.contains&&h.all Bx.simple with
    |true=>some {tmps:=iv (c.slot f) 0 tmps,ad:=c.owns.map fun _=>some 0,heap:=ky c.vp 0 (h.map (Bx.dq f))}
    |false=>.none
   |.none=>.none
def mu:Code->Option Nat
 |.region id _ _=>some id
 |.seq a b=>match mu a with
  |some n=>some n
  |.none=>mu b
 |.block _ b|.loop b=>mu b
 |.cond _ a b=>match mu a with
  |some n=>some n
  |.none=>mu b
 |_=>.none
def DA(s:St):ResultVar->Option AV
 |.tmp t=>some (s.tmps.getD t .none)
 |.cell a t=>match s.tmps.getD a .none with
  |.aA b off=>match s.heap[b]? with
   |some (.cells cs)=>varOf P t cs off
   |_=>.none
  |_=>.none
def uf(base:Nat)(b:Nat)(heap:List Bx)(bx:List Bx):Option (Nat×List Bx×List Bx):=
 match heap[b]? with
 |some x=>match x.simple&&x.under base with
  |true=>some (base+bx.length,heap.set b .dead,bx++[x])
  |false=>.none
 |.none=>.none
def kT(base:Nat):List AV->List Bx->List Bx->Option (List AV×List Bx×List Bx)
 |[],heap,bx=>some ([],heap,bx)
 |.aA b off::l,heap,bx=>match decide (b<base)with
  |true=>(kT base l heap bx).map fun(m,r)=>(.aA b off::m,r)
  |false=>match uf base b heap bx with
   |some (b',heap,bx)=>(kT base l heap bx).map fun(m,r)=>(.aA b' off::m,r)
   |.none=>.none
 |a::l,heap,bx=>match a.under base with
  |true=>(kT base l heap bx).map fun(m,r)=>(a::m,r)
  |false=>.none
def gy(a:Bool):List TypeId->Option Nat
 |t::_=>match a,yb P t (.v .nil)with
  |true,.v (.sl n _)=>some n
  |_,_=>.none
 |[]=>.none
def ko(c:Bool)(base:Nat):List TypeId->List AV->List (Option Nat)->List Bx->List Bx->Nat->Option (List AV×List Bx×List Bx)
 |_,[],_,heap,bx,_=>some ([],heap,bx)
 |d,a::e,ad,heap,bx,k=>
  let norm (a:AV):AV:=match d with
   |t::_=>yb P t a
   |[]=>a
  match a with
  |.v .nil=>match gy P c d with
   |some n=>(ko c base d.tail e ad heap bx (k+1)).map fun(l,h)=>(.own k 0 n []::l,h)
   |.none=>(ko c base d.tail e ad heap bx k).map fun(l,h)=>(norm (.v .nil)::l,h)
  |.own t f n al=>match decide (ad[t]?=some (some f))with
   |true=>(ko c base d.tail e (ad.set t .none) heap bx (k+1)).map fun(l,h)=>(.own k 0 n al::l,h)
   |false=>(ko c base d.tail e ad heap bx k).map fun(l,h)=>(.v (.sl n al)::l,h)
  |.bo b=>match heap[b]? with
   |some (.bc n al)=>match c with
    |true=>(ko c base d.tail e ad (heap.set b (.tZ n al)) bx k).map fun(l,h)=>(.v (.sl n al)::l,h)
    |false=>(ko c base d.tail e ad (heap.set b .dead) (bx++[.bc n al]) k).map fun(l,h)=>(.bo (base+bx.length)::l,h)
   |some (.tZ n al)=>(ko c base d.tail e ad heap bx k).map fun(l,h)=>(.v (.sl n al)::l,h)
   |_=>.none
  |.mp b=>match decide (b<base)with
   |true=>(ko c base d.tail e ad heap bx k).map fun(l,h)=>(.mp b::l,h)
   |false=>match uf base b heap bx with
    |some (b',heap,bx)=>(ko c base d.tail e ad heap bx k).map fun(l,h)=>(.mp b'::l,h)
    |.none=>.none
  |.fn g first cap=>match(AV.fn g first cap).simple&&first.all (AV.under base),kT base cap heap bx with
   |true,some (cap,heap,bx)=>(ko c base d.tail e ad heap bx k).map fun(l,h)=>(.fn g first cap::l,h)
   |_,_=>.none
  |a=>match a.simple&&a.under base with
   |true=>(ko c base d.tail e ad heap bx k).map fun(l,h)=>(norm a::l,h)
   |false=>.none
def vu(s:St):List ResultVar->Option (List AV)
 |[]=>some []
 |r::b=>match DA P s r,vu s b with
  |some a,some l=>some (a::l)
  |_,_=>.none
def fin(fn:Func)(a:Bool)(base:Nat)(s:St):Option (List AV×List Bx):=
 match vu P s fn.results.toList with
 |.none=>.none
 |some l=>match ko P a base fn.resultTypes.toList l s.ad s.heap [] 0 with
  |some (r,h,bx)=>match decide (base<=s.heap.length)&&(h.take base).all fun b=>b.simple&&b.under base with
   |true=>some (r,h.take base++bx)
   |false=>.none
  |.none=>.none
variable (K:Func->List Item->St->Nat->List AV->List Bx->Prop)
def N9(ops:List Oper)(a:List (Tmp×Bool)):List (Tmp×Bool):=a.filter fun x=>ops.all fun o=>o.dst !=some x.1
def Fi(r:List AV)(h:List Bx)(b:List AV)(a:List Bx):Prop:=b=r/\a=h
def wp(fn:Func)(base:Nat)(A:sA)(e:Nat->Option Cut)(r:List AV)(h:List Bx):Nat->List Item->St->List (Tmp×Bool)->Prop
 |0,_,_,_=>False
 |n+1,l,s,d=>
  let done:Prop:=match fin P fn A.rf base s with
   |some (j,g)=>Fi r h j g
   |.none=>False
  let head (b:Code) (k:List Item):Prop:=match(mu b).bind e with
   |some c=>match c.app base s with
    |some f=>K fn (.code b :: .inLoop b::k) f base r h
    |.none=>False
   |.none=>wp fn base A e r h n (.code b :: .inLoop b::k) s d
  match l with
  |[]=>done
  |.code c::k=>match c with
   |.skip|.label _=>wp fn base A e r h n k s d
   |.seq a b=>wp fn base A e r h n (.code a :: .code b::k) s d
   |.block id b=>wp fn base A e r h n (.code b :: .inBlock id::k) s d
   |.loop b=>head b k
   |.exit id=>match exitTo id k with
    |some i=>wp fn base A e r h n i s d
    |.none=>False
   |.ret=>done
   |.cond (.tmp x) a b=>match d.lookup x with
    |some true=>wp fn base A e r h n (.code a::k) s d
    |some false=>wp fn base A e r h n (.code b::k) s d
    |.none=>match s.tmps.getD x .none with
     |.v (.bool B)=>ay B (wp fn base A e r h n (.code a::k) s ((x,true)::d)) (wp fn base A e r h n (.code b::k) s ((x,false)::d))
     |_=>False
   |.region id ops draw=>match A.join id with
    |some c=>match c.app base s with
     |some f=>K fn (.code (.region id ops draw)::k) f base r h
     |.none=>False
    |.none=>KD P E ops.toList A id draw s fun s=>wp fn base A e r h n k s (N9 ops.toList d)
   |_=>False
  |.inBlock _::k=>wp fn base A e r h n k s d
  |.inLoop b::k=>head b k
  |_=>False
def aM(n:Nat)(l:List (Nat×AV)):List AV:=(List.range n).map fun i=>(l.lookup i).getD .none
def cq:List AV->List (Option Nat)
 |[]=>[]
 |.own .. :: l=>some 0::cq l
 |_::l=>cq l
def DB(fn:Func)(args:List AV)(heap:List Bx):St:=
 {tmps:=args++List.replicate (fn.ntmps-args.length) .none,ad:=cq args,heap}
def oY:Code->List Item->List (List Item)
 |.seq a b,k=>oY a (.code b::k)++oY b k
 |.cond _ a b,k=>oY a k++oY b k
 |.block id c,k=>oY c (.inBlock id::k)
 |.loop c,k=>(.code c :: .inLoop c::k)::oY c (.inLoop c::k)
 |_,_=>[]
def sR(id:Nat):Code->List Item->Option (List Item)
 |.seq a b,k=>match sR id a (.code b::k)with
  |some l=>some l
  |.none=>sR id b k
 |.cond _ a b,k=>match sR id a k with
  |some l=>some l
  |.none=>sR id b k
 |.block n c,k=>sR id c (.inBlock n::k)
 |.loop c,k=>sR id c (.inLoop c::k)
 |.region n ops draw,k=>match n==id with
  |true=>some (.code (.region n ops draw)::k)
  |false=>.none
 |_,_=>.none
def YE(fn:Func)(id:Nat):List Item:=(sR id (fn.body.getD .skip) []).getD []
def wpJ(fn:Func)(base:Nat)(A:sA)(a:Nat->Option Cut)(r:List AV)(h:List Bx)(n:Nat)(b:List Item)(s:St):Prop:=
 match b with
 |.code (.region id ops draw)::k=>KD P E ops.toList A id draw s fun s=>wp P E K fn base A a r h n k s []
 |_=>False
def Wk(fn:Func)(k:Nat):List Item:=(oY (fn.body.getD .skip) []).getD k []
end
def jI(al:List (List PV))(i j:Nat):Option PV:=(al[i]?).bind (·[j]?)
def AV.wH:AV->Bool
 |.none|.v _|.aA _ _|.bo _|.mp _|.wG _=>true
 |_=>false
def AV.IF:AV->Bool
 |.v _|.agg _|.jH .. => true
 |_=>false
inductive bW (bQ:Nat->Nat) (w:World):Value->PV->Prop
 |bool (b:Bool):bW bQ w (.bool b) (.bool b)
 |int (k:IntKind) (n:Int):bW bQ w (.int k n) (.int k n)
 |str (s:ByteArray):bW bQ w (.string s) (.str s.data.toList)
 |ng (k:FloatKind) (re im:Nat):bW bQ w (.complex k re im) (.ng k (some (re,im)))
 |FE (k:FloatKind) (re im:Nat):bW bQ w (.complex k re im) (.ng k none)
 |U2 (k:FloatKind) (b:Nat):bW bQ w (.float k b) (.Dq k)
 |nil:bW bQ w (.slice none 0 0) .nil
 |mw (n:Nat):bW bQ w (.slice none 0 0) (.sl n [])
 |Is (a:Addr) (n:Nat):bW bQ w (.slice (some a) 0 0) (.sl n [])
 |sl (b off len cap n:Nat) (al:List (List PV)) (u:Nat->Nat->Value) (hl:al.length=len) (hc:len<=cap) (hr:∀r∈al,r.length=n)
   (aju:∀i j p,jI al i j=some p->w.cell? ⟨b,off+i*n+j,none⟩=some (u i j)/\off+i*n+j<bQ b)
   (hp:∀i j p,jI al i j=some p->bW bQ w (u i j) p):bW bQ w (.slice (some ⟨b,off,none⟩) len cap) (.sl n al)
inductive Hd where
 |box (b:Nat)
 |cell (b j:Nat)
 |nO (b:Nat) (k:PV)
 |tok (t:Nat)
structure Gh where
 bQ:Nat->Nat
 h:Hd->Option Nat
 val:Nat->Value
 bz:Nat->Prop
def Room(G:Gh)(x:Hd)(w:World)(A:Option Addr)(len cap n:Nat):Prop:=
 len<cap->∃(b off:Nat)(X:Array Value)(elem:TypeId),A=some ⟨b,off,none⟩/\G.h x=some b/\G.bQ b=off+len*n/\w.heap[b]?=some (.cells X elem (0,0))/\off+cap*n<=X.size
inductive aL (G:Gh) (ad:List (Option Nat)) (w:World):Value->AV->Prop
 |none (v:Value):aL G ad w v .none
 |v {v:Value} {p:PV} (h:bW G.bQ w v p):aL G ad w v (.v p)
 |agg {cs:Array Value} {ps:List PV} (hs:cs.size=ps.length) (h:∀(i:Nat)v p,cs[i]?=some v->ps[i]?=some p->bW G.bQ w v p):aL G ad w (.agg cs) (.agg ps)
 |Dr {cs:Array Value} {l:List AV} (hs:cs.size=l.length) (hi:∀a∈l,a.wH=true) (ho:∀(i:Nat)v,cs[i]?=some v->v.oneCell'=true) (h:∀(i:Nat)v a,cs[i]?=some v->l[i]?=some a->aL G ad w v a):aL G ad w (.agg cs) (.Dr l)
 |own {t ver n:Nat} {al:List (List PV)} {A:Option Addr} {len cap:Nat} (ht:t<ad.length) (hle:∀(m:Nat),ad[t]?=some (some m)->ver<=m)
   (h:bW G.bQ w (.slice A len cap) (.sl n al)) (hr:ad[t]?=some (some ver)->Room G (.tok t) w A len cap n):aL G ad w (.slice A len cap) (.own t ver n al)
 |aA {b off DC:Nat} (he:G.bz b) (h:G.val b = .pointer (some ⟨DC,0,Option.none⟩)):aL G ad w (.pointer (some ⟨DC,off,Option.none⟩)) (.aA b off)
 |iS {b base n len j DC:Nat} {i:Int} (he:G.bz b) (hi:0<=i/\i<len) (h:G.val b = .pointer (some ⟨DC,0,Option.none⟩)):aL G ad w (.pointer (some ⟨DC,base+i.toNat*n+j,Option.none⟩)) (.iS b base n len i j)
 |fK {b n j DC off len cap:Nat} {i:Int} (he:G.bz b) (hi:0<=i/\i.toNat<len) (h:G.val b = .slice (some ⟨DC,off,Option.none⟩) len cap):aL G ad w (.pointer (some ⟨DC,off+i.toNat*n+j,Option.none⟩)) (.fK b n i j)
 |kr {cs:List PV} {b off:Nat} (u:Nat->Value) (hc:∀(j:Nat)p,cs[j]?=some p->w.cell? ⟨b,off+j,Option.none⟩=some (u j)/\off+j<G.bQ b)
   (hp:∀(j:Nat)p,cs[j]?=some p->bW G.bQ w (u j) p):aL G ad w (.pointer (some ⟨b,off,Option.none⟩)) (.kr cs)
 |bo {b:Nat} (he:G.bz b) (ho:(G.val b).oneCell'=true):aL G ad w (G.val b) (.bo b)
 |mp {b:Nat} (he:G.bz b) (ho:(G.val b).oneCell'=true):aL G ad w (G.val b) (.mp b)
 |fn {f:Fn} {fi ca:Array Value} {first cap:List AV} (h1:fi.size=first.length) (h2:ca.size=cap.length)
   (h3:∀(i:Nat)v a,fi[i]?=some v->first[i]?=some a->aL G ad w v a) (h4:∀(i:Nat)v a,ca[i]?=some v->cap[i]?=some a->aL G ad w v a):aL G ad w (.func f fi ca) (.fn f first cap)
 |xg {vs:Array Value} {l:List AV} (h1:vs.size=l.length) (h2:∀(i:Nat)v a,vs[i]?=some v->l[i]?=some a->aL G ad w v a):aL G ad w (.tuple vs) (.xg l)
 |qg:aL G ad w .nilIface (.wG Option.none)
 |Bp {t:TypeId} {cs:Array Value} {ps:List PV} (hs:cs.size=ps.length) (h:∀(i:Nat)v p,cs[i]?=some v->ps[i]?=some p->bW G.bQ w v p):aL G ad w (.iface t (.agg cs)) (.wG (some (t,ps)))
 |opt {c:Bool} {j:Nat} {g:Bool} {a:AV} {v:Value} (h:c=true->aL G ad w v a) (hu:c=false->v=undef):aL G ad w v (.opt c j g a)
structure Grow (bQ:Nat->Nat) (w:World) (gz:Nat->Nat) (w':World):Prop where
 le:∀b,bQ b<=gz b
 cell:∀b o,o<bQ b->w'.cell? ⟨b,o,none⟩=w.cell? ⟨b,o,none⟩
def Grow.refl(a:Nat->Nat)(w:World):Grow a w a w:=⟨fun _=>ar _,fun _ _ _=>rfl⟩
def Grow.trans{c d e:Nat->Nat}{f g i:World}(h:Grow c f d g)(k:Grow d g e i):Grow c f e i:=
 ⟨fun b=>dF (h.le b) (k.le b),fun b o a=>(k.cell b o (gg a (h.le b))).trans (h.cell b o a)⟩
def bW.grow{f gz:Nat->Nat}{w w':World}(g:Grow f w gz w'){v:Value}{p:PV}(h:bW f w v p):bW gz w' v p:=by
 induction h with
 |bool b=>exact .bool b
 |int k n=>exact .int k n
 |str s=>exact .str s
 |ng k d c=>exact .ng k d c
 |FE k d c=>exact .FE k d c
 |U2 k b=>exact .U2 k b
 |nil=>exact .nil
 |mw n=>exact .mw n
 |Is a n=>exact .Is a n
 |sl b off len cap n al u o m t y z x=>
  refine .sl b off len cap n al u o m t (fun i j p q=>?_) x
  obtain⟨l,e⟩:=y i j p q;exact⟨(g.cell _ _ e).trans l,gg e (g.le b)⟩
structure cb (G:Gh) (ad:List (Option Nat)) (w:World) (G':Gh) (br:List (Option Nat)) (w':World):Prop where
 grow:Grow G.bQ w G'.bQ w'
 bz:∀b,G.bz b->G'.bz b
 val:∀b,G.bz b->G'.val b=G.val b
 len:ad.length<=br.length
 tok:∀(t:Nat)n,br[t]?=some (some n)->t<ad.length->∃m,ad[t]?=some (some m)/\(m<n\/(m=n/\∀b,G.h (.tok t)=some b->G'.h (.tok t)=some b/\G'.bQ b=G.bQ b/\w'.heap[b]?=w.heap[b]?))
def cb.refl(G:Gh)(ad:List (Option Nat))(w:World):cb G ad w G ad w:=
 ⟨Grow.refl _ _,fun _ h=>h,fun _ _=>rfl,ar _,fun _ n h _=>⟨n,h,.inr ⟨rfl,fun _ a=>⟨a,rfl,rfl⟩⟩⟩⟩
def cb.trans{e f g:Gh}{o t2 p:List (Option Nat)}{q s u:World}(h:cb e o q f t2 s)(k:cb f t2 s g p u):cb e o q g p u:=by
 refine⟨h.grow.trans k.grow,fun b d=>k.bz _ (h.bz _ d),fun b i=>(k.val b (h.bz b i)).trans (h.val b i),dF h.len k.len,fun t n r j=>?_⟩
 obtain⟨m,z,c⟩:=k.tok t n r (gg j h.len);obtain⟨l,y,a⟩:=h.tok t m z j;refine⟨l,y,?_⟩;rcases c with c|⟨rfl,c⟩
 .rcases a with a|⟨rfl,_⟩
  .exact .inl (by omega)
  .exact .inl c
 .rcases a with a|⟨rfl,a⟩
  .exact .inl a
  .refine .inr ⟨rfl,fun b d=>?_⟩
   obtain⟨v,w,x⟩:=a b d;obtain⟨D,E,G⟩:=c b v;exact⟨D,E.trans w,G.trans x⟩
def Room.bA{G a:Gh}{x y:Hd}{w w':World}{A:Option Addr}{len cap n:Nat}(h:Room G x w A len cap n)
  (k:∀b,G.h x=some b->a.h y=some b/\a.bQ b=G.bQ b/\w'.heap[b]?=w.heap[b]?):Room a y w' A len cap n:=by
 intro m;obtain⟨b,off,X,elem,c,d,e,f,g⟩:=h m;obtain⟨i,j,l⟩:=k b d;exact⟨b,off,X,elem,c,i,j.trans e,l.trans f,g⟩
def aL.bA{G z:Gh}{ad br:List (Option Nat)}{w w':World}(k:cb G ad w z br w'){v:Value}{a:AV}(h:aL G ad w v a):aL z br w' v a:=by
 induction h with
 |none v=>exact .none v
 |v h=>exact .v (h.grow k.grow)
 |agg l h=>exact .agg l fun i v p c d=>(h i v p c d).grow k.grow
 |Dr l g e h o=>exact .Dr l g e o
 |@own t Y n al A len cap x r h I=>
  refine .own (gg x k.len) (fun m E=>?_) (h.grow k.grow) fun K=>?_
  .obtain⟨y,q,f⟩:=k.tok t m E x
   have:=r y q;rcases f with f|⟨rfl,_⟩<;>omega
  .obtain⟨y,q,f⟩:=k.tok t _ K x
   have Z:=r y q;rcases f with f|⟨rfl,f⟩
   .omega
   .exact(I q).bA f
 |aA b h=>exact .aA (k.bz _ b) ((k.val _ b).trans h)
 |iS b g h=>exact .iS (k.bz _ b) g ((k.val _ b).trans h)
 |fK b g h=>exact .fK (k.bz _ b) g ((k.val _ b).trans h)
 |kr u D H=>
  refine .kr u (fun j p s=>?_) fun j p s=>(H j p s).grow k.grow
  obtain⟨c,d⟩:=D j p s;exact⟨(k.grow.cell _ _ d).trans c,gg d (k.grow.le _)⟩
 |bo b e=>rw[<-k.val _ b]at e⊢; exact .bo (k.bz _ b) e
 |mp b e=>rw[<-k.val _ b]at e⊢; exact .mp (k.bz _ b) e
 |fn c d T X M Q=>exact .fn c d M Q
 |xg c d o=>exact .xg c o
 |qg=>exact .qg
 |Bp l h=>exact .Bp l fun i v p c d=>(h i v p c d).grow k.grow
 |opt h J o=>exact .opt o J
def bW.fM{a:Nat->Nat}{w:World}{v:Value}{p:PV}(h:bW a w v p):v.oneCell'=true:=by cases h<;>rfl
def nP{v:Value}(h:v.oneCell'=true):v.cells = #[v]:=by cases v<;>first|rfl|simp[Value.oneCell']at h
def bW.cells{a:Nat->Nat}{w:World}{v:Value}{p:PV}(h:bW a w v p):v.cells = #[v]:=nP h.fM
def bW.norm{a:Nat->Nat}{w:World}{v:Value}{p:PV}(c:CT)(h:bW a w v p):bW a w v (c.norm p):=by
 unfold CT.norm;split
 .cases h;exact .mw _
 .exact h
def aL.pv{G:Gh}{ad:List (Option Nat)}{w:World}{v:Value}{a:AV}{p:PV}(h:aL G ad w v a)(b:a.pv=some p):bW G.bQ w v p:=by
 cases h with
 |v h=>simp[AV.pv]at b;exact b▸h
 |own d e h c=>simp[AV.pv]at b;exact b▸h
 |_=>simp[AV.pv]at b
def ej(G:Gh)(w:World)(x:Hd)(v:Value)(a:AV):Prop:=
 v.oneCell'=true/\match a with
 |.jH n al=>∃A len cap,v = .slice A len cap/\bW G.bQ w v (.sl n al)/\Room G x w A len cap n
 |a=>aL G [] w v a
def om(G:Gh)(w:World)(x:Hd)(v:Value)(a:AV):Prop:=
 match a with
 |.agg ps=>aL G [] w v (.agg ps)
 |a=>ej G w x v a
def xh(a:Array MapEntry)(clock n:Nat):Prop:=a.size=n/\(∀x∈a.toList,x.born<clock)/\(a.toList.map (·.born)).Nodup
def fY(P:Program)(G:Gh)(w:World)(b:Nat):Bx->Prop
 |.cells cs=>∃c X elem,G.bz b/\G.h (.box b)=some c/\G.val b = .pointer (some ⟨c,0,none⟩)/\w.heap[c]?=some (.cells X elem (0,0))/\X.size=cs.length/\G.bQ c=0/\∀(j:Nat)v a,X[j]?=some v->cs[j]?=some a->ej G w (.cell b j) v a
 |.bc n al=>G.bz b/\(∀r∈al,r.length=n)/\
   ((∃c X elem cap,G.h (.box b)=some c/\G.val b = .slice (some ⟨c,0,none⟩) al.length cap/\al.length<=cap/\w.heap[c]?=some (.cells X elem (0,0))/\cap*n<=X.size/\G.bQ c=0 /\
    ∀(i j:Nat)v p,X[i*n+j]?=some v->jI al i j=some p->bW G.bQ w v p) \/
    (al=[]/\∃A,G.val b = .slice A 0 0))
 |.tZ n al=>G.bz b/\bW G.bQ w (G.val b) (.sl n al)
 |.map t d=>∃c f clock,G.bz b/\G.h (.box b)=some c/\G.val b = .map (some c)/\w.heap[c]?=some (.map f clock)/\xh f clock d.length /\
   (∀e∈d,e.2.IF=true/\∃g l,P.underlying t=some (.map g l)/\km P g e.1=true)/\
   (d.map (·.1)).Pairwise (fun k m=>lz k m=false)/\
   ∀(i:Nat)e x,f[i]?=some e->d[i]?=some x->bW G.bQ w e.key x.1/\om G w (.nO b x.1) e.val x.2
 |.dead=>G.bz b
 |.free=>¬G.bz b
def IG(i:Nat):Int:=if i=9\/i=10\/i=11\/i=12\/i=13\/i=32 then 1 else 0
structure Laid (bQ:Nat->Nat) (w:World):Prop where
 YF:∀i,i<256->w.cell? ⟨1,i,none⟩=some (.int .u8 (IG i))/\i<bQ 1
 num:∃m,w.cell? ⟨0,0,none⟩=some (.int .i64 m)/\0<bQ 0
def Laid.grow{c gz:Nat->Nat}{w w':World}(h:Laid c w)(g:Grow c w gz w'):Laid gz w':=
 ⟨fun i a=>⟨(g.cell _ _ (h.YF i a).2).trans (h.YF i a).1,gg (h.YF i a).2 (g.le 1)⟩,h.num.elim fun m b=>⟨m,(g.cell _ _ b.2).trans b.1,gg b.2 (g.le 0)⟩⟩
structure my (w0:World) (aJ:Nat->Nat) (O:Nat->Prop) (w:World) (bQ:Nat->Nat):Prop where
 size:w0.heap.size<=w.heap.size
 os:w.os=w0.os
 tape:w.tape=w0.tape
 output:w.output=w0.output
 DC:∀b,b<w0.heap.size->¬O b->w.heap[b]?=w0.heap[b]?/\bQ b=aJ b
 grow:Grow aJ w0 bQ w
 wI:∀b,w.heap.size<=b->bQ b=0
 laid:Laid aJ w0
def my.refl(w:World)(a:Nat->Nat)(O:Nat->Prop)(h:∀b,w.heap.size<=b->a b=0)(c:Laid a w):my w a O w a:=
 ⟨ar _,rfl,rfl,rfl,fun _ _ _=>⟨rfl,rfl⟩,Grow.refl _ _,h,c⟩
def my.Bq{b w:World}{c a:Nat->Nat}{O:Nat->Prop}(h:my b c O w a):Laid a w:=h.laid.grow h.grow
structure Inv (P:Program) (w0:World) (aJ:Nat->Nat) (O:Nat->Prop) (G:Gh) (heap:List Bx) (w:World):Prop where
 frame:my w0 aJ O w G.bQ
 nb:∀b,G.bz b->b<heap.length
 box:∀(b:Nat)bx,heap[b]?=some bx->fY P G w b bx
 inj:∀x y n,G.h x=some n->G.h y=some n->x=y
 nf:∀x n,G.h x=some n->n<w.heap.size/\(n<w0.heap.size->O n)
 dead:∀b n,heap[b]?=some .free->G.h (.box b)≠some n
section
variable {P:Program} {G:Gh} {ad:List (Option Nat)} {w:World}
def dA{t:TypeId}{n:Nat}(h:ck P t=some n)(w:World):(sizeOf t).run P w = .ok n w:=by
 unfold ck at h;cases hi:P.info? t with
 |none=>rw[hi]at h;simp at h
 |some i=>
  rw[hi]at h;simp at h;simp[sizeOf,typeInfo,hi,h]
def oZ{t:TypeId}{b:Bool}(h:cZ P t=some b)(w:World):(isAgg t).run P w = .ok b w:=by
 unfold cZ at h;cases hd:P.underlying t with
 |none=>rw[hd]at h;simp at h
 |some d=>
  rw[hd]at h;cases d<;>simp at h<;>subst h<;>simp[isAgg,run_underlying hd]
def Plain(P:Program)(G:Gh)(ad:List (Option Nat))(w:World)(x:Sem Next)(a:AV):Prop:=
 ∃v w',x.run P w = .ok (.value v) w'/\(w'=w\/w'=w.drew)/\aL G ad w' v a
def Plain.pure{x:Sem Next}{v:Value}{a:AV}(c:x.run P w = .ok (.value v) w)(b:aL G ad w v a):Plain P G ad w x a:=⟨v,w,c,.inl rfl,b⟩
def aL.np{v:Value}{b:Bool}(h:aL G ad w v (.v (.bool b))):v = .bool b:=by cases h with|v h=>cases h;rfl
def aL.gh{v:Value}{k:IntKind}{n:Int}(h:aL G ad w v (.v (.int k n))):v = .int k n:=by cases h with|v h=>cases h;rfl
def aL.yg{v:Value}{s:List UInt8}(h:aL G ad w v (.v (.str s))):∃b:ByteArray,v = .string b/\b.data.toList=s:=by cases h with|v h=>cases h;exact⟨_,rfl,rfl⟩
def aL.DD{v:Value}{k:FloatKind}(h:aL G ad w v (.v (.Dq k))):∃b,v = .float k b:=by cases h with|v h=>cases h;exact⟨_,rfl⟩
def aL.KE{v:Value}{k:FloatKind}{o:Option (Nat×Nat)}(h:aL G ad w v (.v (.ng k o))):∃b a,v = .complex k b a:=by
 cases h with|v h=>cases h<;>exact⟨_,_,rfl⟩
def aL.lB(b:Bool):aL G ad w (.bool b) (.v (.bool b)):=.v (.bool b)
def aL.mkInt(k:IntKind)(n:Int):aL G ad w (.int k n) (.v (.int k n)):=.v (.int k n)
def aL.mkStr(s:ByteArray)(l:List UInt8)(h:s.data.toList=l):aL G ad w (.string s) (.v (.str l)):=.v (h ▸ .str s)
def qt(G:Gh)(ad:List (Option Nat))(w:World)(e:Operand->Value)(ρ:Operand->AV)(o:Op):Prop:=
 match o with
 |.pick c a b=>aL G ad w (e c) (ρ c)/\∀B,ρ c = .v (.bool B)->(B=true->aL G ad w (e a) (ρ a))/\(B=false->aL G ad w (e b) (ρ b))
 |o=>∀x∈o.operands.toList,aL G ad w (e x) (ρ x)
def bG(w:World){v:Value}{w':World}{x:Sem Value}(h:x.run P w = .ok v w'):(do pure (.value (<-x)):Sem Next).run P w = .ok (.value v) w':=by
 simp[h]
def nq(b off n:Nat):(⟨b,off,none⟩:Addr).add n=⟨b,off+n,none⟩:=by
 unfold Addr.add;split
 .subst_vars;rfl
 .rfl
def xi{b off:Nat}{f:Field}{n:Nat}(h:ck P f.type=some (n+1))(w:World):(fieldPlace ⟨b,off,none⟩ f).run P w = .ok ⟨b,off+f.offset,none⟩ w:=by
 simp[fieldPlace,dA h,nq]
def FF{s f:Nat}{fields:Array Field}{a:Field}{m:Nat}(e:P.underlying s=some (.struct fields))(c:fields[f]?=some a)(d:ck P a.type=some (m+1))(b off:Nat):
  (do pure (.value (<-Instr.fieldAt s (.pointer (some ⟨b,off,none⟩)) f)):Sem Next).run P w = .ok (.value (.pointer (some ⟨b,off+a.offset,none⟩))) w:=by
 simp[Instr.fieldAt,run_underlying e,c,Instr.sureAddr,xi d]
def AY{e:Operand->Value}{ρ:Operand->AV}{s f:Nat}{x:Operand}{a:AV}{l:List Prop}{an:An}{k:Kd}(t:aL G ad w (e x) (ρ x))
  (h:plain P (.fieldAddr s x f) an k ρ=some (a,l)):Plain P G ad w (do pure (.value (<-Instr.fieldAt s (e x) f))) a:=by
 simp only[plain]at h;split at h<;>try(simp at h;done)
 rename_i fields E;split at h<;>try(simp at h;done)
 rename_i i y;split at h<;>try(simp at h;done)
 rename_i n z D;have H:∃m,n=m+1:=by
  cases n with
  |zero=>exact(z rfl).elim
  |succ m=>exact⟨m,rfl⟩
 obtain⟨m,rfl⟩:=H;have run:=fun b off=>FF (w:=w) E y D b off
 generalize ρ x=A at t h;generalize e x=V at t⊢;cases t with
 |aA d c=>simp at h;obtain⟨rfl,rfl⟩:=h;exact .pure (run _ _) (.aA d c)
 |iS d q c=>simp at h;obtain⟨rfl,rfl⟩:=h;refine .pure (run _ _) ?_;rw[gp];exact .iS d q c
 |fK d q c=>simp at h;obtain⟨rfl,rfl⟩:=h;refine .pure (run _ _) ?_;rw[gp];exact .fK d q c
 |kr u v r=>
  simp at h;obtain⟨rfl,rfl⟩:=h;refine .pure (run _ _) (.kr (fun j=>u (i.offset+j)) (fun j p g=>?_) fun j p g=>?_)
  .rw[jb]at g
   have:=v _ _ g;rwa [show∀o,o+i.offset+j=o+(i.offset+j)from fun o=>gp _ _ _]
  .rw[jb]at g
   exact r _ _ g
 |_=>simp at h
def DE{e:Operand->Value}{ρ:Operand->AV}{o:Oper}{x:Operand}{a:AV}{l:List Prop}{an:An}{k:Kd}(g:aL G ad w (e x) (ρ x))(n:o.op = .nilCheck x)
  (h:plain P (.nilCheck x) an k ρ=some (a,l)):Plain P G ad w (execOp e o) a:=by
 simp only[plain]at h;have run:∀b off,e x = .pointer (some ⟨b,off,none⟩)->(execOp e o).run P w = .ok (.value (e x)) w:=by
  intro b off i;simp[execOp,n,i]
 generalize ρ x=A at g h;generalize i:e x=V at g run;cases g with
 |aA d c=>simp at h;obtain⟨rfl,rfl⟩:=h;exact .pure (run _ _ rfl) (.aA d c)
 |iS d f c=>simp at h;obtain⟨rfl,rfl⟩:=h;exact .pure (run _ _ rfl) (.iS d f c)
 |fK d f c=>simp at h;obtain⟨rfl,rfl⟩:=h;exact .pure (run _ _ rfl) (.fK d f c)
 |kr u j m=>simp at h;obtain⟨rfl,rfl⟩:=h;exact .pure (run _ _ rfl) (.kr u j m)
 |_=>simp at h
def lD{t a n len:Nat}{k:IntKind}{i:Int}{b off:Nat}(d:P.underlying t=some (.array len a))(c:ck P a=some n)(h:0<=i/\i<len)(w:World):
  (Instr.indexAt t (.pointer (some ⟨b,off,none⟩)) (.int k i)).run P w = .ok (.pointer (some ⟨b,off+i.toNat*n,none⟩)) w:=by
 simp[Instr.indexAt,asIntOf,run_underlying d,Instr.sureAddr,h,dA c,nq]
def mz{t a n len cap:Nat}{k:IntKind}{i:Int}{b off:Nat}(d:P.underlying t=some (.slice a))(c:ck P a=some n)(h:0<=i/\i<len)(w:World):
  (Instr.indexAt t (.slice (some ⟨b,off,none⟩) len cap) (.int k i)).run P w = .ok (.pointer (some ⟨b,off+i.toNat*n,none⟩)) w:=by
 simp[Instr.indexAt,asIntOf,run_underlying d,Instr.sureAddr,h,dA c,nq]
def aL.al{v:Value}{a:AV}{n:Nat}{al:List (List PV)}(h:aL G ad w v a)(b:a.ua n=some al):bW G.bQ w v (.sl n al):=by
 cases h with
 |v h=>
  rename_i p;cases p<;>simp only[AV.ua]at b<;>try(simp at b;done)
  .split at b<;>try(simp at b;done)
   rename_i c;subst c;obtain rfl:=au b;exact h
  .obtain rfl:=au b
   cases h;exact .mw n
 |own d e h f=>
  simp only[AV.ua]at b;split at b<;>try(simp at b;done)
  rename_i c;subst c;obtain rfl:=au b;exact h
 |_=>simp[AV.ua]at b
def IH{al:List (List PV)}{i j:Nat}{r:List PV}{p:PV}(h:al[i]?=some r)(a:r[j]?=some p):jI al i j=some p:=by simp[jI,h,a]
def Ta{V:Value}{t e n:Nat}{k:IntKind}{i:Int}{al:List (List PV)}{r:List PV}(g:bW G.bQ w V (.sl n al))
  (o:P.underlying t=some (.slice e))(m:ck P e=some n)(f:0<=i)(c:al[i.toNat]?=some r):
  Plain P G ad w (do pure (.value (<-Instr.indexAt t V (.int k i)))) (.kr r):=by
 cases g with
 |mw=>simp at c
 |Is a=>simp at c
 |sl b off len cap n al u v s y q l=>
  have x:=(aE.1 c).1;exact .pure (bG _ (mz o m ⟨f,by omega⟩ _)) (.kr (fun j=>u i.toNat j) (fun j p d=>q _ _ _ (IH c d)) fun j p d=>l _ _ _ (IH c d))
def AZ{e:Operand->Value}{ρ:Operand->AV}{t:Nat}{x v:Operand}{a:AV}{l:List Prop}{an:An}{k:Kd}(g:aL G ad w (e x) (ρ x))(z:aL G ad w (e v) (ρ v))
  (h:plain P (.indexAddr t x v) an k ρ=some (a,l))(m:∀q∈l,q):Plain P G ad w (do pure (.value (<-Instr.indexAt t (e x) (e v)))) a:=by
 simp only[plain]at h;split at h<;>try(simp at h;done)
 rename_i kk i K;rw[K]at z;rw[z.gh];generalize ρ x=A at g h;generalize e x=V at g⊢;split at h
 .rename_i len y b off f
  split at h<;>try(simp at h;done)
  rename_i n d;simp only[aw,ax]at h;obtain⟨rfl,rfl⟩:=h;have s:=m _ (cE.2 rfl);cases g with
  |aA J E=>exact .pure (bG _ (lD f d s _)) (.iS (j:=0) J s E)
 .rename_i len y cs f
  split at h<;>try(simp at h;done)
  rename_i n d;simp only[aw,ax]at h;obtain⟨rfl,rfl⟩:=h;have s:=m _ (cE.2 rfl);cases g with
  |kr u H I=>
   refine .pure (bG _ (lD f d s _)) (.kr (fun j=>u (i.toNat*n+j)) (fun j p c=>?_) fun j p c=>?_)
   .rw[jb]at c
    have:=H _ _ c;rwa [show∀o,o+i.toNat*n+j=o+(i.toNat*n+j)from fun o=>gp _ _ _]
   .rw[jb]at c
    exact I _ _ c
 .rename_i y Q f
  split at h<;>try(simp at h;done)
  rename_i n d;split at h<;>try(simp at h;done)
  rename_i al M;have D:=g.al M;split at h<;>try(simp at h;done)
  rename_i r;split at h<;>try(simp at h;done)
  simp only[aw,ax]at h;obtain⟨rfl,rfl⟩:=h;exact Ta D f d (m _ (by simp)) (m _ (by simp))
 .simp at h
def lE{t n b off:Nat}{u:Nat->Value}(a:cZ P t=some true)(e:ck P t=some n)(h:∀j,j<n->w.cell? ⟨b,off+j,none⟩=some (u j)):
  (loadVar t ⟨b,off,none⟩).run P w = .ok (.agg ((List.range n).map u).toArray) w:=by
 have c:=run_loadCells (P:=P) w ⟨b,off,none⟩ n u (fun j d=>by rw[nq];exact h j d)
 simp[loadVar,oZ a,dA e,c]
def gB{t b off:Nat}{v:Value}(a:cZ P t=some false)(h:w.cell? ⟨b,off,none⟩=some v):(loadVar t ⟨b,off,none⟩).run P w = .ok v w:=by
 simp[loadVar,oZ a,h]
def range_map_get{n i:Nat}{u:Nat->Value}(h:i<n):(((List.range n).map u).toArray)[i]?=some (u i):=by
 simp[h]
def aL.Oa{n:Nat}{u:Nat->Value}{ps:List PV}(d:ps.length=n)(h:∀i p,ps[i]?=some p->bW G.bQ w (u i) p):aL G ad w (.agg ((List.range n).map u).toArray) (.agg ps):=by
 refine .agg (by simp[d]) fun i v p a b=>?_
 have c:i<n:=by have:=(aE.1 b).1;omega
 rw[range_map_get c]at a;obtain rfl:=au a;exact h i p b
def jm{t:Nat}{a:Addr}{v:Value}(h:(loadVar t a).run P w = .ok v w):(do pure (.value (<-Instr.loadAt t (.pointer (some a)))):Sem Next).run P w = .ok (.value v) w:=
 bG _ (by simp only[Instr.loadAt,Instr.sureAddr,Sem.run_bind,Sem.run_pure,Result.andThen_ok];exact h)
def MA{e:Operand->Value}{ρ:Operand->AV}{t:Nat}{x:Operand}{a:AV}{l:List Prop}{an:An}{k:Kd}(f:aL G ad w (e x) (ρ x))
  (h:plain P (.load t x) an k ρ=some (a,l)):Plain P G ad w (do pure (.value (<-Instr.loadAt t (e x)))) a:=by
 simp only[plain]at h;generalize ρ x=A at f h;generalize e x=V at f⊢;cases f with
 |@kr cs b off u m q=>
  simp only at h;split at h
  .rename_i n d s
   split at h<;>try(simp at h;done)
   rename_i v;simp only[aw,ax]at h;obtain⟨rfl,rfl⟩:=h;have z:∀j,j<n->∃p,cs[j]?=some p:=fun j o=>⟨_,bk (by omega)⟩
   have g:(loadVar t ⟨b,off,none⟩).run P w = .ok (.agg ((List.range n).map u).toArray) w:=lE d s (u:=u) fun j o=>by
    obtain⟨p,c⟩:=z j o;exact(m j p c).1
   refine .pure (jm g) (.Oa (by simp[v]) fun i p c=>?_)
   have y:i<n:=by have:=(aE.1 c).1;simp at this;omega
   rw[eS,aF y]at c;exact q i p c
  .rename_i d s
   split at h<;>try(simp at h;done)
   simp only[aw,ax]at h;obtain⟨rfl,rfl⟩:=h;have g:(loadVar t ⟨b,off,none⟩).run P w = .ok (u 0) w:=gB d (m 0 _ rfl).1;exact .pure (jm g) (.v (q 0 _ rfl))
  .simp at h
 |_=>simp at h
def ug{t n off:Nat}{cs:Array Value}(a:cZ P t=some true)(b:ck P t=some n)(w:World):(part t cs off).run P w = .ok (.agg (cs.extract off (off+n))) w:=by
 simp[part,oZ a,dA b]
def o0{t off:Nat}{cs:Array Value}{v:Value}(a:cZ P t=some false)(h:cs[off]?=some v)(w:World):(part t cs off).run P w = .ok v w:=by
 simp[part,oZ a,h]
def Ob{t off:Nat}{cs:Array Value}{ps:List PV}{a:AV}{l:List Prop}(m:cs.size=ps.length)(f:∀(i:Nat)v p,cs[i]?=some v->ps[i]?=some p->bW G.bQ w v p)
  (h:plain.part P ps t off=some (a,l)):∃v,(part t cs off).run P w = .ok v w/\aL G ad w v a:=by
 unfold plain.part at h;split at h
 .rename_i n d g
  split at h<;>try(simp at h;done)
  rename_i k;simp at h;obtain⟨rfl,rfl⟩:=h;refine⟨_,ug d g w,.agg (by simp;omega) fun i v p c b=>?_⟩
  rw[Dj]at c;split at c<;>try(simp at c;done)
  rw[eS]at b;split at b<;>try(simp at b;done)
  rw[jb]at b;exact f _ _ _ c b
 .rename_i d g
  simp at h;obtain⟨p,e,rfl,rfl⟩:=h;have j:off<cs.size:=by have:=(aE.1 e).1;omega
  exact⟨_,o0 d (cK j) w,.v (f _ _ _ (cK j) e)⟩
 .simp at h
def MB{e:Operand->Value}{ρ:Operand->AV}{t f:Nat}{x:Operand}{a:AV}{l:List Prop}{an:An}{k:Kd}(b:aL G ad w (e x) (ρ x))
  (h:plain P (.field t x f) an k ρ=some (a,l)):Plain P G ad w (do pure (.value (<-Instr.field t (e x) f))) a:=by
 simp only[plain]at h;generalize ρ x=A at b h;generalize e x=V at b⊢;split at h<;>try(simp at h;done)
 rename_i fields ps g;split at h<;>try(simp at h;done)
 rename_i n c;cases b with
 |agg j d=>
  obtain⟨v,i,m⟩:=Ob (P:=P) (ad:=ad) j d h;exact .pure (bG _ (by simp[Instr.field,run_underlying g,c,asAgg,i])) m
def MC{e:Operand->Value}{ρ:Operand->AV}{t:Nat}{x g:Operand}{a:AV}{l:List Prop}{an:An}{k:Kd}(d:aL G ad w (e x) (ρ x))(j:aL G ad w (e g) (ρ g))
  (h:plain P (.index t x g) an k ρ=some (a,l))(m:∀q∈l,q):Plain P G ad w (do pure (.value (<-Instr.index t (e x) (e g)))) a:=by
 simp only[plain]at h;split at h<;>try(simp at h;done)
 .rename_i kk i len K ps v n o
  rw[v]at j;rw[j.gh];rw[o]at d;generalize e x=V at d⊢;split at h<;>try(simp at h;done)
  rename_i p D f;simp only[aw,ax]at h;obtain⟨rfl,rfl⟩:=h;have H:=m _ (aS ..);have z:ps[i.toNat]?=some p:=m _ (aP _ (aS ..));cases d with
  |agg u J=>
   have c:=(aE.1 z).1;rw[<-u]at c;have y:=cK c;exact .pure (bG _ (by simp[Instr.index,asIntOf,run_underlying n,H,dA f,o0 D y])) (.v (J _ _ _ y z))
 .rename_i kk i s v n o
  rw[v]at j;rw[j.gh];rw[o]at d;obtain⟨b,E,f⟩:=d.yg;rw[E];simp only[aw,ax]at h;obtain⟨rfl,rfl⟩:=h;obtain⟨r,M⟩:=m _ (cE.2 rfl);have c:i.toNat<b.data.toList.length:=by rw[f];omega
  have u:i.toNat<b.size:=by rw[lS]at c;exact c
  have I:s.getD i.toNat 0=b[i.toNat]:=by
   rw[bS,<-f,bk c];simp;rfl
  rw[I];refine .pure (bG _ ?_) (.mkInt .u8 b[i.toNat].toNat);simp[Instr.index,asIntOf,run_underlying n,r,u]
def FG{e:Operand->Value}{ρ:Operand->AV}{i:Nat}{x:Operand}{a:AV}{l:List Prop}{an:An}{k:Kd}(b:aL G ad w (e x) (ρ x))
  (h:plain P (.extract x i) an k ρ=some (a,l)):Plain P G ad w (do pure (.value (<-Instr.extract (e x) i))) a:=by
 simp only[plain]at h;generalize ρ x=A at b h;generalize e x=V at b⊢;cases b with
 |@xg g m j f=>
  simp at h;obtain⟨_,c,rfl,rfl⟩:=h;have d:i<g.size:=by have:=(aE.1 c).1;omega
  exact .pure (bG _ (by simp[Instr.extract,cK d])) (f _ _ _ (cK d) c)
 |_=>simp at h
def DF{e:Operand->Value}{ρ:Operand->AV}{f:Fn}{first cap:Array Operand}(j:∀x∈first.toList,aL G ad w (e x) (ρ x))(k:∀x∈cap.toList,aL G ad w (e x) (ρ x)):
  Plain P G ad w (do pure (.value (<-Instr.makeFunc f (first.map e) (cap.map e)))) (.fn f (first.toList.map ρ) (cap.toList.map ρ)):=by
 refine .pure (v:=.func f (first.map e) (cap.map e)) (bG _ (by simp[Instr.makeFunc])) (.fn (by simp) (by simp) (fun i v a c b=>?_) fun i v a c b=>?_)
 .simp[C1]at c b
  obtain⟨x,d,rfl⟩:=c;obtain⟨y,g,rfl⟩:=b;rw[d]at g;obtain rfl:=au g;exact j _ (Array.mem_toList_iff.2 (Dh d))
 .simp[C1]at c b
  obtain⟨x,d,rfl⟩:=c;obtain⟨y,g,rfl⟩:=b;rw[d]at g;obtain rfl:=au g;exact k _ (Array.mem_toList_iff.2 (Dh d))
def Oc{e:Operand->Value}{ρ:Operand->AV}{c a b:Operand}{B:Bool}(d:aL G ad w (e c) (ρ c))(f:ρ c = .v (.bool B))
  {r:AV}(g:aL G ad w (if B then e a else e b) r):Plain P G ad w (do pure (.value (if<-asBool (e c)then e a else e b))) r:=by
 rw[f]at d;refine .pure ?_ g;rw[d.np];simp[asBool]
def Od{op:BinOp}{t:TypeId}{k:IntKind}{a b:Int}{B:Bool}(h:N4 op a b=some B)(w:World):(binOp op t (.int k a) (.int k b)).run P w = .ok (.bool B) w:=by
 cases op<;>simp[N4]at h<;>subst h<;>simp[binOp,Op.intCmp]
def oo{op:BinOp}{k:IntKind}{a b n:Int}(h:FC op k a b=some n)(w:World):(Op.intBits op k a b).run P w = .ok (.int k n) w:=by
 cases op<;>simp[FC]at h<;>subst h<;>simp[Op.intBits]
def qu{k:IntKind}{n:Int}(h:bh k n):k.wrap n=n:=by
 unfold bh at h;obtain⟨a,b⟩:=h;cases k<;>simp[IntKind.min,IntKind.max,IntKind.signed,IntKind.bits]at a b<;>simp[IntKind.wrap,IntKind.signed,IntKind.bits]<;>omega
def II{op:BinOp}{t:TypeId}{k:IntKind}{a b n:Int}{f:Bool}{l:List Prop}(g:N4 op a b=none)(h:vo op k a b f=some (n,l))(d:∀q∈l,q)(i:op≠.shl)(j:op≠.shr)(w:World):
  (binOp op t (.int k a) (.int k b)).run P w = .ok (.int k n) w:=by
 have put:∀m:Int,(match f || !k.signed with|true=>some (k.wrap m,[])|false=>some (m,[bh k m]))=some (n,l)->k.wrap m=n:=by
  intro m c;cases hn:f || !k.signed with
  |false=>
   rw[hn]at c;simp at c;obtain⟨rfl,rfl⟩:=c;exact qu (d _ (by simp))
  |true=>
   rw[hn]at c;simp at c;exact c.1
 cases op<;>simp only[vo]at h
 case add=>have:=put _ h;simp[binOp,Op.intArith,this]
 case sub=>have:=put _ h;simp[binOp,Op.intArith,this]
 case mul=>have:=put _ h;simp[binOp,Op.intArith,this]
 case quo=>simp at h;obtain⟨rfl,rfl⟩:=h;have e:b≠0:=d _ (by simp);simp[binOp,Op.intDiv,e]
 case rem=>simp at h;obtain⟨rfl,rfl⟩:=h;have e:b≠0:=d _ (by simp);simp[binOp,Op.intDiv,e]
 case shl=>exact absurd rfl i
 case shr=>exact absurd rfl j
 case and=>simp at h;obtain⟨m,c,rfl,rfl⟩:=h;have:=oo (P:=P) c w;simp[binOp,this]
 case or=>simp at h;obtain⟨m,c,rfl,rfl⟩:=h;have:=oo (P:=P) c w;simp[binOp,this]
 case xor=>simp at h;obtain⟨m,c,rfl,rfl⟩:=h;have:=oo (P:=P) c w;simp[binOp,this]
 case andNot=>simp at h;obtain⟨m,c,rfl,rfl⟩:=h;have:=oo (P:=P) c w;simp[binOp,this]
 all_goals simp[N4]at g
def Br{op:BinOp}{t:TypeId}{k e:IntKind}{a b n:Int}{f:Bool}{l:List Prop}(g:op = .shl\/op = .shr)(h:vo op k a b f=some (n,l))(c:∀q∈l,q)(w:World):
  (binOp op t (.int k a) (.int e b)).run P w = .ok (.int k n) w:=by
 rcases g with rfl|rfl<;>simp only[vo,aw,ax]at h<;>obtain⟨rfl,rfl⟩:=h<;>have d:0<=b:=c _ (by simp)<;>simp[binOp,Op.shift,Int.not_lt.2 d]
def Oe{op:BinOp}{t:TypeId}{a b:ByteArray}{B:Bool}(h:Wf op a.data.toList b.data.toList=some B)(w:World):(binOp op t (.string a) (.string b)).run P w = .ok (.bool B) w:=by
 rw[<-ByteArray.toList_eq,<-ByteArray.toList_eq]at h;cases op<;>simp only[Wf]at h<;>first|(simp at h;done)|(simp only[aw]at h;subst h;simp[binOp,Op.stringOp])
def Of{t:TypeId}{a b:ByteArray}(h:a.data.toList.length+b.data.toList.length<=9223372036854775807)(w:World):(binOp .add t (.string a) (.string b)).run P w = .ok (.string (a++b)) w:=by
 have d:a.size+b.size<=9223372036854775807:=by simpa using h
 have c:¬((a.size+b.size:Nat):Int)>IntKind.i64.max:=by simp[IntKind.max,IntKind.signed,IntKind.bits];omega
 simp only[binOp,Op.stringOp];rw[aI c];rfl
def Og{t:TypeId}{k:FloatKind}{a b:Nat}(w:World):∃c w',(binOp .add t (.float k a) (.float k b)).run P w = .ok (.float k c) w'/\(w'=w\/w'=w.drew):=by
 simp only[binOp,Op.floatArith,ne_eq,not_true_eq_false,if_false];cases hr:k.format.add a b with
 |some r=>exact⟨r,w,by simp[hr],.inl rfl⟩
 |none=>
  by_cases d:(Question.nanBits k a b).forced=true
  .exact⟨0,w,by simp[hr,d],.inl rfl⟩
  .exact⟨_,w.drew,by simp[hr,d];rfl,.inr rfl⟩
def jd{op:BinOp}{t:TypeId}{x y:Operand}{k c:IntKind}{a b:Int}(w:World):(eqGuard op t x y (.int k a) (.int c b)).run P w = .ok () w:=by cases op<;>simp[eqGuard]
def pZ{op:BinOp}{t:TypeId}{x y:Operand}{a b:ByteArray}(w:World):(eqGuard op t x y (.string a) (.string b)).run P w = .ok () w:=by cases op<;>simp[eqGuard]
def oq{op:BinOp}{t:TypeId}{x y:Operand}{a b:Bool}(w:World):(eqGuard op t x y (.bool a) (.bool b)).run P w = .ok () w:=by cases op<;>simp[eqGuard]
def FH{t:TypeId}{a:Array Field}(h:P.underlying t=some (.struct a)):P.fieldsOf t=a:=by simp[Program.fieldsOf,h]
def Bt(d:Nat)(e:TypeId)(n:Nat)(X Y:Array Value):Nat->Nat->Sem Bool
 |0,_=>pure true
 |k+1,i=>do
  let a <-part e X (i*n)
  let b <-part e Y (i*n)
  let r <-Op.equalIn d e a b
  if(!r)=true then pure false else Bt d e n X Y k (i+1)
def run_equalIn_array(w:World)(d:Nat)(t:TypeId)(X Y:Array Value){len e n:Nat}(f:P.underlying t=some (.array len e))(c:ck P e=some n):
  (Op.equalIn (d+1) t (.agg X) (.agg Y)).run P w=(Bt d e n X Y len 0).run P w:=by
 have g:(Go.sizeOf e).run P w = .ok n w:=by
  unfold ck at c;obtain⟨i,m,rfl⟩:=aX.1 c;simp[Go.sizeOf,typeInfo,m]
 simp only[Op.equalIn,Sem.run_bind,run_underlying f,g,Result.andThen_ok,Std.Legacy.Range.forIn_eq_forIn_range',Std.Legacy.Range.size,Nat.sub_zero,Nat.add_sub_cancel,Nat.div_one];clear g f;generalize 0=i;induction len generalizing w i with
 |zero=>simp[Bt]
 |succ len o=>
  simp only[List.range'_succ,List.forIn_cons,Bt,Sem.run_bind,Sem.run_ite];generalize(part e X (i*n)).run P w=r1;cases r1 with
  |ok a j=>
   simp only[Result.andThen_ok];generalize(part e Y (i*n)).run P j=r2;cases r2 with
   |ok b k=>
    simp only[Result.andThen_ok];generalize(Op.equalIn d e a b).run P k=r3;cases r3 with
    |ok r l=>
     cases r
     .simp only[Result.andThen_ok,jM,if_true,Sem.run_pure]
     .simp only[Result.andThen_ok,fh,jO,if_false,Sem.run_pure]
      exact o l (i+1)
    |halt x l=>simp[Result.andThen]
   |halt x k=>simp[Result.andThen]
  |halt x j=>simp[Result.andThen]
def p3(agg:Bool)(X:Array Value):Value:=if agg then .agg X else X.getD 0 undef
def Oh{d:Nat}{t:TypeId}{xs c:List PV}{pre:Bool}{A:Bool×List Prop}(a:Iz P d t pre xs c=some A)(e:cZ P t=some false):xs.length≠0/\c.length≠0:=by
 cases d with
 |zero=>simp[Iz]at a
 |succ d=>
  simp only[Iz]at a;split at a
  .simp
  .simp
  .simp
  .simp
  .rename_i b;simp[cZ,b]at e
  .rename_i b;simp[cZ,b]at e
  .simp at a
def KF:∀(d:Nat)(t:TypeId)(xs j:List PV)(B:Bool)(l:List Prop),Iz P d t false xs j=some (B,l)->B=false:=by
 intro d;induction d with
 |zero=>intro t xs j B l h;simp[Iz]at h
 |succ d o=>
  intro t xs j B l h;simp only[Iz]at h;split at h
  .simp at h;exact h.1
  .split at h<;>simp at h;exact h.1
  .simp at h;exact h.1
  .split at h<;>simp at h;exact h.1
  .rename_i fields n
   split at h<;>try(simp at h;done)
   generalize fields.toList=k at h;induction k generalizing B l with
   |nil=>simp[eqFields]at h;exact h.1
   |cons f k p=>
    simp only[eqFields]at h;split at h
    .exact p _ _ h
    .split at h<;>try(simp at h;done)
     split at h<;>try(simp at h;done)
     rename_i a q c;obtain rfl:=o _ _ _ _ _ c;split at h<;>try(simp at h;done)
     rename_i b m g;simp at h;obtain⟨rfl,rfl⟩:=h;exact p _ _ g
  .rename_i len e n
   split at h<;>try(simp at h;done)
   clear n;generalize 0=i at h;induction len generalizing B l i with
   |zero=>simp[lV]at h;exact h.1
   |succ len s=>
    simp only[lV]at h;split at h<;>try(simp at h;done)
    rename_i a q c;obtain rfl:=o _ _ _ _ _ c;split at h<;>try(simp at h;done)
    rename_i b m g;simp at h;obtain⟨rfl,rfl⟩:=h;exact s _ _ _ g
  .simp at h
def DG{d:Nat}{xs j:List PV}:∀(c:List Field)(B:Bool)(l:List Prop),eqFields P (Iz P d) xs j c false=some (B,l)->B=false:=by
 intro c;induction c with
 |nil=>intro B l h;simp[eqFields]at h;exact h.1
 |cons f c e=>
  intro B l h;simp only[eqFields]at h;split at h
  .exact e _ _ h
  .split at h<;>try(simp at h;done)
   split at h<;>try(simp at h;done)
   rename_i a k g;obtain rfl:=KF _ _ _ _ _ _ g;split at h<;>try(simp at h;done)
   rename_i b m i;simp at h;obtain⟨rfl,rfl⟩:=h;exact e _ _ i
def FI{d n:Nat}{e:TypeId}{xs g:List PV}:∀(len i:Nat)(B:Bool)(l:List Prop),lV (Iz P d e) n xs g len i false=some (B,l)->B=false:=by
 intro len;induction len with
 |zero=>intro i B l h;simp[lV]at h;exact h.1
 |succ len j=>
  intro i B l h;simp only[lV]at h;split at h<;>try(simp at h;done)
  rename_i a k c;obtain rfl:=KF _ _ _ _ _ _ c;split at h<;>try(simp at h;done)
  rename_i b m f;simp at h;obtain⟨rfl,rfl⟩:=h;exact j _ _ _ f
def uh{w:World}{Z:Array Value}{t o n:Nat}{a:Bool}(c:cZ P t=some a)(g:ck P t=some n)(b:a=false->(Z.extract o (o+n)).size≠0):(part t Z o).run P w = .ok (p3 a (Z.extract o (o+n))) w:=by
 cases a with
 |true=>simp[p3,ug c g]
 |false=>
  have b:=b rfl;have d:o<Z.size:=by simp at b;omega
  have i:n≠0:=by intro f;apply b;rw[Array.size_extract,f];omega
  have e:p3 false (Z.extract o (o+n))=Z[o]:=by
   simp only[p3,jO,if_false];rw[jj,Dj,aF (by omega)]
   simp[d]
  rw[e];exact o0 c (cK d) w
def o1{w:World}{d:Nat->Nat}{Z:Array Value}{c:List PV}(f:Z.size=c.length)(e:∀(i:Nat)v p,Z[i]?=some v->c[i]?=some p->bW d w v p)(o n:Nat):
  (Z.extract o (o+n)).size=((c.drop o).take n).length/\(∀(i:Nat)v p,(Z.extract o (o+n))[i]?=some v->((c.drop o).take n)[i]?=some p->bW d w v p):=by
 refine⟨by simp;omega,fun i v p b a=>?_⟩
 rw[Dj]at b;split at b<;>try(simp at b;done)
 rw[eS]at a;split at a<;>try(simp at a;done)
 rw[jb]at a;exact e _ _ _ b a
def Tb:∀(d:Nat)(t:TypeId)(xs j:List PV)(B:Bool)(l:List Prop),Iz P d t true xs j=some (B,l)->(∀q∈l,q)->∀(D:Nat),d<=D->∀(X Y:Array Value),
  X.size=xs.length->Y.size=j.length->(∀(i:Nat)v p,X[i]?=some v->xs[i]?=some p->bW G.bQ w v p)->(∀(i:Nat)v p,Y[i]?=some v->j[i]?=some p->bW G.bQ w v p)->
  ∃x,cZ P t=some x/\(Op.equalIn D t (p3 x X) (p3 x Y)).run P w = .ok B w:=by
 intro d;induction d with
 |zero=>intro t xs j B l h;simp[Iz]at h
 |succ d ih=>
  intro t xs j B l h T D hD X Y J K M Q;obtain⟨D,rfl⟩:∃m,D=m+1:=⟨D-1,by omega⟩
  have one:∀(Z:Array Value)(S:List PV)(p:PV),S=[p]->Z.size=S.length->(∀(i:Nat)v p,Z[i]?=some v->S[i]?=some p->bW G.bQ w v p)->∃v,Z.getD 0 undef=v/\bW G.bQ w v p:=by
   intro Z S p hz s hr;subst hz;have h0:0<Z.size:=by simp at s;omega
   exact⟨Z[0],by simp[h0],hr 0 _ p (cK h0) rfl⟩
  simp only[Iz]at h;split at h
  .rename_i a b c
   simp at h;obtain⟨rfl,rfl⟩:=h;obtain⟨v,z,H⟩:=one X _ _ rfl J M;obtain⟨u,E,I⟩:=one Y _ _ rfl K Q;cases H;cases I;exact⟨false,by simp[cZ,c],by simp[p3,z,E,run_equalIn_bool' w D t a b c]⟩
  .rename_i kk k a k' b c
   split at h<;>try(simp at h;done)
   rename_i V;subst V;simp at h;obtain⟨rfl,rfl⟩:=h;obtain⟨v,z,H⟩:=one X _ _ rfl J M;obtain⟨u,E,I⟩:=one Y _ _ rfl K Q;cases H;cases I;refine⟨false,by simp[cZ,c],?_⟩
   simp[p3,z,E,Op.equalIn,run_underlying c]
  .rename_i a b c
   simp at h;obtain⟨rfl,rfl⟩:=h;obtain⟨v,z,H⟩:=one X _ _ rfl J M;obtain⟨u,E,I⟩:=one Y _ _ rfl K Q;cases H with
   |str s1=>
   cases I with
   |str s2=>
   refine⟨false,by simp[cZ,c],?_⟩
   have e:(s1==s2)=(s1.data.toList==s2.data.toList):=by
    rw[beq_toListBytes,ByteArray.toList_eq,ByteArray.toList_eq]
   simp only[p3,jO,if_false,z,E,Op.equalIn,Sem.run_bind,run_underlying c,Result.andThen_ok,Sem.run_pure,e]
  .rename_i k ka a kb b c
   split at h<;>try(simp at h;done)
   rename_i V;obtain⟨rfl,rfl⟩:=V;simp only[aw,ax]at h;obtain⟨rfl,rfl⟩:=h;obtain⟨ha,hb⟩:=T _ (cE.2 rfl) (by trivial)
   obtain⟨v,z,H⟩:=one X _ _ rfl J M;obtain⟨u,E,I⟩:=one Y _ _ rfl K Q;refine⟨false,by simp[cZ,c],?_⟩
   cases H with
   |FE=>simp at ha
   |ng _ r1 i1=>
    cases I with
    |FE=>simp at hb
    |ng _ r2 i2=>simp[p3,z,E,Op.equalIn,run_underlying c,YD]
  .rename_i xs j x1 l1 l2 fields c
   split at h<;>try(simp at h;done)
   rename_i a3;refine⟨true,by simp[cZ,c],?_⟩
   have U:=FH c;simp only[p3,if_true];rw[run_equalIn_struct w D t X Y (by rw[U];exact c) a3,U]
   clear U c;generalize fields.toList=fs at h;induction fs generalizing B l with
   |nil=>simp[eqFields]at h;obtain⟨rfl,rfl⟩:=h;simp[Op.eqFields]
   |cons f fs a2=>
    simp only[eqFields]at h;split at h
    .rename_i W
     have a0:f.name = "_" := by simpa using W
     simp only[Op.eqFields,a0,ne_eq,not_true_eq_false,if_false];exact a2 B l T h
    .rename_i W
     have a0:f.name ≠ "_" := by simpa using W
     split at h<;>try(simp at h;done)
     rename_i n s;split at h<;>try(simp at h;done)
     rename_i A lA F;split at h<;>try(simp at h;done)
     rename_i C lC R;simp at h;obtain⟨rfl,rfl⟩:=h;obtain⟨N,rX⟩:=o1 J M f.offset n;obtain⟨O,rY⟩:=o1 K Q f.offset n;obtain⟨x,r,a1⟩:=ih f.type _ _ A lA F (fun q y=>T q (dL _ y)) D (by omega) _ _ N O rX rY
     have L:x=false->((xs.drop f.offset).take n).length≠0/\((j.drop f.offset).take n).length≠0:=fun g=>Oh F (g▸r)
     have pX:=uh (w:=w) (Z:=X) (o:=f.offset) r s (fun g=>by rw[N];exact(L g).1)
     have pY:=uh (w:=w) (Z:=Y) (o:=f.offset) r s (fun g=>by rw[O];exact(L g).2)
     simp only[Op.eqFields,ne_eq,a0,not_false_eq_true,if_true,Sem.run_bind,pX,pY,Result.andThen_ok,a1];cases A with
     |true=>simp only[fh,jO,if_false];exact a2 C lC (fun q y=>T q (eT _ y)) R
     |false=>
      have:C=false:=DG _ _ _ R;subst this;simp
  .rename_i xs j x1 l1 l2 len e c
   split at h<;>try(simp at h;done)
   rename_i n s;refine⟨true,by simp[cZ,c],?_⟩
   simp only[p3,if_true];rw[run_equalIn_array w D t X Y c s];clear c;generalize 0=i at h⊢;induction len generalizing B l i with
   |zero=>simp only[lV,aw,ax]at h;obtain⟨rfl,rfl⟩:=h;simp[Bt]
   |succ len a4=>
    simp only[lV]at h;split at h<;>try(simp at h;done)
    rename_i A lA F;split at h<;>try(simp at h;done)
    rename_i C lC R;simp only[aw,ax]at h;obtain⟨rfl,rfl⟩:=h;obtain⟨N,rX⟩:=o1 J M (i*n) n;obtain⟨O,rY⟩:=o1 K Q (i*n) n;obtain⟨x,r,a1⟩:=ih e _ _ A lA F (fun q y=>T q (dL _ y)) D (by omega) _ _ N O rX rY
    have L:x=false->((xs.drop (i*n)).take n).length≠0/\((j.drop (i*n)).take n).length≠0:=fun g=>Oh F (g▸r)
    have pX:=uh (w:=w) (Z:=X) (o:=i*n) r s (fun g=>by rw[N];exact(L g).1)
    have pY:=uh (w:=w) (Z:=Y) (o:=i*n) r s (fun g=>by rw[O];exact(L g).2)
    simp only[Bt,Sem.run_bind,pX,pY,Result.andThen_ok,a1,Sem.run_ite];cases A with
    |true=>simp only[fh,jO,if_false];exact a4 C lC (fun q y=>T q (eT _ y)) _ R
    |false=>
     have:C=false:=FI _ _ _ _ R;subst this;simp
  .simp at h
def p4(w:World)(d:Nat){t:TypeId}{ms:Array (String×TypeId)}(a:P.underlying t=some (.interface ms)):(Op.equalIn (d+1) t .nilIface .nilIface).run P w = .ok true w:=by
 simp[Op.equalIn,run_underlying a]
def p5(w:World)(d:Nat){t b:TypeId}{v:Value}{ms:Array (String×TypeId)}(a:P.underlying t=some (.interface ms)):(Op.equalIn (d+1) t (.iface b v) .nilIface).run P w = .ok false w:=by
 simp[Op.equalIn,run_underlying a]
def MD{e:Operand->Value}{ρ:Operand->AV}{op:BinOp}{t t':Nat}{x y:Operand}{a:AV}{l:List Prop}(d:aL G ad w (e x) (ρ x))(g:aL G ad w (e y) (ρ y)){an:An}{k:Kd}
  (h:plain P (.binOp op t x y t') an k ρ=some (a,l))(m:∀q∈l,q):Plain P G ad w (do pure (.value (<-(do eqGuard op t x y (e x) (e y);binOp op t (e x) (e y))))) a:=by
 simp only[plain]at h;generalize a3:ρ x=A at d h;generalize a4:ρ y=C at g h;generalize e x=V at d⊢;generalize e y=U at g⊢;have done:∀r:Value,(eqGuard op t x y V U).run P w = .ok () w->(binOp op t V U).run P w = .ok r w->aL G ad w r a->Plain P G ad w (do pure (.value (<-(do eqGuard op t x y V U;binOp op t V U)))) a:=by
  intro r Q T Z;exact .pure (bG _ (by rw[Sem.run_bind,Q];exact T)) Z
 split at h
 .rename_i ka av kb bv
  have u:=d.gh;have v:=g.gh;subst u;subst v;split at h
  .obtain⟨⟨n,s⟩,p,f⟩:=aX.1 h
   simp only[aw,ax]at f;obtain⟨rfl,rfl⟩:=f;exact done _ (jd w) (Br (.inl rfl) p m w) (.mkInt _ _)
  .obtain⟨⟨n,s⟩,p,f⟩:=aX.1 h
   simp only[aw,ax]at f;obtain⟨rfl,rfl⟩:=f;exact done _ (jd w) (Br (.inr rfl) p m w) (.mkInt _ _)
  .rename_i a0 a1
   split at h<;>try(simp at h;done)
   rename_i D;subst D;split at h
   .rename_i B i
    simp at h;obtain⟨rfl,rfl⟩:=h;exact done _ (jd w) (Od i w) (.lB _)
   .rename_i z
    obtain⟨⟨n,s⟩,p,f⟩:=aX.1 h;simp only[aw,ax]at f;obtain⟨rfl,rfl⟩:=f;exact done _ (jd w) (II z p m (fun e=>a0 e) (fun e=>a1 e) w) (.mkInt _ _)
 .obtain⟨s1,rfl,rfl⟩:=d.yg
  obtain⟨s2,rfl,rfl⟩:=g.yg;split at h
  .simp only[aw,ax]at h
   obtain⟨rfl,rfl⟩:=h;exact done _ (pZ w) (Of (m _ (cE.2 rfl)) w) (.mkStr _ _ (by simp))
  .obtain⟨B,i,f⟩:=aX.1 h
   simp only[aw,ax]at f;obtain⟨rfl,rfl⟩:=f;exact done _ (pZ w) (Oe i w) (.lB _)
 .have u:=d.np
  have v:=g.np;subst u;subst v;split at h<;>try(simp at h;done)
  .rename_i j
   simp at h;obtain⟨rfl,rfl⟩:=h;exact done _ (oq w) (by simp[binOp,Op.equal,Op.maxDepth,run_equalIn_bool' w 9999 t _ _ j]) (.lB _)
  .rename_i j
   simp at h;obtain⟨rfl,rfl⟩:=h;exact done _ (oq w) (by simp[binOp,Op.equal,Op.maxDepth,run_equalIn_bool' w 9999 t _ _ j]) (.lB _)
 .obtain⟨f1,rfl⟩:=d.DD
  obtain⟨f2,rfl⟩:=g.DD;split at h<;>try(simp at h;done)
  split at h<;>try(simp at h;done)
  rename_i D;subst D;simp only[aw,ax]at h;obtain⟨rfl,rfl⟩:=h;obtain⟨c,w',S,W⟩:=Og (P:=P) (t:=t) (a:=f1) (b:=f2) w;exact⟨_,w',bG _ (by rw[Sem.run_bind,show(eqGuard .add t x y (.float _ f1) (.float _ f2)).run P w = .ok () w by simp[eqGuard]];exact S),W,.v (.U2 _ c)⟩
 .rename_i xs J
  split at h<;>try(simp at h;done)
  rename_i E N;cases d with
  |@agg X _ R d=>
  cases g with
  |@agg Y _ L g=>
   have K:∀B l,Iz P 20 t true xs J=some (B,l)->(∀q∈l,q)->(Op.equalIn 10000 t (.agg X) (.agg Y)).run P w = .ok B w:=by
    intro B l i O;obtain⟨ag,M,a2⟩:=Tb (P:=P) 20 t xs J B l i O 10000 (by omega) X Y R L d g
    rw[N]at M;obtain rfl:=au M;exact a2
   split at h<;>try(simp at h;done)
   .rename_i B s i
    simp only[aw,ax]at h;obtain⟨rfl,rfl⟩:=h;exact .pure (bG _ (by rw[Sem.run_bind,run_eqGuard_agg w .eql t x y X Y E,Result.andThen_ok,run_eql_struct,K B _ i m];rfl)) (.lB _)
   .rename_i B s i
    simp only[aw,ax]at h;obtain⟨rfl,rfl⟩:=h;exact .pure (bG _ (by rw[Sem.run_bind,run_eqGuard_agg w .neq t x y X Y E,Result.andThen_ok,run_neq_struct,K B _ i m];rfl)) (.lB _)
 .rename_i o
  obtain rfl:U = .nilIface:=by cases g;rfl
  have guard:∀c,y = .const c->(eqGuard op t x y V .nilIface).run P w = .ok () w:=by
   intro c z;subst z;have F:V = .nilIface\/∃t cs,V = .iface t cs:=by
    cases d with
    |qg=>exact .inl rfl
    |Bp I H=>exact .inr ⟨_,_,rfl⟩
   rcases F with rfl|⟨t,cs,rfl⟩<;>cases op<;>simp[eqGuard]
  split at h<;>try(simp at h;done)
  .rename_i c j
   simp only[aw,ax]at h;obtain⟨rfl,rfl⟩:=h;refine done _ (guard _ rfl) ?_ (.lB _);cases d with
   |qg=>simp[binOp,Op.equal,Op.maxDepth,p4 w 9999 j]
   |Bp I H=>simp[binOp,Op.equal,Op.maxDepth,p5 w 9999 j]
  .rename_i c j
   simp only[aw,ax]at h;obtain⟨rfl,rfl⟩:=h;refine done _ (guard _ rfl) ?_ (.lB _);cases d with
   |qg=>simp[binOp,Op.equal,Op.maxDepth,p4 w 9999 j]
   |Bp I H=>simp[binOp,Op.equal,Op.maxDepth,p5 w 9999 j]
 .simp at h
def Oi{e:Operand->Value}{ρ:Operand->AV}{op:UnOp}{t:Nat}{x:Operand}{a:AV}{l:List Prop}(c:aL G ad w (e x) (ρ x)){an:An}{k:Kd}
  (h:plain P (.unOp op t x) an k ρ=some (a,l)):Plain P G ad w (do pure (.value (<-Op.unary op (e x)))) a:=by
 simp only[plain]at h;generalize ρ x=A at c h;generalize e x=V at c⊢;split at h<;>try(simp at h;done)
 .have b:=c.np
  subst b;simp only[aw,ax]at h;obtain⟨rfl,rfl⟩:=h;exact .pure (bG _ (by simp[Op.unary])) (.lB _)
 .have b:=c.gh
  subst b;simp only[aw,ax]at h;obtain⟨rfl,rfl⟩:=h;exact .pure (bG _ (by simp[Op.unary,Op.intArith])) (.mkInt _ _)
 .have b:=c.gh
  subst b;obtain⟨m,f,d⟩:=aX.1 h;simp only[ax]at d;obtain⟨rfl,rfl⟩:=d;exact .pure (bG _ (by simp only[Op.unary];exact oo f w)) (.mkInt _ _)
def yh:∀(al:List (List PV))(l:List UInt8),bytesOf al=some l->∃a:List Int,al=a.map (fun n=>[PV.int .u8 n])/\l=a.map fun n=>UInt8.ofNat n.toNat
 |[],l,h=>by simp[bytesOf]at h;subst h;exact⟨[],rfl,rfl⟩
 |r::d,l,h=>by
  unfold bytesOf at h;split at h
  .simp at*
  .rename_i n f e
   obtain⟨rfl,rfl⟩:=List.cons.inj e;obtain⟨m,c,b⟩:=aX.1 h;obtain⟨a,rfl,rfl⟩:=yh d m c;exact⟨n::a,rfl,b.symm⟩
  .simp at h
def foldl_push(a:List Int):∀(s:ByteArray),a.foldl (fun r n=>r.push (UInt8.ofNat n.toNat)) s=⟨s.data++(a.map fun n=>UInt8.ofNat n.toNat).toArray⟩:=by
 induction a with
 |nil=>intro s;simp
 |cons n a b=>
  intro s;simp only[List.foldl_cons,b,bB];congr 1
  simp[ByteArray.push]
def ME{V:Value}{al:List (List PV)}{l:List UInt8}(g:bW G.bQ w V (.sl 1 al))(t:bytesOf al=some l):
  (Conv.bytesToString V).run P w = .ok (.string ⟨l.toArray⟩) w:=by
 obtain⟨c,rfl,rfl⟩:=yh al l t;generalize s:c.map (fun n=>[PV.int .u8 n])=R at g
 cases g with
 |mw=>
  have:c=[]:=by cases c<;>simp_all
  subst this;simp[Conv.bytesToString];rfl
 |Is a=>
  have:c=[]:=by cases c<;>simp_all
  subst this;have e:=run_loadCells (P:=P) w a 0 (fun _=>.int .u8 0) (fun j o=>by omega)
  rw[run_bytesToString w _ _ _ [] e];rfl
 |sl b off len cap n al u hlen r D z v=>
  subst s;have h:len=c.length:=by rw[<-hlen];simp
  subst h;have x:∀i,i<c.length->w.cell? ⟨b,off+i,none⟩=some (.int .u8 (c.getD i 0)):=by
   intro i d;have p:jI (c.map (fun n=>[PV.int .u8 n])) i 0=some (.int .u8 (c.getD i 0)):=by simp[jI,d]
   obtain⟨q,_⟩:=z i 0 _ p;have f:=v i 0 _ p;cases hpu:u i 0 with
   |int k m=>
    rw[hpu]at f q;cases f;simpa using q
   |_=>rw[hpu]at f;cases f
  have e:=run_loadCells (P:=P) w ⟨b,off,none⟩ c.length (fun i=>.int .u8 (c.getD i 0)) (fun j o=>by rw[nq];exact x j o)
  have y:(List.range c.length).map (fun i=>Value.int .u8 (c.getD i 0))=c.map (Value.int .u8):=by
   apply eR;intro i;by_cases d:i<c.length
   .simp[d]
   .simp[d,ee (Nat.le_of_not_lt d)]
  rw[y]at e;rw[run_bytesToString w _ _ _ c e,foldl_push];congr 2
  simp
def FJ{e:Operand->Value}{ρ:Operand->AV}{s d:Nat}{x:Operand}{a:AV}{l:List Prop}(i:aL G ad w (e x) (ρ x)){an:An}{k:Kd}
  (h:plain P (.convert s d x) an k ρ=some (a,l))(z:∀q∈l,q):Plain P G ad w (do pure (.value (<-convert s d (e x)))) a:=by
 simp only[plain]at h;generalize ρ x=A at i h;generalize e x=V at i⊢;split at h<;>try(simp at h;done)
 .rename_i f c
  have j:=i.gh;subst j;simp only[aw,ax]at h;obtain⟨rfl,rfl⟩:=h;exact .pure (bG _ (by simp[convert,run_underlying f,run_underlying c,Conv.intToInt])) (.mkInt _ _)
 .rename_i f c
  have j:=i.gh;subst j;simp only[aw,ax]at h;obtain⟨rfl,rfl⟩:=h;exact .pure (v:=.float _ _) (bG _ (by simp only[convert,Sem.run_bind,run_underlying f,run_underlying c,Result.andThen_ok,Conv.intToFloat,Sem.run_pure];rfl)) (.v (.U2 _ _))
 .rename_i f c
  split at h<;>try(simp at h;done)
  rename_i al n r;have y:∃g,bytesOf al=some g/\a = .v (.str g):=by
   split at h
   .simp only[aw,ax]at h
    obtain⟨rfl,rfl⟩:=h;exact⟨_,z _ (cE.2 rfl),rfl⟩
   .obtain⟨g,o,t⟩:=aX.1 h
    simp only[ax]at t;obtain⟨rfl,rfl⟩:=t;exact⟨g,o,rfl⟩
  obtain⟨g,o,rfl⟩:=y;have p:=i.al r;refine .pure (bG _ ?_) (.mkStr ⟨g.toArray⟩ g (by simp))
  have m:=ME (P:=P) p o;cases p with
  |mw=>rw[run_convert_bytes_string w s d _ none 0 0 f n c];exact m
  |Is a=>rw[run_convert_bytes_string w s d _ _ 0 0 f n c];exact m
  |sl b off len cap I al u hlen D H J E=>rw[run_convert_bytes_string w s d _ _ len cap f n c];exact m
def yi{e:Operand->Value}{ρ:Operand->AV}{lo l:Option Operand}(H:∀y∈lo,aL G ad w (e y) (ρ y))(D:∀y∈l,aL G ad w (e y) (ρ y)){len cap f a:Nat}{b:Bool}
  (z:plain.bound (lo.map ρ) 0=some (f:Int))(h:plain.bound (l.map ρ) len=some (a:Int))(E:f<=a)(M:a<=len)(X:len<=cap):
  (Instr.sliceBounds b len cap (lo.map e) (l.map e) none).run P w = .ok (f,a,cap) w:=by
 have t:∀(o:Option Operand)(d:Nat)(v:Int),(∀y∈o,aL G ad w (e y) (ρ y))->plain.bound (o.map ρ) d=some v->(o=none/\v=d)\/∃k,o.map e=some (.int k v):=by
  intro o d v r g;cases o with
  |none=>simp[plain.bound]at g;exact .inl ⟨rfl,g.symm⟩
  |some y=>
   right
   simp only[cP,plain.bound]at g;split at g
   .simp at*
   .rename_i kk i u
    simp only[aw]at g u;subst g;have:=r y rfl;rw[u]at this;exact⟨kk,by simp[this.gh]⟩
   .simp at g
 have I:=t lo 0 f H z;have J:=t l len a D h;have j:∀(y:Nat)(k:IntKind)(v:Nat)(c:BoundsCode),v<=y->(Instr.sliceBound (.int k (v:Int)) y c).run P w = .ok v w:=by
  intro y k v c T;have:(v:Int)<=(y:Int):=by omega
  simp[Instr.sliceBound,asIntOf,this]
 rcases I with⟨rfl,Q⟩|⟨s,p⟩<;>rcases J with⟨rfl,K⟩|⟨q,x⟩
 .have m:f=0:=by omega
  have n:a=len:=by omega
  subst m;subst n;simp[Instr.sliceBounds]
 .have m:f=0:=by omega
  subst m;rw[x];simp[Instr.sliceBounds,j cap q a _ (by omega)]
 .have n:a=len:=by omega
  subst n;rw[p];simp[Instr.sliceBounds,j a s f _ (by omega)]
 .rw[p,x]
  simp[Instr.sliceBounds,j cap q a _ (by omega),j a s f _ E]
def ui{al:List (List PV)}{a b i j:Nat}{p:PV}(f:a<=b)(e:b<=al.length)(c:jI ((al.take b).drop a) i j=some p):i<b-a/\jI al (a+i) j=some p:=by
 have get:((al.take b).drop a)[i]?=if i<b-a then al[a+i]? else none:=by
  rw[jb,eS];by_cases d:i<b-a
  .rw[aF d,aF (by omega)]
  .rw[aI d,aI (by omega)]
 unfold jI at c;rw[get]at c;split at c
 .rename_i d;exact⟨d,c⟩
 .simp at c
def MF{e:Operand->Value}{ρ:Operand->AV}{t:Nat}{x:Operand}{lo z R:Option Operand}{a:AV}{l:List Prop}(K:aL G ad w (e x) (ρ x))
  (L:∀y∈lo,aL G ad w (e y) (ρ y))(C:∀y∈z,aL G ad w (e y) (ρ y)){an:An}{k:Kd}
  (h:plain P (.slice t x lo z R) an k ρ=some (a,l))(Z:∀q∈l,q):Plain P G ad w (do pure (.value (<-Instr.sliceAt t (e x) (lo.map e) (z.map e) (R.map e)))) a:=by
 simp only[plain]at h;split at h<;>try(simp at h;done)
 .rename_i e' J
  split at h<;>try(simp at h;done)
  rename_i n I;split at h<;>try(simp at h;done)
  rename_i al a4;split at h<;>try(simp at h;done)
  rename_i W U M D;simp only[aw,ax]at h;obtain⟨rfl,rfl⟩:=h;obtain⟨m,E,T⟩:=Z _ (cE.2 rfl);have X:=K.al a4;generalize e x=V at X⊢;obtain⟨c,rfl⟩:=iq m;obtain⟨d,rfl⟩:=iq (Int.le_trans m E);have o:c<=d:=by omega
  have g:d<=al.length:=by omega
  have run:∀(A:Option Addr)(cap:Nat),al.length<=cap->(Instr.sliceAt t (.slice A al.length cap) (lo.map e) (z.map e) none).run P w = .ok (.slice (if cap=c then A else A.map (·.add (c*n))) (d-c) (cap-c)) w:=by
   intro A cap a2;have H:=yi (P:=P) (b:=true) L C M D o g a2;simp[Instr.sliceAt,Instr.slice,run_underlying J,H,dA I]
  simp only[tR,qm];cases X with
  |mw=>
   have r0:=run none 0 (by simp)
   refine .pure (bG _ r0) (.v ?_);have:d=0:=by simpa using g
   subst this;have:c=0:=by omega
   subst this;exact .mw _
  |Is A=>
   have r0:=run (some A) 0 (by simp)
   refine .pure (bG _ r0) (.v ?_);have:d=0:=by simpa using g
   subst this;have:c=0:=by omega
   subst this;exact .Is _ _
  |sl b off len cap n al u hlen N F a3 S=>
   subst hlen;have r0:=run (some ⟨b,off,none⟩) cap N;refine .pure (bG _ r0) (.v ?_);have Y:((al.take d).drop c).length=d-c:=by simp;omega
   by_cases B:cap=c
   .rw[aF B]
    refine .sl b off _ _ n _ (fun _ _=>undef) Y (by omega) (fun r Q=>F r ?_) (fun i j p f=>?_) fun i j p f=>?_
    .exact xE (tV Q)
    .have:=(ui o g f).1;omega
    .have:=(ui o g f).1;omega
   .rw[aI B]
    simp only[cP,nq];refine .sl b (off+c*n) _ _ n _ (fun i j=>u (c+i) j) Y (by omega) (fun r Q=>F r ?_) (fun i j p f=>?_) fun i j p f=>S _ _ _ (ui o g f).2
    .exact xE (tV Q)
    .obtain⟨a5,a1⟩:=ui o g f
     have:=a3 _ _ _ a1;have O:off+c*n+i*n+j=off+(c+i)*n+j:=by rw[bY];omega
     rw[O];exact this
 .rename_i J
  split at h<;>try(simp at h;done)
  rename_i s I;split at h<;>try(simp at h;done)
  rename_i W U M D;simp only[aw,ax]at h;obtain⟨rfl,rfl⟩:=h;obtain⟨m,E,T⟩:=Z _ (cE.2 rfl);rw[I]at K;obtain⟨b,H,rfl⟩:=K.yg;rw[H];obtain⟨c,rfl⟩:=iq m;obtain⟨d,rfl⟩:=iq (Int.le_trans m E);have hlen:b.data.toList.length=b.size:=by cases b;rfl
  rw[hlen]at D T;have a0:=yi (P:=P) (b:=false) (cap:=b.size) L C M D (by omega) (by omega) (ar _)
  simp only[tR,qm];refine .pure (v:=.string (b.extract c d)) (bG _ ?_) (.mkStr _ _ ?_)
  .simp[Instr.sliceAt,Instr.slice,run_underlying J,a0]
  .simp[ByteArray.data_extract,List.drop_take]
def Tc{e:Operand->Value}{ρ:Operand->AV}{o:Oper}{args:Array Operand}{d:Array TypeId}{a:AV}{l:List Prop}(E:∀x∈args.toList,aL G ad w (e x) (ρ x))
  (H:o.op = .call {callee:=.builtin .len,args:=args,argTypes:=d}){an:An}{k:Kd}
  (h:plain P (.call {callee:=.builtin .len,args:=args,argTypes:=d}) an k ρ=some (a,l)):Plain P G ad w (execOp e o) a:=by
 simp only[plain]at h;split at h<;>try(simp at h;done)
 rename_i x t i r;have f:=E x (by rw[i];simp)
 have q:args = #[x]:=by rw[<-mr,i]
 have y:d = #[t]:=by rw[<-mr,r]
 subst q;subst y;have run:∀v,(Builtin.len_ #[t] o.type #[e x]).run P w = .ok v w->(execOp e o).run P w = .ok (.value v) w:=by
  intro v D;simp[execOp,H,resolve,invoke,builtin,D]
 split at h
 .rename_i c
  split at h<;>try(simp at h;done)
  rename_i n p;obtain⟨al,m,j⟩:=aX.1 h;simp only[ax]at j;obtain⟨rfl,rfl⟩:=j;have g:=f.al m;refine .pure (run _ ?_) (.mkInt .i64 al.length);generalize e x=V at g;cases g with
  |mw=>simp[Builtin.len_,run_underlying c,goInt]
  |Is a=>simp[Builtin.len_,run_underlying c,goInt]
  |sl b off len cap M al u hlen J m Q K=>simp[Builtin.len_,run_underlying c,goInt,hlen]
 .rename_i n I c
  simp only[aw,ax]at h;obtain⟨rfl,rfl⟩:=h;exact .pure (run _ (by simp[Builtin.len_,run_underlying c,goInt])) (.mkInt .i64 n)
 .rename_i s c p
  simp only[aw,ax]at h;obtain⟨rfl,rfl⟩:=h;rw[p]at f;obtain⟨b,z,rfl⟩:=f.yg;exact .pure (run _ (by simp[Builtin.len_,run_underlying c,goInt,z])) (.mkInt .i64 _)
 .simp at h
def IJ{args:Array Operand}{ρ:Operand->AV}{a:AV}(h:args.toList.map ρ=[a]):∃x,args = #[x]/\ρ x=a:=by
 rcases hl:args.toList with _|⟨x,_|⟨y,l⟩⟩<;>rw[hl]at h<;>simp at h
 exact⟨x,by rw[<-mr,hl],h⟩
def DH{args:Array Operand}{ρ:Operand->AV}{a b:AV}(h:args.toList.map ρ=[a,b]):∃x y,args = #[x,y]/\ρ x=a/\ρ y=b:=by
 rcases hl:args.toList with _|⟨x,_|⟨y,_|⟨z,l⟩⟩⟩<;>rw[hl]at h<;>simp at h
 exact⟨x,y,by rw[<-mr,hl],h.1,h.2⟩
def Td(c:Array TypeId)(t:TypeId)(k:FloatKind)(a b:Nat):Builtin.real_ c t #[.complex k a b]=pure (.float k a):=rfl
def Te(c:Array TypeId)(t:TypeId)(k:FloatKind)(b a:Nat):Builtin.imag_ c t #[.complex k b a]=pure (.float k a):=rfl
def IK(c:Array TypeId)(t:TypeId)(k:FloatKind)(b a:Nat):Builtin.complex_ c t #[.float k b,.float k a]=pure (.complex k b a):=by
 show(if k=k then pure (.complex k b a)else stuck "complex: parts of different kinds" : Sem Value)=_
 rw[aF rfl]
def FK{e:Operand->Value}{ρ:Operand->AV}{o:Oper}{f:Builtin}{args:Array Operand}{r:Array TypeId}{a:AV}{l:List Prop}(c:∀x∈args.toList,aL G ad w (e x) (ρ x))
  (j:o.op = .call {callee:=.builtin f,args:=args,argTypes:=r}){an:An}{k:Kd}
  (h:plain P (.call {callee:=.builtin f,args:=args,argTypes:=r}) an k ρ=some (a,l))(Q:∀q∈l,q):Plain P G ad w (execOp e o) a:=by
 cases f<;>try(simp[plain]at h;done)
 case len=>exact Tc c j h
 case real=>
  simp only[plain]at h;split at h<;>try(simp at h;done)
  rename_i kk J b;simp only[aw,ax]at h;obtain⟨rfl,rfl⟩:=h;obtain⟨x,rfl,d⟩:=IJ b;have:=c x (by simp)
  rw[d]at this;obtain⟨z,t,p⟩:=this.KE;exact .pure (v:=.float kk z) (by simp[execOp,j,resolve,invoke,builtin,Td,p]) (.v (.U2 _ _))
 case imag=>
  simp only[plain]at h;split at h<;>try(simp at h;done)
  rename_i kk J b;simp only[aw,ax]at h;obtain⟨rfl,rfl⟩:=h;obtain⟨x,rfl,d⟩:=IJ b;have:=c x (by simp)
  rw[d]at this;obtain⟨z,t,p⟩:=this.KE;exact .pure (v:=.float kk t) (by simp[execOp,j,resolve,invoke,builtin,Te,p]) (.v (.U2 _ _))
 case complex=>
  simp only[plain]at h;split at h<;>try(simp at h;done)
  rename_i s u b;split at h<;>try(simp at h;done)
  rename_i m;subst m;simp only[aw,ax]at h;obtain⟨rfl,rfl⟩:=h;obtain⟨x,y,rfl,d,n⟩:=DH b;have g:=c x (by simp)
  have i:=c y (by simp)
  rw[d]at g;rw[n]at i;obtain⟨H,K⟩:=g.DD;obtain⟨I,M⟩:=i.DD;exact .pure (v:=.complex s H I) (by simp[execOp,j,resolve,invoke,builtin,IK,K,M]) (.v (.FE _ _ _))
 case max=>
  simp only[plain]at h;split at h<;>try(simp at h;done)
  rename_i s D u E b;split at h<;>try(simp at h;done)
  rename_i m;subst m;simp only[aw,ax]at h;obtain⟨rfl,rfl⟩:=h;obtain⟨x,y,rfl,d,n⟩:=DH b;have g:=c x (by simp)
  have i:=c y (by simp)
  rw[d]at g;rw[n]at i;exact .pure (by simp[execOp,j,resolve,invoke,builtin,Builtin.max_,Builtin.max2,g.gh,i.gh]) (.mkInt _ _)
 case min=>
  simp only[plain]at h;split at h<;>try(simp at h;done)
  rename_i s D u E b;split at h<;>try(simp at h;done)
  rename_i m;subst m;simp only[aw,ax]at h;obtain⟨rfl,rfl⟩:=h;obtain⟨x,y,rfl,d,n⟩:=DH b;have g:=c x (by simp)
  have i:=c y (by simp)
  rw[d]at g;rw[n]at i;exact .pure (by simp[execOp,j,resolve,invoke,builtin,Builtin.min_,Builtin.min2,g.gh,i.gh]) (.mkInt _ _)
def lW(a:Nat->Nat)(w:World)(X:Array Value)(ps:List PV):Prop:=X.size=ps.length/\∀(i:Nat)v p,X[i]?=some v->ps[i]?=some p->bW a w v p
def ns(G:Gh)(ad:List (Option Nat))(w:World)(X:Array Value)(cs:List AV):Prop:=
 X.size=cs.length/\∀(i:Nat)v a,X[i]?=some v->cs[i]?=some a->v.oneCell'=true/\aL G ad w v a
def FL{v:Value}{p:PV}(h:S8 v=some p)(a:Nat->Nat)(w:World):bW a w v p:=by
 unfold S8 at h;split at h<;>simp at h<;>subst h
 .exact .bool _
 .exact .int _ _
 .exact .str _
 .exact .ng _ _ _
 .exact .nil
def Bu:∀(d:List Value)(ps:List PV),FA d=some ps->∀(a:Nat->Nat)(w:World),lW a w d.toArray ps
 |[],ps,h,a,w=>by simp[FA]at h;subst h;exact⟨rfl,by simp⟩
 |v::d,ps,h,a,w=>by
  unfold FA at h;split at h<;>try(simp at h;done)
  rename_i p k g j;simp at h;subst h;obtain⟨e,f⟩:=Bu d k j a w;refine⟨by simpa using e,fun i u q c b=>?_⟩
  cases i with
  |zero=>simp at c b;subst c;subst b;exact FL g a w
  |succ i=>simp at c b;exact f i u q (by simpa using c) b
def la(v:Value)(G:Gh)(ad:List (Option Nat))(w:World):aL G ad w v (lU v):=by
 unfold lU;split
 .split
  .rename_i h
   have:=Bu _ _ h G.bQ w;exact .agg (by simpa using this.1) fun i v p a b=>this.2 i v p (by simpa using a) b
  .exact .none _
 .exact .qg
 .split
  .exact .v (FL (by assumption) _ _)
  .exact .none _
def DI{v:Value}(h:v.oneCell'=true):(lU v).wH=true:=by
 unfold lU;split
 .simp[Value.oneCell']at h
 .rfl
 .split<;>rfl
def yj{t:TypeId}{z:List AV}(h:Ds P t=some z):∃v,(∀w,(zeroValue t).run P w = .ok v w)/\z.all AV.wH=true/\∀G ad w,ns G ad w v.cells z:=by
 unfold Ds at h;obtain⟨v,g,h⟩:=cI.1 h;split at h<;>try(simp at h;done)
 rename_i l;simp only[aw]at h;subst h;obtain⟨i,f,k⟩:=cI.1 g;have c:∀x∈v.cells.toList,x.oneCell'=true:=bf.1 l;refine⟨v,fun w=>by simp[zeroValue,typeInfo,f,k],?_,fun G ad w=>⟨by simp,fun j u a e d=>?_⟩⟩
 .simp only[List.all_map,bf]
  exact fun x b=>DI (c x b)
 .simp only[bp]at d
  obtain⟨x,b,rfl⟩:=aX.1 d;have:x=u:=by rw[gR]at b;rw[b]at e;exact(au e)
  subst this;exact⟨c x (aK b),la _ _ _ _⟩
def Bv{t:TypeId}{z:AV}(h:qo P t=some z):∃v,(∀w,(zeroValue t).run P w = .ok v w)/\z=lU v:=by
 unfold qo at h;obtain⟨v,b,rfl⟩:=aX.1 h;obtain⟨i,a,c⟩:=cI.1 b;exact⟨v,fun w=>by simp[zeroValue,typeInfo,a,c],rfl⟩
def lW.one{c:Nat->Nat}{v:Value}{p:PV}(h:bW c w v p):lW c w v.cells [p]:=by
 rw[h.cells];refine⟨rfl,fun i u q b a=>?_⟩
 cases i with
 |zero=>simp at b a;subst b;subst a;exact h
 |succ i=>simp at a
def aL.bits{v:Value}{a:AV}{r:List PV}(h:aL G ad w v a)(b:a.bits=some r):lW G.bQ w v.cells r:=by
 cases h with
 |agg c h=>simp[AV.bits]at b;subst b;exact⟨c,h⟩
 |v h=>simp[AV.bits,AV.pv]at b;subst b;exact .one h
 |own e f h d=>simp[AV.bits,AV.pv]at b;subst b;exact .one h
 |_=>simp[AV.bits,AV.pv]at b
def yk:∀(a:List CT)(ps:List PV)(i:Nat)(q:PV),(kt a ps)[i]?=some q->∃p c,ps[i]?=some p/\(q=p\/q=CT.norm c p)
 |[],ps,i,q,h=>⟨q,.other,by simpa[kt]using h,.inl rfl⟩
 |c::a,[],i,q,h=>by simp[kt]at h
 |c::a,p::ps,0,q,h=>by simp[kt]at h;exact⟨p,c,rfl,.inr h.symm⟩
 |c::a,p::ps,i+1,q,h=>by simp only[kt,rO]at h⊢; exact yk a ps i q h
def sI:∀(a:List CT)(ps:List PV),(kt a ps).length=ps.length
 |[],ps=>by simp[kt]
 |c::a,[]=>rfl
 |c::a,p::ps=>by simp[kt,sI]
def lW.norm{d:Nat->Nat}{X:Array Value}{ps:List PV}(f:List CT)(h:lW d w X ps):lW d w X (kt f ps):=by
 refine⟨by rw[sI];exact h.1,fun i v q b e=>?_⟩
 obtain⟨p,c,a,rfl|rfl⟩:=yk _ _ _ _ e
 .exact h.2 _ _ _ b a
 .exact(h.2 _ _ _ b a).norm c
def aL.row{t:TypeId}{v:Value}{a:AV}{r:List PV}(h:aL G ad w v a)(b:rowOf P t a=some r):lW G.bQ w v.cells r:=by
 unfold rowOf at b;obtain⟨ps,c,rfl⟩:=aX.1 b;exact(h.bits c).norm _
def aL.norm{t:TypeId}{v:Value}{a:AV}(h:aL G ad w v a):aL G ad w v (yb P t a):=by
 unfold yb;split
 .cases h with
  |v h=>split<;>first|exact .v (h.norm _)|exact .v h
 .cases h with
  |agg b h=>
   have:=lW.norm (jQ P t) (⟨b,h⟩:lW G.bQ w _ _);exact .agg this.1 this.2
 .exact h
def gG{α:Type}:∀(xs:List α)(l:List α)(off k:Nat),off+xs.length<=l.length->(putAt l off xs)[k]?=if off<=k/\k<off+xs.length then xs[k-off]? else l[k]?
 |[],l,off,k,h=>by rw[aI (by simp only[cO];omega)];rfl
 |x::xs,l,off,k,h=>by
  simp only[aC]at h;rw[putAt,gG xs (l.set off x) (off+1) k (by simp;omega)]
  by_cases a:off+1<=k/\k<off+1+xs.length
  .rw[aF a,aF ⟨by omega,by simp only[aC];omega⟩]
   have:k-off=(k-(off+1))+1:=by omega
   rw[this,rO]
  .rw[aI a]
   by_cases b:k=off
   .subst b
    rw[aF ⟨ar _,by simp only[aC];omega⟩,bN (by omega),kZ,xI]
   .rw[aI (by simp only[aC];omega),bM (by omega)]
def iw{α:Type}:∀(xs:List α)(l:List α)(off:Nat),(putAt l off xs).length=l.length
 |[],l,off=>rfl
 |x::xs,l,off=>by rw[putAt,iw xs];simp
def foldl_set(X:Array Value)(off:Nat):∀(l:List Value)(i:Nat),((l.zipIdx i).foldl (fun cs(c,j)=>cs.setIfInBounds (off+j) c) X).size=X.size /\
  ∀k,((l.zipIdx i).foldl (fun cs(c,j)=>cs.setIfInBounds (off+j) c) X)[k]?=if off+i<=k/\k<off+i+l.length/\k<X.size then l[k-(off+i)]? else X[k]?:=by
 intro l;induction l generalizing X with
 |nil=>intro i;refine⟨rfl,fun k=>?_⟩;rw[aI (by simp;omega)];rfl
 |cons x l g=>
  intro i;simp only[List.zipIdx_cons,List.foldl_cons];obtain⟨e,f⟩:=g (X.setIfInBounds (off+i) x) (i+1);refine⟨by rw[e];simp,fun k=>?_⟩
  rw[f];simp only[Array.size_setIfInBounds,aC];by_cases a:off+(i+1)<=k/\k<off+(i+1)+l.length/\k<X.size
  .rw[aF a,aF ⟨by omega,by omega,a.2.2⟩]
   have:k-(off+i)=(k-(off+(i+1)))+1:=by omega
   rw[this,rO]
  .rw[aI a,Array.getElem?_setIfInBounds]
   by_cases d:off+i=k
   .subst d
    by_cases b:off+i<X.size
    .rw[aF rfl,aF b,aF ⟨by omega,by omega,b⟩];simp
    .rw[aF rfl,aI b,aI (by omega)]
     exact(rN (by omega)).symm
   .rw[aI d,aI (by omega)]
def ns.put{X C:Array Value}{ps r:List AV}{off:Nat}(h:ns G ad w X ps)(l:ns G ad w C r)(m:off+r.length<=ps.length):
  ns G ad w (C.zipIdx.foldl (fun cs(c,j)=>cs.setIfInBounds (off+j) c) X) (putAt ps off r):=by
 obtain⟨g,k⟩:=h;obtain⟨n,f⟩:=l;have e:C.zipIdx.foldl (fun cs(c,j)=>cs.setIfInBounds (off+j) c) X=(C.toList.zipIdx 0).foldl (fun cs(c,j)=>cs.setIfInBounds (off+j) c) X:=by
  rw[<-Array.foldl_toList];simp
 rw[e];obtain⟨f1,f2⟩:=foldl_set X off C.toList 0;refine⟨by rw[f1,iw,g],fun i v p a b=>?_⟩
 rw[f2]at a;rw[gG r ps off i m]at b;simp only[hE,lS]at a;by_cases d:off<=i/\i<off+r.length
 .rw[aF d]at b
  rw[aF ⟨d.1,by omega,by omega⟩]at a
  exact f _ _ _ (by simpa using a) b
 .rw[aI d]at b
  rw[aI (by omega)]at a
  exact k _ _ _ a b
def aL.soft{v:Value}{a:AV}(h:aL G ad w v a):aL G ad w v a.soft:=by
 cases h with
 |own o p h n=>exact .v h
 |none v=>exact .none _
 |v h=>exact .v h
 |agg e h=>exact .agg e h
 |Dr e c d h=>exact .Dr e c d h
 |aA b h=>exact .aA b h
 |iS b c h=>exact .iS b c h
 |fK b c h=>exact .fK b c h
 |kr u k l=>exact .kr u k l
 |bo b d=>exact .bo b d
 |mp b d=>exact .mp b d
 |fn f g i j=>exact .fn f g i j
 |xg f g=>exact .xg f g
 |qg=>exact .qg
 |Bp e h=>exact .Bp e h
 |opt h m=>exact .opt h m
def aL.IL{v:Value}{a:AV}(h:aL G ad w v a)(g:a.cells.all AV.inner=true):ns G ad w v.cells a.cells:=by
 have one:∀{v:Value}{a:AV},aL G ad w v a->v.oneCell'=true->ns G ad w v.cells [a]:=by
  intro v a h b;rw[nP b];refine⟨rfl,fun i u q d c=>?_⟩
  cases i with
  |zero=>simp at d c;subst d;subst c;exact⟨b,h⟩
  |succ i=>simp at c
 cases h with
 |none v=>simp[AV.cells,AV.inner]at g
 |v h=>exact one (.v h) h.fM
 |agg f h=>
  refine⟨by simp[Value.cells,AV.cells,f],fun i u q d c=>?_⟩
  simp only[AV.cells,bp]at c;obtain⟨p,j,rfl⟩:=aX.1 c;have:=h i u p (by simpa[Value.cells]using d) j
  exact⟨this.fM,.v this⟩
 |Dr f k b h=>exact⟨f,fun i u q d c=>⟨b i u (by simpa[Value.cells]using d),h i u q (by simpa[Value.cells]using d) c⟩⟩
 |aA e h=>exact one (.aA e h) rfl
 |bo e b=>exact one (.bo e b) b
 |mp e b=>exact one (.mp e b) b
 |_=>simp[AV.cells,AV.inner]at g
def FM{a:AV}(h:a.inner=true):a.wH=true:=by cases a<;>simp[AV.inner]at h<;>rfl
def Bw{α:Type}{x:α}:∀(xs:List α)(l:List α)(off:Nat),x∈putAt l off xs->x∈l\/x∈xs
 |[],l,off,h=>.inl h
 |y::xs,l,off,h=>by
  rw[putAt]at h;rcases Bw xs _ _ h with h|h
  .rcases tX h with h|h
   .exact .inl h
   .exact .inr (by simp[h])
  .exact .inr (aP _ h)
def FN{place:Nat->Option (Nat×Nat)}{e:Operand->Value}{ρ:Operand->AV}:∀(ps:List (Nat×Operand))(X:Array Value)(cs a:List AV),
  jz place ρ ps cs=some a->ns G ad w X cs->cs.all AV.wH=true->(∀p∈ps,aL G ad w (e p.2) (ρ p.2))->∃c,Instr.fill place X (ps.map fun p=>(p.1,e p.2))=some c/\ns G ad w c a/\a.all AV.wH=true
 |[],X,cs,a,h,d,f,_=>by simp[jz]at h;subst h;exact⟨X,rfl,d,f⟩
 |(i,x)::ps,X,cs,a,h,d,f,m=>by
  unfold jz at h;split at h<;>try(simp at h;done)
  rename_i off size z;split at h<;>try(simp at h;done)
  rename_i o;simp only[bU,beq_iff_eq,fm]at o;obtain⟨⟨u,r⟩,k⟩:=o;have l:=(m (i,x) (by simp)).soft.IL k
  have g:=d.put (off:=off) l (show off+(ρ x).soft.cells.length<=cs.length by omega)
  have v:(putAt cs off (ρ x).soft.cells).all AV.wH=true:=by
   rw[bf]at f k⊢;intro y b;rcases Bw _ _ _ b with b|b
   .exact f y b
   .exact FM (k y b)
  obtain⟨c,q,s,t⟩:=FN ps _ _ a h g v (fun p g=>m p (aP _ g))
  refine⟨c,?_,s,t⟩;have j:(e x).cells.size=size:=by rw[l.1,u]
  have n:¬(off+(e x).cells.size>X.size):=by rw[j,d.1];omega
  simp only[bB,Instr.fill,z,j,ne_eq,not_true_eq_false,decide_false,mj,fm];rw[j]at n;rw[aI n];exact q
def sS:∀(cs:List AV)(ps:List PV),rP cs=some ps->cs=ps.map .v
 |[],ps,h=>by simp[rP]at h;subst h;rfl
 |a::cs,ps,h=>by
  cases a<;>simp only[rP]at h<;>try(simp at h;done)
  obtain⟨c,b,rfl⟩:=aX.1 h;simp[<-sS cs c b]
def ns.Bo{X:Array Value}{cs:List AV}(h:ns G ad w X cs)(e:cs.all AV.wH=true):aL G ad w (.agg X) (Bo cs):=by
 unfold Go.Ac.Bo;split
 .rename_i ps c
  obtain rfl:=sS _ _ c;refine .agg (by simpa using h.1) fun i v p b c=>?_
  have:=(h.2 i v (.v p) b (by simp[c])).2
  cases this with|v h=>exact h
 .exact .Dr h.1 (bf.1 e) (fun i v b=>by
   have f:i<cs.length:=by rw[<-h.1];exact(gK.1 b).1
   exact(h.2 i v _ b (bk f)).1) fun i v a b d=>(h.2 i v a b d).2
def xj{fields:Array Field}(h:fields.toList.all (fun f:Field=>(ck P f.type).isSome)=true)(w:World):
  ∃places:Array (Nat×Nat),(fields.mapM fun f:Field=>(do pure (f.offset,<-sizeOf f.type):Sem (Nat×Nat))).run P w = .ok places w /\
   ∀i:Nat,places[i]?=(match fields[i]? with|some f=>(ck P f.type).map fun n=>(f.offset,n)|none=>none):=by
 have key:∀(l:List Field),l.all (fun f=>(ck P f.type).isSome)=true->∃ps:List (Nat×Nat),(l.mapM fun f:Field=>(do pure (f.offset,<-sizeOf f.type):Sem (Nat×Nat))).run P w = .ok ps w /\
   ∀i:Nat,ps[i]?=(match l[i]? with|some f=>(ck P f.type).map fun n=>(f.offset,n)|none=>none):=by
  intro l;induction l with
  |nil=>intro _;exact⟨[],by simp,by simp⟩
  |cons f l e=>
   intro c;simp only[bE,bU]at c;obtain⟨ps,a,b⟩:=e c.2;obtain⟨n,d⟩:=lT.1 c.1;refine⟨(f.offset,n)::ps,by simp only[List.mapM_cons,Sem.run_bind,dA d,Result.andThen_ok,Sem.run_pure,a],fun i=>?_⟩
   cases i with
   |zero=>simp[d]
   |succ i=>simpa using b i
 obtain⟨ps,a,b⟩:=key fields.toList h;refine⟨ps.toArray,?_,fun i=>by simpa using b i⟩
 rw[Array.mapM_eq_mapM_toList,Sem.run_map,a];rfl
def MG{e:Operand->Value}{ρ:Operand->AV}{t:Nat}{aV:Array (Nat×Operand)}{a:AV}{l:List Prop}(J:∀p∈aV.toList,aL G ad w (e p.2) (ρ p.2)){an:An}{k:Kd}
  (h:plain P (.build t aV) an k ρ=some (a,l)):Plain P G ad w (do pure (.value (<-Instr.build t (aV.map fun(i,x)=>(i,e x))))) a:=by
 simp only[plain]at h;split at h<;>try(simp at h;done)
 rename_i z pl K b;obtain⟨M,D,g⟩:=aX.1 h;simp only[ax]at g;obtain⟨rfl,rfl⟩:=g;obtain⟨o,y,T,r⟩:=yj K;obtain⟨c,j,q,s⟩:=FN (e:=e) aV.toList o.cells z M D (r _ _ _) T J;have u:(aV.map fun(i,x)=>(i,e x)).toList=aV.toList.map fun p=>(p.1,e p.2):=by simp
 unfold placesOf at b;split at b
 .rename_i fields d
  split at b<;>try(simp at b;done)
  rename_i X;simp only[aw]at b;subst b;obtain⟨places,E,H⟩:=xj X w;have Y:(fun i:Nat=>places[i]?)=(fun i:Nat=>match fields[i]? with|some f=>(ck P f.type).map fun n=>(f.offset,n)|none=>none):=funext H
  have Q:Instr.fill (fun i:Nat=>places[i]?) o.cells (aV.toList.map fun p=>(p.1,e p.2))=some c:=by rw[Y];exact j
  refine .pure (bG (v:=.agg c) _ ?_) (q.Bo s);simp only[Instr.build,Sem.run_bind,y,Result.andThen_ok,run_underlying d,E,u,Q];rfl
 .rename_i n elem d
  obtain⟨m,I,rfl⟩:=aX.1 b;refine .pure (bG (v:=.agg c) _ ?_) (q.Bo s);simp only[Instr.build,Sem.run_bind,y,Result.andThen_ok,run_underlying d,dA I,u,j];rfl
 .simp at b
def uj{e:Operand->Value}{ρ:Operand->AV}{t:Nat}{x:Operand}{a:AV}{l:List Prop}(f:aL G ad w (e x) (ρ x)){an:An}{k:Kd}
  (h:plain P (.makeInterface t x) an k ρ=some (a,l)):Plain P G ad w (do pure (.value (<-Instr.makeInterface t (e x)))) a:=by
 simp only[plain]at h;have run:∀d,P.underlying t=some d->(∀ms,d≠.interface ms)->(Instr.makeInterface t (e x)).run P w = .ok (.iface t (e x)) w:=by
  intro d b g;cases d<;>first|(exact absurd rfl (g _))|simp[Instr.makeInterface,run_underlying b]
 split at h<;>try(simp at h;done)
 .rename_i c
  split at h<;>try(simp at h;done)
  rename_i cs j;simp only[aw,ax]at h;obtain⟨rfl,rfl⟩:=h;refine .pure (bG _ (run _ c (by simp))) ?_
  rw[j]at f;generalize e x=V at f;cases f with
  |agg i h=>exact .Bp i h
 .rename_i d m n c
  simp only[aw,ax]at h;obtain⟨rfl,rfl⟩:=h;exact .pure (bG _ (run _ c (fun ms b=>m ms b))) (.none _)
def yl{e:Operand->Value}{ρ:Operand->AV}{y t:Nat}{ok:Bool}{x:Operand}{a:AV}{l:List Prop}(m:aL G ad w (e x) (ρ x)){an:An}{k:Kd}
  (h:plain P (.typeAssert x y t ok) an k ρ=some (a,l))(u:∀q∈l,q):Plain P G ad w (do pure (.value (<-Instr.typeAssert (e x) y t ok))) a:=by
 cases k<;>simp only[plain]at h<;>try(simp at h;done)
 rename_i o;generalize ρ x=A at m h;generalize e x=V at m⊢;split at h<;>try(simp at h;done)
 .rename_i i H g
  split at h<;>try(simp at h;done)
  .rename_i cs
   simp only[aw,ax]at h;obtain⟨rfl,rfl⟩:=h;have f:i=some (t,cs):=u _ (by simp)
   subst f;cases m with
   |@Bp _ s _ p n=>
    refine .pure (v:=.tuple #[.agg s,.bool true]) (bG _ ?_) (.xg rfl fun j v b d c=>?_)
    .simp[Instr.typeAssert,run_underlying g]
    .match j with
     |0=>simp at d c;subst d;subst c;exact .agg p n
     |1=>simp at d c;subst d;subst c;exact .lB _
     |j+2=>simp at c
  .rename_i z J
   simp only[aw,ax]at h;obtain⟨rfl,rfl⟩:=h;have f:∀cs,i≠some (t,cs):=u _ (by simp)
   obtain⟨r,D,M⟩:=Bv J;have E:=la r G ad w;rw[<-M]at E;refine .pure (v:=.tuple #[r,.bool false]) (bG _ ?_) (.xg rfl fun j v b d c=>?_)
   .cases m with
    |qg=>simp[Instr.typeAssert,run_underlying g,D]
    |@Bp K s ps p n=>
     have:K≠t:=fun I=>f ps (by rw[I])
     simp[Instr.typeAssert,run_underlying g,D,this]
   .match j with
    |0=>simp at d c;subst d;subst c;exact E
    |1=>simp at d c;subst d;subst c;exact .lB _
    |j+2=>simp at c
 .rename_i i H g
  split at h<;>try(simp at h;done)
  rename_i cs;simp only[aw,ax]at h;obtain⟨rfl,rfl⟩:=h;have f:i=some (t,cs):=u _ (by simp)
  subst f;cases m with
  |@Bp _ s _ p n=>exact .pure (v:=.agg s) (bG _ (by simp[Instr.typeAssert,run_underlying g])) (.agg p n)
end
section
variable {P:Program} {w0:World} {aJ:Nat->Nat} {O:Nat->Prop} {G:Gh} {ad:List (Option Nat)} {heap:List Bx} {w:World}
def Hd.on(b:Nat):Hd->Prop
 |.box b'=>b'=b
 |.cell b' _=>b'=b
 |.nO b' _=>b'=b
 |.tok _=>False
def cb.low{a:Gh}{br:List (Option Nat)}{w':World}(k:cb G ad w a br w'):cb G [] w a [] w':=
 ⟨k.grow,k.bz,k.val,ar _,fun t n h _=>by simp at h⟩
def ej.bA{b:Gh}{w':World}{x:Hd}{v:Value}{a:AV}(h:ej G w x v a)(k:cb G [] w b [] w')
  (d:∀n,G.h x=some n->b.h x=some n/\b.bQ n=G.bQ n/\w'.heap[n]?=w.heap[n]?):ej b w' x v a:=by
 refine⟨h.1,?_⟩;have c:=h.2;cases a with
 |jH n al=>
  obtain⟨A,len,cap,e,f,g⟩:=c;exact⟨A,len,cap,e,f.grow k.grow,g.bA d⟩
 |_=>exact aL.bA k c
def l9{x:Hd}{v:Value}{a:AV}(h:∀ps,a≠.agg ps):om G w x v a<->ej G w x v a:=by
 cases a<;>first|exact absurd rfl (h _)|exact Iff.rfl
def om.bA{b:Gh}{w':World}{x:Hd}{v:Value}{a:AV}(h:om G w x v a)(k:cb G [] w b [] w')
  (e:∀n,G.h x=some n->b.h x=some n/\b.bQ n=G.bQ n/\w'.heap[n]?=w.heap[n]?):om b w' x v a:=by
 by_cases c:∃ps,a = .agg ps
 .obtain⟨ps,rfl⟩:=c
  exact aL.bA k h
 .have d:∀ps,a≠.agg ps:=fun ps h=>c ⟨ps,h⟩
  exact(l9 d).2 (((l9 d).1 h).bA k e)
def fY.bA{m:Gh}{w':World}{b:Nat}{bx:Bx}(h:fY P G w b bx)(k:cb G [] w m [] w')(J:bx = .free->¬m.bz b)
  (u:∀x n,x.on b->G.h x=some n->m.h x=some n/\m.bQ n=G.bQ n/\w'.heap[n]?=w.heap[n]?):fY P m w' b bx:=by
 cases bx with
 |cells cs=>
  obtain⟨g,X,elem,c,s,z,r,y,E,l⟩:=h;obtain⟨o,D,q⟩:=u (.box b) g rfl s;exact⟨g,X,elem,k.bz _ c,o,(k.val _ c).trans z,q.trans r,y,D.trans E,fun j v a d f=>(l j v a d f).bA k fun n H=>u _ n rfl H⟩
 |bc n al=>
  obtain⟨c,I,h|⟨d,A,f⟩⟩:=h
  .obtain⟨g,X,elem,cap,s,z,Q,r,y,E,l⟩:=h
   obtain⟨o,D,q⟩:=u (.box b) g rfl s;exact⟨k.bz _ c,I,.inl ⟨g,X,elem,cap,o,(k.val _ c).trans z,Q,q.trans r,y,D.trans E,fun i j v p d f=>(l i j v p d f).grow k.grow⟩⟩
  .exact⟨k.bz _ c,I,.inr ⟨d,A,(k.val _ c).trans f⟩⟩
 |tZ n al=>exact⟨k.bz _ h.1,by rw[k.val _ h.1];exact h.2.grow k.grow⟩
 |map t Y=>
  obtain⟨g,T,clock,c,s,z,r,y,K,M,l⟩:=h;obtain⟨o,D,q⟩:=u (.box b) g rfl s;exact⟨g,T,clock,k.bz _ c,o,(k.val _ c).trans z,q.trans r,y,K,M,fun i e x d f=>⟨((l i e x d f).1).grow k.grow,(l i e x d f).2.bA k fun n H=>u _ n rfl H⟩⟩
 |dead=>exact k.bz _ h
 |free=>exact J rfl
def lf(P:Program)(w0:World)(aJ:Nat->Nat)(O:Nat->Prop)(G:Gh)(ad:List (Option Nat))(w:World)(a:AV)(br:List (Option Nat))(c:List Bx)(v:Value)(b:Gh)(w':World):Prop:=
 aL b br w' v a/\Inv P w0 aJ O b c w'/\cb G ad w b br w'
def Gh.dq(G:Gh)(σ:Hd->Option Hd):Gh:={G with h:=fun x=>(σ x).bind G.h}
def Inv.ghost(c:Inv P w0 aJ O G heap w)(σ:Hd->Option Hd)(l:∀x y z,σ x=some z->σ y=some z->x=y){g:Nat->Value}{e:Nat->Prop}{a:List Bx}
  (m:∀b,e b->b<a.length)(p:∀(b:Nat)bx,a[b]?=some bx->fY P ⟨G.bQ,(G.dq σ).h,g,e⟩ w b bx)
  (q:∀(b:Nat)n,a[b]?=some .free->(G.dq σ).h (.box b)≠some n):Inv P w0 aJ O ⟨G.bQ,(G.dq σ).h,g,e⟩ a w where
 frame:=c.frame
 nb:=m
 box:=p
 inj:=fun x y n i j=>by
  obtain⟨u,f,d⟩:=cI.1 i;obtain⟨v,k,o⟩:=cI.1 j;obtain rfl:=c.inj _ _ _ d o;exact l _ _ _ f k
 nf:=fun x n h=>by
  obtain⟨u,f,d⟩:=cI.1 h;exact c.nf _ _ d
 dead:=q
def cb.ghost(σ:Hd->Option Hd){c:Nat->Value}{d:Nat->Prop}{br:List (Option Nat)}(l:∀b,G.bz b->d b)(k:∀b,G.bz b->c b=G.val b)(hlen:ad.length<=br.length)
  (j:∀(t:Nat)n,br[t]?=some (some n)->t<ad.length->∃m,ad[t]?=some (some m)/\(m<n\/(m=n/\σ (.tok t)=some (.tok t)))):
  cb G ad w ⟨G.bQ,(G.dq σ).h,c,d⟩ br w where
 grow:=Grow.refl _ _
 bz:=l
 val:=k
 len:=hlen
 tok:=fun t n e f=>by
  obtain⟨m,a,h|⟨h,i⟩⟩:=j t n e f
  .exact⟨m,a,.inl h⟩
  .exact⟨m,a,.inr ⟨h,fun b g=>⟨by simp[Gh.dq,i,g],rfl,rfl⟩⟩⟩
def fY.dq{σ:Hd->Option Hd}{c:Nat->Value}{a:Nat->Prop}{b:Nat}{bx:Bx}(h:fY P G w b bx)(j:∀b,G.bz b->a b)(i:∀b,G.bz b->c b=G.val b)(d:bx = .free->¬a b)
  (f:∀x,x.on b->σ x=some x):fY P ⟨G.bQ,(G.dq σ).h,c,a⟩ w b bx:=
 h.bA ⟨Grow.refl _ _,j,i,ar _,fun t n h _=>by simp at h⟩ d fun x n g e=>⟨by simp[Gh.dq,f x g,e],rfl,rfl⟩
def kp(a:Nat->Nat)(b m:Nat):Nat->Nat:=fun x=>if x=b then m else a x
def fx(a:Nat->Nat)(b m:Nat):kp a b m b=m:=by simp[kp]
def qv(a:Nat->Nat){b x:Nat}(m:Nat)(h:x≠b):kp a b m x=a x:=by simp[kp,h]
def ym(w:World)(o:Obj)(b x:Nat)(h:b<w.heap.size):(w.alloc o).cell? ⟨b,x,none⟩=w.cell? ⟨b,x,none⟩:=by
 simp only[World.cell?,heap_alloc_old w o b h]
def yn(w:World)(c:Array Value)(t:TypeId)(x:Nat):(w.alloc (.cells c t)).cell? ⟨w.heap.size,x,none⟩=c[x]?:=by
 simp only[World.cell?,heap_alloc_new];simp
def size_alloc(w:World)(o:Obj):(w.alloc o).heap.size=w.heap.size+1:=by show(w.heap.push o).size=_;simp
def Inv.IM(c:Inv P w0 aJ O G heap w){b o:Nat}(h:o<G.bQ b):b<w.heap.size:=by
 rcases bR b w.heap.size with a|a
 .exact a
 .rw[c.frame.wI b a]at h;omega
def Inv.IN(c:Inv P w0 aJ O G heap w)(o:Obj)(m:Nat):Grow G.bQ w (kp G.bQ w.heap.size m) (w.alloc o):=by
 refine⟨fun b=>?_,fun b x h=>ym w o b x (c.IM h)⟩
 by_cases a:b=w.heap.size
 .rw[a,c.frame.wI _ (ar _)];exact dD _
 .rw[qv _ _ a];exact ar _
def Inv.Oj(a:Inv P w0 aJ O G heap w)(o:Obj)(m:Nat)(e:Hd){br:List (Option Nat)}:
  let c:Gh:=⟨kp G.bQ w.heap.size m,fun x=>open Classical in if x=e then some w.heap.size else G.h x,G.val,G.bz⟩
  (ad.length<=br.length)->(∀(t:Nat)n,br[t]?=some (some n)->t<ad.length->∃m,ad[t]?=some (some m)/\(m<n\/(m=n/\e≠.tok t)))->
  (∀b,e.on b->heap[b]?=some .free)->
  cb G ad w c br (w.alloc o)/\(∀(b:Nat)bx,heap[b]?=some bx->fY P c (w.alloc o) b bx)/\my w0 aJ O (w.alloc o) c.bQ /\
   (∀x y n,c.h x=some n->c.h y=some n->x=y)/\(∀x n,c.h x=some n->n<(w.alloc o).heap.size/\(n<w0.heap.size->O n)):=by
 intro c hlen H I;have z:=a.IN o m;have same:∀x n,x≠e->G.h x=some n->c.h x=some n/\c.bQ n=G.bQ n/\(w.alloc o).heap[n]?=w.heap[n]?:=by
  intro x n v j;have u:=(a.nf _ _ j).1;exact⟨by simp[c,v,j],qv _ _ (by omega),heap_alloc_old w o n u⟩
 have k:cb G ad w c br (w.alloc o):=by
  refine⟨z,fun _ h=>h,fun _ _=>rfl,hlen,fun t n h u=>?_⟩
  obtain⟨m,r,l|⟨l,v⟩⟩:=H t n h u
  .exact⟨m,r,.inl l⟩
  .exact⟨m,r,.inr ⟨l,fun b d=>same _ _ (fun s=>v s.symm) d⟩⟩
 refine⟨k,fun b bx d=>?_,⟨?_,a.frame.os,a.frame.tape,a.frame.output,fun b d E=>?_,a.frame.grow.trans z,fun b d=>?_,a.frame.laid⟩,fun x y n p q=>?_,fun x n h=>?_⟩
 .by_cases D:e.on b
  .have i:=I b D
   rw[i]at d;obtain rfl:=au d;exact a.box b _ i
  .exact(a.box b bx d).bA k.low (fun i=>by subst i;exact a.box b _ d) fun x n J j=>same x n (fun s=>D (s▸J)) j
 .rw[size_alloc];have:=a.frame.size;omega
 .have K:=a.frame.size
  obtain⟨f,g⟩:=a.frame.DC b d E;exact⟨(heap_alloc_old w o b (by omega)).trans f,(qv _ _ (by omega)).trans g⟩
 .rw[size_alloc]at d
  show kp _ _ _ _=0
  rw[qv _ _ (by omega)]
  exact a.frame.wI b (by omega)
 .by_cases f:x=e<;>by_cases g:y=e<;>simp[c,f,g]at p q
  .rw[f,g]
  .have:=(a.nf _ _ q).1;omega
  .have:=(a.nf _ _ p).1;omega
  .exact a.inj _ _ _ p q
 .rw[size_alloc]
  by_cases f:x=e<;>simp[c,f]at h
  .subst h
   have:=a.frame.size;exact⟨by omega,fun h=>by omega⟩
  .have:=a.nf _ _ h
   exact⟨by omega,this.2⟩
def Inv.IP(f:Inv P w0 aJ O G heap w)(o:Obj)(m t:Nat){br:List (Option Nat)}:
  let c:Gh:=⟨kp G.bQ w.heap.size m,fun x=>open Classical in if x = .tok t then some w.heap.size else G.h x,G.val,G.bz⟩
  (ad.length<=br.length)->(∀(a:Nat)n,br[a]?=some (some n)->a<ad.length->∃m,ad[a]?=some (some m)/\(m<n\/(m=n/\a≠t)))->
  Inv P w0 aJ O c heap (w.alloc o)/\cb G ad w c br (w.alloc o):=by
 intro c hlen u;obtain⟨p,i,f1,l,q⟩:=f.Oj (ad:=ad) (br:=br) o m (.tok t) hlen (fun a n j k=>by
  obtain⟨m,g,h|⟨h,s⟩⟩:=u a n j k
  .exact⟨m,g,.inl h⟩
  .exact⟨m,g,.inr ⟨h,fun e=>s (by simpa using e.symm)⟩⟩) (fun b d=>by simp[Hd.on]at d)
 exact⟨⟨f1,f.nb,i,l,q,fun b n d=>by simpa[c]using f.dead b n d⟩,p⟩
def Inv.write(c:Inv P w0 aJ O G heap w){d:Hd}{n:Nat}(s:G.h d=some n){w':World}{gz:Nat->Nat}(q:w'.heap.size=w.heap.size)(X:w'.os=w.os)(Y:w'.tape=w.tape)(Z:w'.output=w.output)
  (i:∀m,m≠n->w'.heap[m]?=w.heap[m]?/\gz m=G.bQ m)(A:G.bQ n<=gz n)(C:∀o,o<G.bQ n->w'.cell? ⟨n,o,none⟩=w.cell? ⟨n,o,none⟩){br:List (Option Nat)}
  (hlen:ad.length<=br.length)(B:∀(t:Nat)m,br[t]?=some (some m)->t<ad.length->∃f,ad[t]?=some (some f)/\(f<m\/(f=m/\d≠.tok t))):
  cb G ad w {G with bQ:=gz} br w'/\∀(j:List Bx),j.length=heap.length->(∀b,¬d.on b->j[b]?=heap[b]?)->(∀(b:Nat)bx,d.on b->j[b]?=some bx->bx≠.free/\fY P {G with bQ:=gz} w' b bx)->
   Inv P w0 aJ O {G with bQ:=gz} j w':=by
 have y:Grow G.bQ w gz w':=by
  refine⟨fun b=>?_,fun b o h=>?_⟩
  .by_cases a:b=n
   .rw[a];exact A
   .rw[(i b a).2];exact ar _
  .by_cases a:b=n
   .subst a;exact C o h
   .exact World.cell?_of_block (w:=w) (i b a).1
 have same:∀x m,x≠d->G.h x=some m->G.h x=some m/\gz m=G.bQ m/\w'.heap[m]?=w.heap[m]?:=by
  intro x m u l;have:m≠n:=fun e=>u (c.inj _ _ _ l (e▸s))
  exact⟨l,(i m this).2,(i m this).1⟩
 have k:cb G ad w {G with bQ:=gz} br w':=by
  refine⟨y,fun _ h=>h,fun _ _=>rfl,hlen,fun t m h r=>?_⟩
  obtain⟨f,D,p|⟨p,u⟩⟩:=B t m h r
  .exact⟨f,D,.inl p⟩
  .exact⟨f,D,.inr ⟨p,fun b a=>same _ _ (fun e=>u e.symm) a⟩⟩
 refine⟨k,fun j T H E=>⟨⟨q▸c.frame.size,X.trans c.frame.os,Y.trans c.frame.tape,Z.trans c.frame.output,fun b a v=>?_,c.frame.grow.trans y,fun b a=>?_,c.frame.laid⟩,fun b a=>T▸c.nb b a,fun b bx a=>?_,c.inj,fun x m h=>q▸c.nf x m h,fun b m a=>?_⟩⟩
 .have F:b≠n:=fun e=>v ((c.nf _ _ s).2 (e▸a) |> fun h=>e▸h)
  obtain⟨I,J⟩:=c.frame.DC b a v;obtain⟨K,M⟩:=i b F;exact⟨K.trans I,M.trans J⟩
 .have r:=(c.nf _ _ s).1
  rw[q]at a;show gz b=0
  rw[(i b (by omega)).2]
  exact c.frame.wI b a
 .by_cases g:d.on b
  .exact(E b bx g a).2
  .have z:=H b g▸a
   exact(c.box b bx z).bA k.low (fun Q=>by subst Q;exact c.box b _ z) fun x m R l=>same x m (fun e=>g (e▸R)) l
 .by_cases g:d.on b
  .exact absurd rfl (E b _ g a).1
  .exact c.dead b m (H b g▸a)
def Inv.drew(a:Inv P w0 aJ O G heap w):Inv P w0 aJ O G heap w.drew/\cb G ad w G ad w.drew:=by
 have k:cb G ad w G ad w.drew:=⟨⟨fun _=>ar _,fun _ _ _=>rfl⟩,fun _ h=>h,fun _ _=>rfl,ar _,fun t n h _=>⟨n,h,.inr ⟨rfl,fun b c=>⟨c,rfl,rfl⟩⟩⟩⟩
 exact⟨⟨⟨a.frame.size,a.frame.os,a.frame.tape,a.frame.output,a.frame.DC,a.frame.grow.trans k.grow,a.frame.wI,a.frame.laid⟩,a.nb,fun b bx c=>(a.box b bx c).bA k.low (fun d=>by subst d;exact a.box b _ c) fun x n _ e=>⟨e,rfl,rfl⟩,a.inj,a.nf,a.dead⟩,k⟩
def Plain.after{x:Sem Next}{a:AV}(b:Inv P w0 aJ O G heap w)(h:Plain P G ad w x a):∃v w',x.run P w = .ok (.value v) w'/\∃e,lf P w0 aJ O G ad w a ad heap v e w':=by
 obtain⟨v,w',c,rfl|rfl,d⟩:=h
 .exact⟨v,_,c,G,d,b,cb.refl _ _ _⟩
 .exact⟨v,_,c,G,d,(b.drew (ad:=ad)).1,b.drew.2⟩
def aL.bare{br:List (Option Nat)}{v:Value}{a:AV}(h:aL G ad w v a)(j:a.simple=true):aL G br w v a:=by
 cases h with
 |none v=>exact .none _
 |v h=>exact .v h
 |agg e h=>exact .agg e h
 |aA b h=>exact .aA b h
 |bo b d=>exact .bo b d
 |mp b d=>exact .mp b d
 |qg=>exact .qg
 |Bp e h=>exact .Bp e h
 |@fn f fi o first cap k l m n=>
  have one:∀v a,a∈first++cap->aL G ad w v a->aL G br w v a:=by
   intro v a c h;have:=bf.1 (by simpa[AV.simple]using j) a c
   cases h with
   |v h=>exact .v h
   |aA b h=>exact .aA b h
   |mp b d=>exact .mp b d
   |_=>simp at this
  exact .fn k l (fun i v a g c=>one v a (dL _ (aK c)) (m i v a g c)) fun i v a g c=>one v a (eT _ (aK c)) (n i v a g c)
 |_=>simp[AV.simple]at j
def A0{a:AV}(h:a.qp=true):a.simple=true:=by
 cases a<;>simp[AV.qp]at h<;>first|rfl|exact h
def aL.Tf{v:Value}{a:AV}(h:aL G ad w v a)(d:a.qp=true):v.oneCell'=true:=by
 cases h with
 |aA c h=>rfl
 |bo c b=>exact b
 |mp c b=>exact b
 |qg=>rfl
 |Bp j h=>rfl
 |fn e f g i=>rfl
 |_=>simp[AV.qp]at d
def jS{c:CT}{a b:AV}{T e:List (Option Nat)}(h:kv c a T=some (b,e)):
  (∃t d n al,a = .own t d n al/\T[t]?=some (some d)/\b = .jH n al/\e=T.set t none/\kv c a []=some (.v (.sl n al),[])) \/
  (e=T/\kv c a []=some (b,[])):=by
 unfold kv at h⊢;split at h
 .rename_i t d n al
  split at h
  .rename_i f
   simp only[aw,ax]at h;obtain⟨rfl,rfl⟩:=h;exact .inl ⟨t,d,n,al,rfl,aN f,rfl,rfl,by simp⟩
  .simp only[aw,ax]at h
   obtain⟨rfl,rfl⟩:=h;exact .inr ⟨rfl,by simp⟩
 .right
  rename_i p;cases c<;>simp only at h⊢ <;> (try(simp only[aw,ax]at h;obtain⟨rfl,rfl⟩:=h;exact⟨rfl,rfl⟩))
  split at h<;>simp only[aw,ax]at h<;>obtain⟨rfl,rfl⟩:=h<;>simp
 .right
  split at h<;>try(simp at h;done)
  rename_i g;simp only[aw,ax]at h;obtain⟨rfl,rfl⟩:=h;exact⟨rfl,by simp⟩
def lg{c:CT}{a b:AV}{T g:List (Option Nat)}{v:Value}{x:Hd}(h:kv c a T=some (b,g))(k:T=[])(e:aL G ad w v a):v.oneCell'=true/\ej G w x v b/\g=[]:=by
 subst k;unfold kv at h;split at h
 .rename_i t m n al
  simp only[List.getElem?_nil,reduceCtorEq,decide_false,aw,ax]at h;obtain⟨rfl,rfl⟩:=h;have:=e.pv (p:=.sl n al) rfl;exact⟨this.fM,⟨this.fM,.v this⟩,rfl⟩
 .rename_i p
  have d:bW G.bQ w v p:=e.pv rfl;have base:∀q,bW G.bQ w v q->ej G w x v (.v q):=fun q j=>⟨j.fM,.v j⟩
  cases c<;>simp only at h<;>try(simp only[aw,ax]at h;obtain⟨rfl,rfl⟩:=h;exact⟨d.fM,base _ d,rfl⟩)
  split at h<;>simp only[aw,ax]at h<;>obtain⟨rfl,rfl⟩:=h
  .refine⟨d.fM,⟨d.fM,?_⟩,rfl⟩
   cases d;exact⟨none,0,0,rfl,.mw _,fun l=>by omega⟩
  .exact⟨d.fM,base _ d,rfl⟩
 .split at h<;>try(simp at h;done)
  rename_i f;simp only[aw,ax]at h;obtain⟨rfl,rfl⟩:=h;have i:=e.Tf f;refine⟨i,⟨i,?_⟩,rfl⟩;have:=e.bare (br:=[]) (A0 f);cases a<;>simp[AV.qp]at f<;>exact this
def nv:∀(g:List AV)(e:List CT)(T:List (Option Nat))(d:List AV)(f:List (Option Nat)),cellsIn e g T=some (d,f)->∃c,cellsIn e g []=some (c,[])/\c.length=d.length/\(T=[]->c=d/\f=[])
 |[],e,T,d,f,h=>by simp[cellsIn]at h;obtain⟨rfl,rfl⟩:=h;exact⟨[],by simp[cellsIn],rfl,fun h=>⟨rfl,h⟩⟩
 |a::g,e,T,d,f,h=>by
  simp only[cellsIn]at h;split at h<;>try(simp at h;done)
  rename_i b m p;split at h<;>try(simp at h;done)
  rename_i s T2 u;simp only[aw,ax]at h;obtain⟨rfl,rfl⟩:=h;obtain⟨c,k,l,o⟩:=nv g e.tail m s T2 u;rcases jS p with⟨t,v,n,al,rfl,q,rfl,rfl,i⟩|⟨rfl,i⟩
  .refine⟨.v (.sl n al)::c,by simp only[cellsIn,i,k],by simp[l],fun j=>?_⟩
   subst j;simp at q
  .refine⟨b::c,by simp only[cellsIn,i,k],by simp[l],fun j=>?_⟩
   obtain⟨rfl,rfl⟩:=o j;exact⟨rfl,rfl⟩
def jT:∀(d:List AV)(f:List CT)(e:List AV),cellsIn f d []=some (e,[])->e.length=d.length/\∀(i:Nat)(b:AV),e[i]?=some b->∃a c,d[i]?=some a/\kv c a []=some (b,[])
 |[],f,e,h=>by simp[cellsIn]at h;subst h;simp
 |a::d,f,e,h=>by
  simp only[cellsIn]at h;split at h<;>try(simp at h;done)
  rename_i b k j;have q:k=[]:=by
   rcases jS j with⟨t,u,n,al,rfl,o,_⟩|⟨rfl,_⟩
   .simp at o
   .rfl
  subst q;split at h<;>try(simp at h;done)
  rename_i p T2 s;simp only[aw,ax]at h;obtain⟨rfl,rfl⟩:=h;obtain⟨l,m⟩:=jT d f.tail p s;refine⟨by simp[l],fun i b' g=>?_⟩
  cases i with
  |zero=>simp at g;subst g;exact⟨a,_,rfl,j⟩
  |succ i=>simp at g;simpa using m i b' g
def aL.aV{v:Value}{a:AV}{t:List CT}{g:List AV}(h:aL G ad w v a)(j:cellsIn t a.cells []=some (g,[])):ns G ad w v.cells a.cells:=by
 obtain⟨_,n⟩:=jT _ _ _ j;have one:∀{v:Value}{a:AV},aL G ad w v a->v.oneCell'=true->ns G ad w v.cells [a]:=by
  intro v a h f;rw[nP f];refine⟨rfl,fun i u q e d=>?_⟩
  cases i with
  |zero=>simp at e d;subst e;subst d;exact⟨f,h⟩
  |succ i=>simp at d
 by_cases l:(∃ps,a = .agg ps)\/∃cs,a = .Dr cs
 .rcases l with⟨ps,rfl⟩|⟨cs,rfl⟩
  .cases h with
   |agg k h=>
    refine⟨by simp[Value.cells,AV.cells,k],fun i u q e d=>?_⟩
    simp only[AV.cells,bp]at d;obtain⟨p,s,rfl⟩:=aX.1 d;have:=h i u p (by simpa[Value.cells]using e) s
    exact⟨this.fM,.v this⟩
  .cases h with
   |Dr k D f h=>exact⟨k,fun i u q e d=>⟨f i u (by simpa[Value.cells]using e),h i u q (by simpa[Value.cells]using e) d⟩⟩
 .have z:a.cells=[a]:=by
   cases a<;>first|rfl|exact absurd (.inl ⟨_,rfl⟩) l|exact absurd (.inr ⟨_,rfl⟩) l
  rw[z]at j n⊢;have r:g.length=1:=by rw[(jT _ _ _ j).1];rfl
  obtain⟨b,o⟩:∃b,g[0]?=some b:=⟨_,bk (by omega)⟩
  obtain⟨a',c,m,y⟩:=n 0 b o;simp at m;subst m;exact one h (lg (x:=.tok 0) y rfl h).1
def toCell(b j t:Nat):Hd->Option Hd
 |.cell b' a=>if b'=b/\a=j then some (.tok t)else some (.cell b' a)
 |.tok c=>if c=t then none else some (.tok c)
 |x=>some x
def IQ(b j t:Nat):∀x y z,toCell b j t x=some z->toCell b j t y=some z->x=y:=by
 intro x y z a c;cases x<;>cases y<;>simp only[toCell]at a c<;>(try split at a)<;>(try split at c)<;>(try cases a)<;>(try cases c)<;>simp_all
def Inv.Tg(f:Inv P w0 aJ O G heap w){b j t E n:Nat}{al:List (List PV)}{cs:List AV}{u:Value}(p:heap[b]?=some (.cells cs))
  (H:∀l X elem,G.h (.box b)=some l->w.heap[l]?=some (.cells X elem (0,0))->X[j]?=some u)(z:ad[t]?=some (some E))(F:aL G ad w u (.own t E n al))(M:j<cs.length):
  ∃o,Inv P w0 aJ O o (heap.set b (.cells (cs.set j (.jH n al)))) w/\cb G ad w o (ad.set t none) w/\o.h (.box b)=G.h (.box b):=by
 have U:=(aE.1 z).1;have y:cb G ad w ⟨G.bQ,(G.dq (toCell b j t)).h,G.val,G.bz⟩ (ad.set t none) w:=by
  refine .ghost _ (fun _ h=>h) (fun _ _=>rfl) (by simp) fun N m d k=>?_
  rw[il]at d;split at d
  .simp at d
  .rename_i C
   exact⟨m,d,.inr ⟨rfl,by simp only[toCell];rw[aI (fun e=>C e.symm)]⟩⟩
 refine⟨_,f.ghost (toCell b j t) (IQ b j t) (fun b' h=>by rw[eH];exact f.nb b' h) (fun b' bx c=>?_) (fun b' m c=>?_),y,by simp[Gh.dq,toCell]⟩
 .by_cases g:b'=b
  .subst g
   rw[bN (aE.1 p).1]at c;obtain rfl:=au c;obtain⟨l,X,elem,J,D,R,r,Z,Q,I⟩:=f.box _ _ p;refine⟨l,X,elem,J,by simp[Gh.dq,toCell,D],R,r,by simp[Z],Q,fun i v a d k=>?_⟩
   by_cases s:j=i
   .subst s
    rw[bN M]at k;obtain rfl:=au k;have L:v=u:=by have:=H _ _ _ D r;rw[d]at this;exact au this
    subst L;cases F with
    |@own _ _ _ _ A len cap V S T Y=>
     refine⟨rfl,A,len,cap,rfl,T,?_⟩;exact(Y z).bA fun m q=>⟨by simp[Gh.dq,toCell,q],rfl,rfl⟩
   .rw[bM s]at k
    refine(I i v a d k).bA y.low fun m q=>⟨?_,rfl,rfl⟩
    simp only[Gh.dq,toCell,true_and];rw[aI (fun e=>s e.symm)]
    exact q
  .rw[bM (fun e=>g e.symm)]at c
   refine(f.box b' bx c).dq (fun _ h=>h) (fun _ _=>rfl) (fun K=>by subst K;exact f.box _ _ c) fun x B=>?_
   cases x<;>simp only[Hd.on]at B<;>subst_vars<;>simp[toCell,g]
 .by_cases g:b'=b
  .subst g
   rw[bN (aE.1 p).1]at c;simp at c
  .rw[bM (fun e=>g e.symm)]at c
   have:=f.dead b' m c;simpa[Gh.dq,toCell]using this
def Inv.uk:∀(j:List AV)(k:List CT)(v p:List AV)(off:Nat)(G:Gh)(ad br:List (Option Nat))(heap:List Bx)(cs:List AV){b:Nat},
  Inv P w0 aJ O G heap w->heap[b]?=some (.cells cs)->cellsIn k j []=some (v,[])->cellsIn k j ad=some (p,br)->(∀(i:Nat)y,v[i]?=some y->cs[off+i]?=some y)->
  (∀I X elem,G.h (.box b)=some I->w.heap[I]?=some (.cells X elem (0,0))->∀(i:Nat)a,j[i]?=some a->∃u,X[off+i]?=some u/\aL G ad w u a)->
  ∃x,Inv P w0 aJ O x (heap.set b (.cells (putAt cs off p))) w/\cb G ad w x br w/\x.h (.box b)=G.h (.box b)
 |[],k,v,p,off,G,ad,br,heap,cs,b,l,f,c,h,o,q=>by
  simp[cellsIn]at h;obtain⟨rfl,rfl⟩:=h;refine⟨G,?_,cb.refl _ _ _,rfl⟩;have:heap.set b (.cells (putAt cs off []))=heap:=by
   apply eR;intro i;rw[il];split
   .subst_vars;rw[f];simp[putAt,(aE.1 f).1]
   .rfl
  rw[this];exact l
 |a::j,k,v,p,off,G,ad,br,heap,cs,b,l,f,c,h,o,q=>by
  simp only[cellsIn]at h c;split at h<;>try(simp at h;done)
  rename_i y T1 m;split at h<;>try(simp at h;done)
  rename_i F T2 C;simp only[aw,ax]at h;obtain⟨rfl,rfl⟩:=h;split at c<;>try(simp at c;done)
  rename_i Z T3 B;split at c<;>try(simp at c;done)
  rename_i L T4 U;simp only[aw,ax]at c;obtain⟨rfl,rfl⟩:=c;have a0:=(aE.1 f).1;rcases jS m with⟨t,a3,n,al,rfl,ht,rfl,rfl,g⟩|⟨rfl,g⟩
  .rw[B]at g
   simp only[aw,ax]at g;obtain⟨rfl,rfl⟩:=g;have S:=o 0 _ rfl;simp only[hE]at S;have hj:=(aE.1 S).1;obtain⟨I,X,elem,_,A,_,T,_⟩:=l.box _ _ f;obtain⟨u,R,a1⟩:=q _ _ _ A T 0 _ rfl;simp only[hE]at R;obtain⟨W,i1,Y,Q⟩:=l.Tg f (fun N M V d e=>by
    rw[A]at d;obtain rfl:=au d;rw[T]at e;simp only[aw,Obj.cells.injEq]at e;obtain⟨rfl,_⟩:=e;exact R) ht a1 hj
   obtain⟨z,s,E,r⟩:=Inv.uk j k.tail L F (off+1) W (ad.set t none) T2 _ (cs.set off (.jH n al)) (b:=b) i1 (bN a0) U C
    (fun i y m=>by
     have:=o (i+1) y (by simpa using m)
     rw[bM (by omega),show off+1+i=off+(i+1) by omega]
     exact this)
    fun N M V d e i a D=>by
     rw[Q]at d;obtain⟨H,J,K⟩:=q _ _ _ d e (i+1) a (by simpa using D)
     exact⟨H,by rw[show off+1+i=off+(i+1) by omega];exact J,K.bA Y⟩
   rw[qk]at s;exact⟨z,s,Y.trans E,r.trans Q⟩
  .rw[B]at g
   simp only[aw,ax]at g;obtain⟨rfl,rfl⟩:=g;have a2:cs.set off Z=cs:=by
    apply eR;intro i;rw[il];split
    .subst_vars
     have:=o 0 Z rfl;simp only[hE]at this;rw[this];simp[(aE.1 this).1]
    .rfl
   obtain⟨z,s,E,r⟩:=Inv.uk j k.tail L F (off+1) G T1 T2 heap cs (b:=b) l f U C
    (fun i y m=>by
     have:=o (i+1) y (by simpa using m)
     rw[show off+1+i=off+(i+1) by omega]
     exact this)
    fun N M V d e i a D=>by
     obtain⟨H,J,K⟩:=q _ _ _ d e (i+1) a (by simpa using D)
     exact⟨H,by rw[show off+1+i=off+(i+1) by omega];exact J,K⟩
   refine⟨z,?_,E,r⟩;rw[putAt,a2];exact s
def hQ{nb:Nat}{x:Bx}{h:List Bx}(a:cm nb [x] heap=some h):heap[nb]?=some .free/\h=heap.set nb x:=by
 simp only[cm]at a;split at a<;>try(simp at a;done)
 rename_i b;simp only[aw]at a;exact⟨b,a.symm⟩
def Inv.vv(g:Inv P w0 aJ O G heap w)(o:Obj)(m:Nat)(j:Value)(bx:Bx){nb:Nat}(f:heap[nb]?=some .free)(v:bx≠.free):
  let c:Gh:=⟨kp G.bQ w.heap.size m,fun x=>open Classical in if x = .box nb then some w.heap.size else G.h x,fun b=>if b=nb then j else G.val b,fun b=>G.bz b\/b=nb⟩
  (cb G ad w c ad (w.alloc o)->fY P c (w.alloc o) nb bx)->
  Inv P w0 aJ O c (heap.set nb bx) (w.alloc o)/\cb G ad w c ad (w.alloc o):=by
 intro c z;have r:¬G.bz nb:=g.box _ _ f;obtain⟨s,l,f1,q,u⟩:=g.Oj (ad:=ad) (br:=ad) o m (.box nb) (ar _) (fun t n h _=>⟨n,h,.inr ⟨rfl,by simp⟩⟩) (fun b a=>by simp only[Hd.on]at a;subst a;exact f)
 have i:∀T:List (Option Nat),cb ⟨kp G.bQ w.heap.size m,fun x=>open Classical in if x = .box nb then some w.heap.size else G.h x,G.val,G.bz⟩ T (w.alloc o) c T (w.alloc o):=by
  intro T;refine⟨Grow.refl _ _,fun b h=>.inl h,fun b h=>?_,ar _,fun t n h _=>⟨n,h,.inr ⟨rfl,fun b a=>⟨a,rfl,rfl⟩⟩⟩⟩
  have a:b≠nb:=fun e=>r (e▸h)
  show(if b=nb then j else G.val b)=G.val b
  rw[aI a]
 have k:=s.trans (i ad);refine⟨⟨f1,fun b a=>?_,fun b ue a=>?_,q,u,fun b n a=>?_⟩,k⟩
 .rw[eH]
  rcases a with a|rfl
  .exact g.nb b a
  .exact(aE.1 f).1
 .by_cases d:b=nb
  .subst d
   rw[bN (aE.1 f).1]at a;obtain rfl:=au a;exact z k
  .rw[bM (fun e=>d e.symm)]at a
   refine(l b ue a).bA (i []) (fun y=>?_) fun x n _ p=>⟨p,rfl,rfl⟩
   subst y;have:=g.box _ _ a;rintro(h|h)
   .exact this h
   .exact d h
 .by_cases d:b=nb
  .subst d
   rw[bN (aE.1 f).1]at a;exact absurd (au a) v
  .rw[bM (fun e=>d e.symm)]at a
   have:=g.dead b n a;simpa[c,d]using this
def Inv.FO(r:Inv P w0 aJ O G heap w){X:Array Value}{n o:List AV}{I:List CT}{elem:TypeId}{T t br:List (Option Nat)}{u:List Bx}{nb:Nat}(g:ns G ad w X n)(h:cellsIn I n T=some (o,t))(p:(T=ad/\br=t)\/(T=[]/\br=ad))(Q:cm nb [.cells o] heap=some u):
  ∃m,aL m br (w.alloc (.cells X elem)) (.pointer (some ⟨w.heap.size,0,none⟩)) (.aA nb 0)/\Inv P w0 aJ O m u (w.alloc (.cells X elem))/\cb G ad w m br (w.alloc (.cells X elem)):=by
 obtain⟨K,rfl⟩:=hQ Q;obtain⟨d,x,B,Z⟩:=nv _ _ _ _ _ h;obtain⟨D,R⟩:=jT _ _ _ x;have C:=(aE.1 K).1;obtain⟨E,q⟩:=r.vv (ad:=ad) (.cells X elem) 0 (.pointer (some ⟨w.heap.size,0,none⟩)) (.cells d) K (by simp) (fun k=>by
  refine⟨w.heap.size,X,elem,.inr rfl,by simp,by simp,heap_alloc_new w _,by rw[g.1,D],fx _ _ _,fun j v a f e=>?_⟩
  obtain⟨a',c,F,A⟩:=R j a e;exact(lg A rfl ((g.2 j v a' f F).2.bA k)).2.1)
 rcases p with⟨rfl,rfl⟩|⟨p,rfl⟩;rotate_left
 .obtain⟨rfl,_⟩:=Z p
  refine⟨_,?_,E,q⟩;exact .aA (.inr rfl) (aF rfl)
 obtain⟨M,H,s,S⟩:=Inv.uk n I d o 0 _ T br _ d (b:=nb) E (bN C) x h (fun i y Y=>by simpa using Y) (fun U N V f e i a z=>by
  simp only[if_true]at f;obtain rfl:=au f;rw[heap_alloc_new]at e;simp only[aw,Obj.cells.injEq]at e;obtain⟨rfl,_⟩:=e;have J:i<X.size:=by rw[g.1];exact(aE.1 z).1
  exact⟨X[i],by simp[J],((g.2 i _ a (cK J) z).2.bA q)⟩)
 have L:∀(l:List AV)(d:List AV),d.length=l.length->putAt d 0 l=l:=by
  intro l d D;apply eR;intro i;rw[gG _ _ _ _ (by omega)]
  by_cases r:i<l.length
  .rw[aF ⟨dD _,by omega⟩];simp
  .rw[aI (by omega),ee (by omega),ee (by omega)]
 rw[qk,L _ _ B]at H;refine⟨M,?_,H,q.trans s⟩;exact .aA (s.bz _ (.inr rfl)) ((s.val nb (.inr rfl)).trans (by simp))
def aL.ofNil{T:List (Option Nat)}{v:Value}{a:AV}(h:aL G T w v a):T=[]->aL G ad w v a:=by
 intro j;subst j;induction h with
 |none v=>exact .none _
 |v h=>exact .v h
 |agg e h=>exact .agg e h
 |Dr e c d h f=>exact .Dr e c d f
 |own m x h t=>exact absurd m (by simp)
 |aA b h=>exact .aA b h
 |iS b c h=>exact .iS b c h
 |fK b c h=>exact .fK b c h
 |kr u k l=>exact .kr u k l
 |bo b d=>exact .bo b d
 |mp b d=>exact .mp b d
 |fn g i q s o p=>exact .fn g i o p
 |xg g i f=>exact .xg g f
 |qg=>exact .qg
 |Bp e h=>exact .Bp e h
 |opt h n f=>exact .opt f n
def ej.view{x:Hd}{v:Value}{a:AV}(h:ej G w x v a):aL G ad w v a.view:=by
 obtain⟨d,b⟩:=h;cases a with
 |jH n al=>
  obtain⟨A,len,cap,rfl,c,_⟩:=b;exact .v c
 |_=>exact aL.ofNil b rfl
def df{w:World}{a j:Nat}{X:Array Value}{elem:TypeId}{b:Nat×Nat}(h:w.heap[a]?=some (.cells X elem b)):w.cell? ⟨a,j,none⟩=X[j]?:=by
 simp[World.cell?,h]
def Bz{t b s off:Nat}{cs:List AV}{a:AV}{X:Array Value}{elem:TypeId}(g:w.heap[s]?=some (.cells X elem (0,0)))(H:X.size=cs.length)
  (k:∀(j:Nat)v a,X[j]?=some v->cs[j]?=some a->ej G w (.cell b j) v a)(h:varOf P t cs off=some a):
  ∃v,(loadVar t ⟨s,off,none⟩).run P w = .ok v w/\aL G ad w v a:=by
 unfold varOf at h;split at h
 .rename_i n e q
  split at h<;>try(simp at h;done)
  rename_i J;obtain⟨ps,E,rfl⟩:=aX.1 h;have y:=sS _ _ E;have hlen:ps.length=n:=by
   have:=congrArg List.length y;simp at this;omega
  refine⟨_,lE e q (u:=fun j=>X.getD (off+j) undef) fun j I=>?_,.Oa hlen fun i p o=>?_⟩
  .rw[df g]
   have:off+j<X.size:=by omega
   simp[this]
  .have D:i<n:=by have:=(aE.1 o).1;omega
   have x:=congrArg (fun l=>l[i]?) y
   simp only[bp,eS,jb,aF D,o,cP]at x;obtain⟨a,r,z⟩:=aX.1 x;have f:off+i<X.size:=by omega
   have d:X[off+i]?=some X[off+i]:=cK f;have:=(k _ _ _ d r).view (ad:=ad);rw[z]at this;have:=this.pv rfl;simpa[jj,d]using this
 .rename_i e q
  obtain⟨c,m,rfl⟩:=aX.1 h;have f:off<X.size:=by have:=(aE.1 m).1;omega
  have d:X[off]?=some X[off]:=cK f;exact⟨_,gB e (by rw[df g];exact d),(k _ _ _ d m).view⟩
 .simp at h
def Inv.qw(m:Inv P w0 aJ O G heap w){b off:Nat}{cs:List AV}{V:Value}(n:aL G ad w V (.aA b off))(l:heap[b]?=some (.cells cs)):
  ∃c X elem,V = .pointer (some ⟨c,off,none⟩)/\G.h (.box b)=some c/\w.heap[c]?=some (.cells X elem (0,0))/\X.size=cs.length/\G.bQ c=0/\∀(j:Nat)v a,X[j]?=some v->cs[j]?=some a->ej G w (.cell b j) v a:=by
 cases n with
 |@aA _ _ c o h=>
  obtain⟨p,X,elem,_,e,d,f,g,i,k⟩:=m.box _ _ l;rw[h]at d;simp only[Value.pointer.injEq,aw,Addr.mk.injEq,and_true]at d;subst d;exact⟨c,X,elem,rfl,e,f,g,i,k⟩
def FP{t b off:Nat}{V:Value}{cs:List AV}{a:AV}(g:Inv P w0 aJ O G heap w)(k:aL G ad w V (.aA b off))(f:heap[b]?=some (.cells cs))(h:varOf P t cs off=some a):
  Plain P G ad w (do pure (.value (<-Instr.loadAt t V))) a:=by
 obtain⟨n,X,elem,rfl,l,c,d,m,e⟩:=g.qw k f;obtain⟨v,j,i⟩:=Bz (P:=P) (ad:=ad) c d e h;exact .pure (jm j) i
open Classical in
noncomputable def mv(x y:Hd):Hd->Option Hd:=fun z=>if z=y then some x else if z=x then none else some z
def DJ(x y:Hd):∀u v z,mv x y u=some z->mv x y v=some z->u=v:=by
 intro u v z a b;simp only[mv]at a b;by_cases c:u=y<;>by_cases d:v=y<;>simp only[c,d,if_true,if_false]at a b⊢
 .exfalso
  split at b
  .simp at b
  .rename_i f;rw[<-a]at b;exact f (au b)
 .exfalso
  split at a
  .simp at a
  .rename_i e;rw[<-b]at a;exact e (au a)
 .split at a<;>split at b<;>simp at a b
  rw[a,b]
def rR(x y:Hd):mv x y y=some x:=by simp[mv]
def dN{x y z:Hd}(a:z≠y)(b:z≠x):mv x y z=some z:=by simp[mv,a,b]
def Inv.Ol(g:Inv P w0 aJ O G heap w){b off n:Nat}{cs:List AV}{al:List (List PV)}{l:Nat}{X:Array Value}{elem:TypeId}{v:Value}(s:heap[b]?=some (.cells cs))(r:cs[off]?=some (.jH n al))
  (D:G.h (.box b)=some l)(I:w.heap[l]?=some (.cells X elem (0,0)))(q:X[off]?=some v):
  ∃T,lf P w0 aJ O G ad w (.own ad.length 0 n al) (ad++[some 0]) (heap.set b (.cells (cs.set off (.v (.sl n al))))) v T w:=by
 have K:=(aE.1 s).1;obtain⟨V,S,W,Y,Q,C,p,B,F,M⟩:=g.box _ _ s;rw[D]at Q;obtain rfl:=au Q;rw[I]at p;simp only[aw,Obj.cells.injEq]at p;obtain⟨rfl,rfl,-⟩:=p;have N:=M off v _ q r;obtain⟨A,len,cap,rfl,H,R⟩:=N.2;have U:(Hd.cell b off)≠.tok ad.length:=by simp
 have E:cb G ad w ⟨G.bQ,(G.dq (mv (.cell b off) (.tok ad.length))).h,G.val,G.bz⟩ (ad++[some 0]) w:=by
  refine .ghost _ (fun _ h=>h) (fun _ _=>rfl) (by simp) fun t m d f=>?_
  rw[bX f]at d;refine⟨m,d,.inr ⟨rfl,dN (fun e=>?_) (by simp)⟩⟩
  simp only[Hd.tok.injEq]at e;omega
 have L:ej ⟨G.bQ,(G.dq (mv (.cell b off) (.tok ad.length))).h,G.val,G.bz⟩ w (.cell b off) (.slice A len cap) (.v (.sl n al)):=⟨rfl,.v H⟩;refine⟨⟨G.bQ,(G.dq (mv (.cell b off) (.tok ad.length))).h,G.val,G.bz⟩,.own (by simp) (fun m k=>by simp at k;omega) H fun _=>R.bA fun m k=>⟨?_,rfl,rfl⟩,g.ghost (mv (.cell b off) (.tok ad.length)) (DJ _ _) (fun b' h=>by rw[eH];exact g.nb b' h) (fun b' bx c=>?_) (fun b' m c=>?_),E⟩
 .simp[Gh.dq,rR,k]
 .by_cases j:b'=b
  .subst j
   rw[bN K]at c;obtain rfl:=au c;refine⟨l,X,elem,Y,?_,C,I,by simp[B],F,fun i u a d f=>?_⟩
   .simp[Gh.dq,dN (x:=.cell b' off) (y:=.tok ad.length) (z:=.box b') (by simp) (by simp),D]
   .by_cases o:off=i
    .subst o
     rw[q]at d;obtain rfl:=au d;rw[bN (aE.1 r).1]at f;obtain rfl:=au f;exact L
    .rw[bM o]at f
     refine(M i u a d f).bA E.low fun m k=>⟨?_,rfl,rfl⟩
     simp[Gh.dq,dN (x:=.cell b' off) (y:=.tok ad.length) (z:=.cell b' i) (by simp) (by simp;exact fun e=>o e.symm),k]
  .rw[bM (fun e=>j e.symm)]at c
   refine(g.box b' bx c).dq (fun _ h=>h) (fun _ _=>rfl) (fun Z=>by subst Z;exact g.box _ _ c) fun x J=>dN (fun e=>?_) fun e=>?_
   .subst e;exact J
   .subst e;exact j J.symm
 .by_cases j:b'=b
  .subst j
   rw[bN K]at c;simp at c
  .rw[bM (fun e=>j e.symm)]at c
   have:=g.dead b' m c;simpa[Gh.dq,dN (x:=.cell b off) (y:=.tok ad.length) (z:=.box b') (by simp) (by simp)]using this
def fp(w:World)(g b:Nat)(X:Array Value)(h:b≠g):(w.setRow g X).heap[b]?=w.heap[b]?:=by
 simp only[World.setRow,xH];rw[aI (fun e=>h e.symm)]
def Inv.DK(j:Inv P w0 aJ O G heap w){b a:Nat}{X:Array Value}{bx ue:Bx}(f:heap[b]?=some bx)(i:G.h (.box b)=some a)(q:G.bQ a=0)(g:ue≠.free)
  (p:cb G [] w G [] (w.setRow a X)->fY P G (w.setRow a X) b ue):Inv P w0 aJ O G (heap.set b ue) (w.setRow a X)/\cb G ad w G ad (w.setRow a X):=by
 obtain⟨k,h⟩:=j.write (ad:=ad) (br:=ad) (gz:=G.bQ) i (w':=w.setRow a X) (by rw[size_setRow]) rfl rfl rfl (fun m l=>⟨fp w a m X l,rfl⟩) (ar _) (fun o s=>by omega) (ar _)
  fun t m h _=>⟨m,h,.inr ⟨rfl,by simp⟩⟩
 refine⟨h _ (by simp) (fun b' n=>bM fun e=>n e) fun b' u d c=>?_,k⟩
 simp only[Hd.on]at d;subst d;rw[bN (aE.1 f).1]at c;obtain rfl:=au c;exact⟨g,p k.low⟩
def nQ{t a off:Nat}{X:Array Value}{elem:TypeId}{v:Value}(b:w.heap[a]?=some (.cells X elem (0,0)))(c:ck P t=some v.cells.size)(d:off+v.cells.size<=X.size)(e:∀u∈v.cells.toList,u.oneCell'=true):
  (storeVar t ⟨a,off,none⟩ v).run P w = .ok () (w.setRow a (X.toList.take off++v.cells.toList++X.toList.drop (off+v.cells.size)).toArray):=by
 have:=run_storeCells_at (P:=P) a off elem v.cells.toList 0 X w b (by simpa using d) e
 simp only[hE,lS]at this;simp[storeVar,dA c,this]
def o3{X C:Array Value}{off j:Nat}(d:off+C.size<=X.size):
  ((X.toList.take off++C.toList++X.toList.drop (off+C.size)).toArray)[j]?=if off<=j/\j<off+C.size then C[j-off]? else X[j]?:=by
 simp only[tW];have c:(X.toList.take off).length=off:=by simp;omega
 by_cases a:off<=j/\j<off+C.size
 .rw[aF a,bX (by simp;omega),ei (by omega),c]
  simp
 .rw[aI a]
  rcases bR j off with b|b
  .rw[bX (by simp;omega),bX (by omega),eS,aF b]
   simp
  .rw[ei (by simp;omega),jb]
   simp only[de,c,lS];rw[show off+C.size+(j-(off+C.size))=j from by omega]
   simp
def qx{X C:Array Value}{off:Nat}(a:off+C.size<=X.size):((X.toList.take off++C.toList++X.toList.drop (off+C.size)).toArray).size=X.size:=by
 simp;omega
def MH{t b off:Nat}{V U:Value}{a:AV}{cs a0:List AV}{T Z F:List (Option Nat)}(o:Inv P w0 aJ O G heap w)(hx:aL G ad w V (.aA b off))(D:aL G ad w U a)(p:heap[b]?=some (.cells cs))(h:Dt P t cs off a T=some (a0,Z))(M:(T=ad/\F=Z)\/(T=[]/\F=ad)):
  ∃w',(do Instr.storeAt t V U;pure .skip:Sem Next).run P w = .ok .skip w'/\∃G',lf P w0 aJ O G ad w .none F (heap.set b (.cells a0)) undef G' w':=by
 obtain⟨s,X,elem,rfl,g,K,h4,C,h6⟩:=o.qw hx p;have a5:=(aE.1 p).1;unfold Dt at h;split at h<;>try(simp at h;done)
 rename_i n r T1 hs L;split at h<;>try(simp at h;done)
 rename_i a3;simp only[bU,beq_iff_eq,fm]at a3;obtain⟨hlen,b4⟩:=a3;simp only[aw,ax]at h;obtain⟨rfl,rfl⟩:=h;obtain⟨E,J,b3,hz⟩:=nv _ _ _ _ _ L;obtain⟨hl,a7⟩:=jT _ _ _ J;have l:=D.aV J;have a9:∀u∈U.cells.toList,u.oneCell'=true:=by
  intro u hu;obtain⟨j,N⟩:=rM.1 hu;have H:j<a.cells.length:=by have:=(aE.1 N).1;rw[<-l.1];simpa using this
  exact(l.2 j u _ (by simpa using N) (bk H)).1
 have hn:U.cells.size=n:=by rw[l.1];omega
 have b1:=nQ (P:=P) K (by rw[hs,hn]:ck P t=some U.cells.size) (by omega:off+U.cells.size<=X.size) a9
 have Y:off+U.cells.size<=X.size:=by omega
 obtain⟨S,Q⟩:=o.DK (ad:=ad) (ue:=.cells (putAt cs off E)) (X:=(X.toList.take off++U.cells.toList++X.toList.drop (off+U.cells.size)).toArray) p g C (by simp) (fun k=>by
  obtain⟨_,_,_,he,_,hv,_⟩:=o.box _ _ p;refine⟨s,_,elem,he,g,?_,setRow_heap w s X _ elem (0,0) K,by rw[qx Y,iw,h4],C,fun j v a' z f=>?_⟩
  .obtain⟨a8,X',b2,_,A,R,_⟩:=o.box _ _ p
   rw[g]at A;obtain rfl:=au A;exact R
  .rw[o3 Y]at z
   rw[gG _ _ _ _ (by omega)]at f
   by_cases d:off<=j/\j<off+U.cells.size
   .rw[aF d]at z
    rw[aF ⟨d.1,by omega⟩]at f
    obtain⟨a2,c,a4,a6⟩:=a7 _ _ f;exact((lg (x:=.cell b j) a6 rfl (l.2 _ _ _ z a4).2).2.1).bA k fun m q=>⟨q,rfl,by
     rw[fp];intro e;subst e;have:=o.inj _ _ _ q g;simp at this⟩
   .rw[aI d]at z
    rw[aI (by omega)]at f
    exact(h6 _ _ _ z f).bA k fun m q=>⟨q,rfl,by
     rw[fp];intro e;subst e;have:=o.inj _ _ _ q g;simp at this⟩)
 have a1:(do Instr.storeAt t (.pointer (some ⟨s,off,none⟩)) U;pure .skip:Sem Next).run P w = .ok .skip (w.setRow s (X.toList.take off++U.cells.toList++X.toList.drop (off+U.cells.size)).toArray):=by
  simp only[Instr.storeAt,Instr.sureAddr,Sem.run_bind,Sem.run_pure,Result.andThen_ok,b1]
 rcases M with⟨rfl,rfl⟩|⟨M,rfl⟩;rotate_left
 .obtain⟨rfl,_⟩:=hz M
  exact⟨_,a1,G,.none _,S,Q⟩
 obtain⟨G2,W,k2,R⟩:=Inv.uk a.cells _ E r off _ T F _ (putAt cs off E) (b:=b) S (bN a5) J L (fun i y D=>by
  have:=(aE.1 D).1;rw[gG _ _ _ _ (by omega),aF ⟨by omega,by omega⟩,show off+i-off=i by omega]
  exact D) (fun a8 X' b2 B I i a' f=>by
  rw[g]at B;obtain rfl:=au B;rw[setRow_heap w s X _ elem (0,0) K]at I;simp only[aw,Obj.cells.injEq]at I;obtain⟨rfl,_⟩:=I;have H:i<U.cells.size:=by rw[l.1];exact(aE.1 f).1
  refine⟨U.cells[i],?_,(l.2 i _ a' (cK H) f).2.bA Q⟩;rw[o3 Y,aF ⟨by omega,by omega⟩,show off+i-off=i by omega]
  exact cK H)
 have b0:putAt (putAt cs off E) off r=putAt cs off r:=by
  apply eR;intro i;rw[gG _ _ _ _ (by rw[iw];omega),gG _ cs _ _ (by omega),gG _ cs _ _ (by omega)]
  by_cases d:off<=i/\i<off+r.length
  .rw[aF d,aF d]
  .rw[aI d,aI d,aI (by omega)]
 rw[qk,b0]at W;exact⟨_,a1,G2,.none _,W,Q.trans k2⟩
def IS{t b s n l j:Nat}{i:Int}{V U:Value}{p:PV}{cs:List AV}(o:Inv P w0 aJ O G heap w)(F:aL G ad w V (.iS b s n l i j))(A:aL G ad w U (.v p))(E:heap[b]?=some (.cells cs))
  (Z:ck P t=some 1)(S:s+l*n<=cs.length)(N:j<n):
  ∃w',(do Instr.storeAt t V U;pure .skip:Sem Next).run P w = .ok .skip w'/\∃M,lf P w0 aJ O G ad w .none ad (heap.set b (.cells (putAt cs (s+i.toNat*n+j) [.v p]))) undef M w':=by
 have Y:∃d,V = .pointer (some ⟨d,s+i.toNat*n+j,none⟩)/\G.val b = .pointer (some ⟨d,0,none⟩)/\G.bz b/\i.toNat<l:=by
  cases F with
  |@iS _ _ _ _ _ d _ g o h=>exact⟨d,rfl,h,g,by omega⟩
 obtain⟨d,rfl,J,g,C⟩:=Y;obtain⟨W,X,elem,rfl',y,r,Q,D,T⟩:=o.qw (ad:=ad) (.aA g J) E (off:=s+i.toNat*n+j);simp only[Value.pointer.injEq,aw,Addr.mk.injEq,and_true]at rfl';subst rfl';have a0:s+i.toNat*n+j<cs.length:=by
  have:(i.toNat+1)*n<=l*n:=dt _ C;rw[bY,cN]at this;omega
 have x:bW G.bQ w U p:=A.pv rfl;have f:U.cells = #[U]:=x.cells;have L:=nQ (P:=P) (v:=U) r (by rw[Z,f];rfl) (by rw[f];simp;omega:s+i.toNat*n+j+U.cells.size<=X.size) (fun u z=>by rw[f]at z;simp at z;subst z;exact x.fM)
 have K:s+i.toNat*n+j+U.cells.size<=X.size:=by rw[f];simp;omega
 obtain⟨R,B⟩:=o.DK (ad:=ad) (ue:=.cells (putAt cs (s+i.toNat*n+j) [.v p])) (X:=(X.toList.take (s+i.toNat*n+j)++U.cells.toList++X.toList.drop (s+i.toNat*n+j+U.cells.size)).toArray) E y D (by simp) (fun k=>by
  refine⟨d,_,elem,g,y,J,setRow_heap w d X _ elem (0,0) r,by rw[qx K,iw,Q],D,fun q v a' c a=>?_⟩
  rw[o3 K]at c;rw[gG _ _ _ _ (by simp;omega)]at a
  simp only[f,rJ,aC,cO,cr]at c a;by_cases H:s+i.toNat*n+j<=q/\q<s+i.toNat*n+j+1
  .rw[aF H]at c a
   have:q-(s+i.toNat*n+j)=0:=by omega
   rw[this]at c a;simp at c a;subst c;subst a;exact⟨x.fM,.v (x.grow k.grow)⟩
  .rw[aI H]at c a
   exact(T _ _ _ c a).bA k fun m I=>⟨I,rfl,by
    rw[fp];intro e;subst e;have:=o.inj _ _ _ I y;simp at this⟩)
 refine⟨_,?_,G,.none _,R,B⟩;simp only[Instr.storeAt,Instr.sureAddr,Sem.run_bind,Sem.run_pure,Result.andThen_ok,L]
def IT{al:List (List PV)}{n i j d a:Nat}{ps:List PV}{p:PV}(g:∀r∈al,r.length=n)(o:j+ps.length<=n)(h:jI (setRow al i j ps) d a=some p):
  (d=i/\j<=a/\a<j+ps.length/\ps[a-j]?=some p)\/(¬(d=i/\j<=a/\a<j+ps.length)/\jI al d a=some p):=by
 unfold jI setRow at h;rw[Df]at h;obtain⟨m,k,b⟩:=cI.1 h;obtain⟨r,f,rfl⟩:=aX.1 k;by_cases e:i=d
 .subst e
  simp only[if_true]at b;have l:=g r (aK f);rw[gG _ _ _ _ (by omega)]at b
  by_cases c:j<=a/\a<j+ps.length
  .rw[aF c]at b
   exact .inl ⟨rfl,c.1,c.2,b⟩
  .rw[aI c]at b
   exact .inr ⟨fun h=>c h.2,by simp[jI,f,b]⟩
 .rw[aI e]at b
  exact .inr ⟨fun h=>e h.1.symm,by simp only[jI,f];exact b⟩
def FQ{al:List (List PV)}{n i j:Nat}{ps:List PV}(b:∀r∈al,r.length=n):(∀r∈setRow al i j ps,r.length=n)/\(setRow al i j ps).length=al.length:=by
 refine⟨fun r h=>?_,by simp[setRow]⟩
 obtain⟨q,a⟩:=rM.1 h;unfold setRow at a;rw[Df]at a;obtain⟨r0,c,rfl⟩:=aX.1 a;have:=b r0 (aK c);split
 .rw[iw];exact this
 .exact this
def Wl{n a b a' b' c:Nat}(f:b+c<=n)(g:b'<n):(a*n+b<=a'*n+b'/\a'*n+b'<a*n+b+c)<->(a'=a/\b<=b'/\b'<b+c):=by
 constructor
 .rintro⟨d,e⟩
  have:a'=a:=by
   rcases Nat.lt_trichotomy a' a with h|h|h
   .have:(a'+1)*n<=a*n:=dt _ h
    rw[bY,cN]at this;omega
   .exact h
   .have:(a+1)*n<=a'*n:=dt _ h
    rw[bY,cN]at this;omega
  subst this;exact⟨rfl,by omega,by omega⟩
 .rintro⟨rfl,d,e⟩
  omega
def Inv.Om(q:Inv P w0 aJ O G heap w){b n j:Nat}{i:Int}{al:List (List PV)}{V:Value}(t:aL G ad w V (.fK b n i j))(m:heap[b]?=some (.bc n al)):
  ∃a X elem cap,V = .pointer (some ⟨a,i.toNat*n+j,none⟩)/\G.bz b/\G.h (.box b)=some a/\G.val b = .slice (some ⟨a,0,none⟩) al.length cap/\al.length<=cap/\w.heap[a]?=some (.cells X elem (0,0))/\cap*n<=X.size/\G.bQ a=0/\i.toNat<al.length /\
   (∀r∈al,r.length=n)/\∀(i j:Nat)v p,X[i*n+j]?=some v->jI al i j=some p->bW G.bQ w v p:=by
 cases t with
 |@fK _ _ _ a off len cap _ o u h=>
  obtain⟨_,s,⟨x,X,elem,y,d,c,e,f,g,k,l⟩|⟨d,A,c⟩⟩:=q.box _ _ m
  .rw[h]at c
   simp only[Value.slice.injEq,aw,Addr.mk.injEq,and_true]at c;obtain⟨⟨rfl,rfl⟩,rfl,rfl⟩:=c;exact⟨a,X,elem,cap,by rw[cr],o,d,h,e,f,g,k,u.2,s,l⟩
  .rw[h]at c
   simp only[Value.slice.injEq]at c;omega
def IU{t b n j c:Nat}{i:Int}{V U:Value}{a:AV}{ps:List PV}{al:List (List PV)}(z:Inv P w0 aJ O G heap w)(W:aL G ad w V (.fK b n i j))(hy:aL G ad w U a)(y:heap[b]?=some (.bc n al))
  (N:ck P t=some c)(L:rowOf P t a=some ps)(hc:ps.length=c)(a6:j+c<=n):
  ∃w',(do Instr.storeAt t V U;pure .skip:Sem Next).run P w = .ok .skip w'/\∃M,lf P w0 aJ O G ad w .none ad (heap.set b (.bc n (setRow al i.toNat j ps))) undef M w':=by
 obtain⟨I,X,elem,cap,rfl,A,o,T,Y,s,Z,x,h7,D,F⟩:=z.Om W y;have f:=hy.row L;have a3:∀u∈U.cells.toList,u.oneCell'=true:=by
  intro u S;obtain⟨q,h⟩:=rM.1 S;have a1:q<ps.length:=by have:=(aE.1 h).1;rw[<-f.1];simpa using this
  exact(f.2 q u _ (by simpa using h) (bk a1)).fM
 have C:U.cells.size=c:=by rw[f.1];omega
 have a5:i.toNat*n+n<=cap*n:=by
  have:(i.toNat+1)*n<=cap*n:=dt _ (by omega)
  rwa [bY,cN]at this
 have m:i.toNat*n+j+U.cells.size<=X.size:=by omega
 have a4:=nQ (P:=P) s (by rw[N,C]:ck P t=some U.cells.size) m a3
 obtain⟨E,H⟩:=FQ (i:=i.toNat) (j:=j) (ps:=ps) D;obtain⟨i1,k1⟩:=z.DK (ad:=ad) (ue:=.bc n (setRow al i.toNat j ps)) (X:=(X.toList.take (i.toNat*n+j)++U.cells.toList++X.toList.drop (i.toNat*n+j+U.cells.size)).toArray) y o x (by simp) (fun k=>by
  refine⟨A,E,.inl ⟨I,_,elem,cap,o,by rw[H];exact T,by rw[H];exact Y,setRow_heap w I X _ elem (0,0) s,by rw[qx m];exact Z,x,fun i' g v p d K=>?_⟩⟩
  rw[o3 m]at d;have a0:g<n:=by
   obtain⟨r,a2,B⟩:=cI.1 K;rw[<-E r (aK a2)];exact(aE.1 B).1
  have J:=Wl (a:=i.toNat) (b:=j) (a':=i') (b':=g) (c:=U.cells.size) (by omega) a0
  rcases IT D (by omega) K with⟨e,l,e3,Q⟩|⟨e,l⟩
  .rw[aF (J.2 ⟨e,l,by omega⟩)]at d
   subst e;rw[show i.toNat*n+g-(i.toNat*n+j)=g-j by omega]at d
   exact(f.2 _ _ _ d Q).grow k.grow
  .rw[aI (fun R=>e (by have:=J.1 R;exact⟨this.1,this.2.1,by omega⟩))]at d
   exact(F _ _ _ _ d l).grow k.grow)
 refine⟨_,?_,G,.none _,i1,k1⟩;simp only[Instr.storeAt,Instr.sureAddr,Sem.run_bind,Sem.run_pure,Result.andThen_ok,a4]
def Inv.elemOf(g:Inv P w0 aJ O G heap w){b n j:Nat}{i:Int}{al:List (List PV)}{V:Value}(q:aL G ad w V (.fK b n i j))(d:heap[b]?=some (.bc n al)\/heap[b]?=some (.tZ n al)):
  ∃c o,V = .pointer (some ⟨c,o,none⟩)/\∀l p,jI al i.toNat (j+l)=some p->∃u,w.cell? ⟨c,o+l,none⟩=some u/\bW G.bQ w u p:=by
 rcases d with d|d
 .obtain⟨c,X,elem,cap,rfl,x,E,H,I,t,J,K,M,m,v⟩:=g.Om q d
  refine⟨c,_,rfl,fun l p e=>?_⟩
  have Z:j+l<n:=by
   obtain⟨r,z,y⟩:=cI.1 e;rw[<-m r (aK z)];exact(aE.1 y).1
  have F:i.toNat*n+n<=cap*n:=by
   have:(i.toNat+1)*n<=cap*n:=dt _ (by omega)
   rwa [bY,cN]at this
  have s:i.toNat*n+(j+l)<X.size:=by omega
  rw[df t,gp];exact⟨_,cK s,v _ _ _ _ (cK s) e⟩
 .cases q with
  |@fK _ _ _ c off len cap _ x Y h=>
   obtain⟨_,f⟩:=g.box _ _ d;rw[h]at f;cases f with
   |Is a=>omega
   |sl b' off len cap n al u T Q m D e=>
    refine⟨c,_,rfl,fun l p k=>?_⟩
    have:=D _ _ _ k;rw[<-gp]at this;exact⟨_,this.1,e _ _ _ k⟩
def MI{t b n j c:Nat}{i:Int}{V:Value}{r:List PV}{al:List (List PV)}(s:Inv P w0 aJ O G heap w)(z:aL G ad w V (.fK b n i j))(q:heap[b]?=some (.bc n al)\/heap[b]?=some (.tZ n al))
  (m:cZ P t=some true)(y:ck P t=some c)(x:al[i.toNat]?=some r)(E:j+c<=r.length):Plain P G ad w (do pure (.value (<-Instr.loadAt t V))) (.agg ((r.drop j).take c)):=by
 obtain⟨f,o,rfl,h⟩:=s.elemOf z q;have D:∀l,l<c->∃p,r[j+l]?=some p:=fun l d=>⟨_,bk (by omega)⟩
 have e:∃u:Nat->Value,∀l p,l<c->r[j+l]?=some p->w.cell? ⟨f,o+l,none⟩=some (u l)/\bW G.bQ w (u l) p:=by
  refine⟨fun l=>(w.cell? ⟨f,o+l,none⟩).getD undef,fun l p d a=>?_⟩
  obtain⟨v,g,k⟩:=h l p (IH x a);simp only[g,mq];exact⟨by trivial,k⟩
 obtain⟨u,e⟩:=e;refine .pure (jm (lE m y (u:=u) fun l d=>?_)) (.Oa (by simp;omega) fun l p a=>?_)
 .obtain⟨p,a⟩:=D l d
  exact(e l p d a).1
 .rw[eS]at a
  split at a<;>try(simp at a;done)
  rw[jb]at a;exact(e l p (by assumption) a).2
def IV{t b n j:Nat}{i:Int}{V:Value}{p:PV}{al:List (List PV)}(f:Inv P w0 aJ O G heap w)(k:aL G ad w V (.fK b n i j))(e:heap[b]?=some (.bc n al)\/heap[b]?=some (.tZ n al))
  (d:cZ P t=some false)(g:jI al i.toNat j=some p):Plain P G ad w (do pure (.value (<-Instr.loadAt t V))) (.v p):=by
 obtain⟨l,o,rfl,h⟩:=f.elemOf k e;obtain⟨u,a,c⟩:=h 0 p (by simpa using g)
 exact .pure (jm (gB d (by simpa using a))) (.v c)
def MJ{t b s n l j:Nat}{i:Int}{V:Value}{p:PV}{cs:List AV}(m:Inv P w0 aJ O G heap w)(a:aL G ad w V (.iS b s n l i j))(g:heap[b]?=some (.cells cs))
  (f:cZ P t=some false)(c:cs[s+i.toNat*n+j]?=some (.v p)):Plain P G ad w (do pure (.value (<-Instr.loadAt t V))) (.v p):=by
 cases a with
 |@iS _ _ _ _ _ x _ k y h=>
  obtain⟨z,X,elem,rfl',q,d,u,v,e⟩:=m.qw (ad:=ad) (.aA k h) g (off:=s+i.toNat*n+j);simp only[Value.pointer.injEq,aw,Addr.mk.injEq,and_true]at rfl';subst rfl';have o:s+i.toNat*n+j<X.size:=by have:=(aE.1 c).1;omega
  have a:X[s+i.toNat*n+j]?=some X[s+i.toNat*n+j]:=cK o;exact .pure (jm (gB f (by rw[df d];exact a))) ((e _ _ _ a c).view (ad:=ad))
def Flat(a:Nat->Nat)(w:World)(n:Nat)(X:Array Value)(al:List (List PV)):Prop:=
 X.size=al.length*n/\(∀r∈al,r.length=n)/\∀i j p,jI al i j=some p->∃v,X[i*n+j]?=some v/\bW a w v p
def BA(n:Nat):∀(al:List (List PV))(i:Nat)(x:List PV)(a:List (List PV)),My n al i x=some a->a=al.set i x/\i<al.length/\x.length=n
 |[],i,x,a,h=>by simp[My]at h
 |r::b,0,x,a,h=>by
  simp only[My]at h;split at h<;>try(simp at h;done)
  simp at h;exact⟨by simp[h],by simp,by assumption⟩
 |r::b,i+1,x,a,h=>by
  simp only[My]at h;obtain⟨m,f,rfl⟩:=aX.1 h;obtain⟨c,d,e⟩:=BA n b i x m f;exact⟨by simp[c],by simpa using d,e⟩
def Flat.put{l:Nat->Nat}{n i:Nat}{X C:Array Value}{al:List (List PV)}{r:List PV}(h:Flat l w n X al)(H:lW l w C r)(q:i<al.length)(s:r.length=n):
  Flat l w n (C.zipIdx.foldl (fun cs(c,j)=>cs.setIfInBounds (i*n+j) c) X) (al.set i r):=by
 obtain⟨D,m,E⟩:=h;obtain⟨x,y⟩:=H;have e:C.zipIdx.foldl (fun cs(c,j)=>cs.setIfInBounds (i*n+j) c) X=(C.toList.zipIdx 0).foldl (fun cs(c,j)=>cs.setIfInBounds (i*n+j) c) X:=by
  rw[<-Array.foldl_toList];simp
 rw[e];obtain⟨f1,f2⟩:=foldl_set X (i*n) C.toList 0;have T:i*n+n<=al.length*n:=by
  have:(i+1)*n<=al.length*n:=dt _ q;rwa [bY,cN]at this
 refine⟨by rw[f1,D];simp,fun t k=>?_,fun a b p d=>?_⟩
 .rcases tX k with h|h
  .exact m _ h
  .rw[h,s]
 .rw[f2]
  simp only[hE,lS];unfold jI at d;by_cases f:a=i
  .subst f
   rw[bN q]at d;simp only[fS]at d;have o:=(aE.1 d).1;rw[aF ⟨by omega,by omega,by omega⟩]
   have u:b<C.size:=by omega
   refine⟨C[b],?_,y b _ p (cK u) d⟩;rw[show a*n+b-a*n=b from by omega]
   simp[u]
  .rw[bM (fun h=>f h.symm)]at d
   obtain⟨v,J,I⟩:=E a b p d;refine⟨v,?_,I⟩;have M:b<n:=by
    obtain⟨t,k,o⟩:=cI.1 d;rw[<-m t (aK k)];exact(aE.1 o).1
   rw[aI ?_]
   .exact J
   .rintro⟨K,z,_⟩
    rw[x,s]at z;apply f;rcases bR a i with g|Q
    .have:(a+1)*n<=i*n:=dt _ g
     rw[bY,cN]at this;omega
    .rcases bR i a with g|Y
     .have:(i+1)*n<=a*n:=dt _ g
      rw[bY,cN]at this;omega
     .omega
def um{k n:Nat}{e:Operand->Value}{ρ:Operand->AV}:∀(ps:List (Nat×Operand))(X:Array Value)(al a:List (List PV)),
  k9 P k n ρ ps al=some a->Flat G.bQ w n X al->(∀p∈ps,aL G ad w (e p.2) (ρ p.2))->∃b,Instr.fill (fun i=>some (i*n,n)) X (ps.map fun p=>(p.1,e p.2))=some b/\Flat G.bQ w n b a/\a.length=al.length
 |[],X,al,a,h,c,_=>by simp[k9]at h;subst h;exact⟨X,rfl,c,rfl⟩
 |(i,x)::ps,X,al,a,h,c,g=>by
  unfold k9 at h;split at h<;>try(simp at h;done)
  rename_i r q;split at h<;>try(simp at h;done)
  rename_i u d;obtain⟨rfl,j,hlen⟩:=BA n al i r u d;have f:=(g (i,x) (by simp)).row q
  obtain⟨b,l,m,o⟩:=um ps _ _ a h (c.put f j hlen) (fun p d=>g p (aP _ d))
  refine⟨b,?_,m,by simpa using o⟩
  have s:(e x).cells.size=n:=by rw[f.1,hlen]
  have t:¬(i*n+n>X.size):=by
   rw[c.1];have:(i+1)*n<=al.length*n:=dt _ j;rw[bY,cN]at this;omega
  simp only[bB,Instr.fill,s,ne_eq,not_true_eq_false,decide_false,mj,fm];rw[aI t];exact l
def BB{n len:Nat}{Z:Array Value}{z:List PV}(c:lW G.bQ w Z z)(f:z.length=n)(q:n≠0):
  Flat G.bQ w n ((Array.range (len*n)).map (Z[· % Z.size]!)) (List.replicate len z):=by
 refine⟨by simp,fun r a=>by rw[(List.mem_replicate.1 a).2,f],fun i j p e=>?_⟩
 unfold jI at e;obtain⟨r,a,d⟩:=cI.1 e;have b:=(aE.1 a).1;simp only[List.length_replicate]at b;have m:r=z:=by rw[Dm,aF b]at a;exact(au a).symm
 subst m;have s:=(aE.1 d).1;have l:i*n+j<len*n:=by
  have:(i+1)*n<=len*n:=dt _ b;rw[bY,cN]at this;omega
 have k:Z.size=n:=by rw[c.1,f]
 have o:(i*n+j)%Z.size=j:=by rw[k,kY,Nat.mul_add_mod,mo (by omega)]
 have g:j<Z.size:=by omega
 refine⟨Z[j],?_,c.2 j _ p (cK g) d⟩;rw[C1,Array.getElem?_range,aF l];simp only[cP,o];rw[getElem!_pos Z j g]
def yo{t:TypeId}{z:List PV}(h:(qo P t).bind (rowOf P t)=some z):∃i a,P.info? t=some i/\i.zero=some a/\(∀w,(zeroValue t).run P w = .ok a w)/\∀b w,lW b w a.cells z:=by
 obtain⟨k,g,j⟩:=cI.1 h;have e:=g;unfold qo at e;obtain⟨a,f,rfl⟩:=aX.1 e;obtain⟨i,c,d⟩:=cI.1 f;exact⟨i,a,c,d,fun w=>by simp[zeroValue,typeInfo,c,d],fun b w=>(la a ⟨b,fun _=>none,fun _=>undef,fun _=>False⟩ [] w).row j⟩
def On{al:List (List PV)}{n i j:Nat}{p:PV}(c:∀r∈al,r.length=n)(h:jI al i j=some p):i<al.length/\j<n:=by
 obtain⟨r,a,b⟩:=cI.1 h;have:=(aE.1 b).1;rw[c r (aK a)]at this;exact⟨(aE.1 a).1,this⟩
def sT{al:List (List PV)}{n i j:Nat}{p:PV}(a:∀r∈al,r.length=n)(h:jI al i j=some p):i*n+j<al.length*n:=by
 obtain⟨b,c⟩:=On a h;have:(i+1)*n<=al.length*n:=dt _ b;rw[bY,cN]at this;omega
def Flat.rep{n c:Nat}{X:Array Value}{al:List (List PV)}{elem:TypeId}{k gz:Nat->Nat}{w':World}(h:Flat k w n X al)(g:Grow k w gz w')(o:w'.heap[c]?=some (.cells X elem (0,0)))(l:al.length*n<=gz c):
  bW gz w' (.slice (some ⟨c,0,none⟩) al.length al.length) (.sl n al):=by
 obtain⟨q,d,f⟩:=h;refine .sl c 0 _ _ n al (fun i j=>X.getD (i*n+j) undef) rfl (ar _) d (fun i j p a=>?_) fun i j p a=>?_
 .obtain⟨v,b,_⟩:=f i j p a
  rw[cr,df o];exact⟨by rw[b];simp[jj,b],gg (sT d a) l⟩
 .obtain⟨v,b,m⟩:=f i j p a
  have e:X.getD (i*n+j) undef=v:=by simp[jj,b]
  rw[e];exact m.grow g
def Flat.box{b n c:Nat}{X:Array Value}{al:List (List PV)}{elem:TypeId}{a:Gh}{w':World}(h:Flat G.bQ w n X al)(g:Grow G.bQ w a.bQ w')(k:a.bz b)(l:a.h (.box b)=some c)(s:a.val b = .slice (some ⟨c,0,none⟩) al.length al.length)
  (t:w'.heap[c]?=some (.cells X elem (0,0)))(m:a.bQ c=0):fY P a w' b (.bc n al):=by
 obtain⟨x,e,f⟩:=h;refine⟨k,e,.inl ⟨c,X,elem,al.length,l,s,ar _,t,by omega,m,fun i j v p u q=>?_⟩⟩
 obtain⟨y,d,o⟩:=f i j p q;rw[u]at d;obtain rfl:=au d;exact o.grow g
def run_buildSlice{e:Operand->Value}{ρ:Operand->AV}{t len:Nat}{aV:Array (Nat×Operand)}{a:AV}{l:List Prop}(M:∀p∈aV.toList,aL G ad w (e p.2) (ρ p.2)){an:An}{k:Kd}
  (h:plain P (.buildSlice t len aV) an k ρ=some (a,l)):
  ∃X elem n al,a = .v (.sl n al)/\(do pure (.value (<-Instr.buildSlice t len (aV.map fun(i,x)=>(i,e x)))):Sem Next).run P w = .ok (.value (.slice (some ⟨w.heap.size,0,none⟩) al.length al.length)) (w.alloc (.cells X elem))/\Flat G.bQ w n X al:=by
 simp only[plain]at h;split at h<;>try(simp at h;done)
 rename_i E o;split at h<;>try(simp at h;done)
 rename_i n z m Q;split at h<;>try(simp at h;done)
 rename_i v;simp only[bU,fm,ne_eq]at v;obtain⟨⟨Y,K⟩,A⟩:=v;obtain⟨g,J,j⟩:=aX.1 h;simp only[ax]at j;obtain⟨rfl,rfl⟩:=j;obtain⟨i,q,R,F,Z,c⟩:=yo Q;have c:=c G.bQ w;obtain⟨y,b,H,I⟩:=um (e:=e) aV.toList _ _ g J (BB (len:=len) c Y K) M;refine⟨y,E,n,g,rfl,?_,H⟩;have s:(aV.map fun(i,x)=>(i,e x)).toList=aV.toList.map fun p=>(p.1,e p.2):=by simp
 have hlen:g.length=len:=by rw[I];simp
 rw[hlen];apply bG;have u:¬(len*n>2^24):=by omega
 by_cases d:len*n=0
 .have T:len=0:=by rcases Nat.mul_eq_zero.1 d with h|h<;>omega
  subst T;have r:((Array.range (0*n)).map (q.cells[· % q.cells.size]!))= #[]:=by simp
  rw[r]at b;have D:∀f:Nat->Value,((Array.range (0*n)).map f)= #[]:=by intro f;simp
  simp only[Instr.buildSlice,Sem.run_bind,run_underlying o,Result.andThen_ok,dA m,aI u,aF d,Sem.run_pure,s,D,b];simp[newRow]
 .simp only[Instr.buildSlice,Sem.run_bind,run_underlying o,Result.andThen_ok,dA m,d,if_false,Z,u,Sem.run_pure,s,b]
  simp[newRow]
def mA{e:Operand->Value}{ρ:Operand->AV}{t len:Nat}{aV:Array (Nat×Operand)}{a:AV}{l:List Prop}(o:Inv P w0 aJ O G heap w)(y:∀p∈aV.toList,aL G ad w (e p.2) (ρ p.2)){an:An}{k:Kd}
  (h:plain P (.buildSlice t len aV) an k ρ=some (a,l)):
  ∃n al,a = .v (.sl n al)/\∃v w',(do pure (.value (<-Instr.buildSlice t len (aV.map fun(i,x)=>(i,e x)))):Sem Next).run P w = .ok (.value v) w' /\
   (∃d,lf P w0 aJ O G ad w (.v (.sl n al)) ad heap v d w')/\(∃d,lf P w0 aJ O G ad w (.own ad.length 0 n al) (ad++[some 0]) heap v d w')/\
   ∀nb j,cm nb [.bc n al] heap=some j->∃d,lf P w0 aJ O G ad w (.bo nb) ad j v d w':=by
 obtain⟨X,elem,n,al,rfl,z,f⟩:=run_buildSlice y h;refine⟨n,al,rfl,_,_,z,?_,?_,fun nb j s=>?_⟩
 .obtain⟨g,c⟩:=o.IP (ad:=ad) (br:=ad) (.cells X elem) X.size ad.length (ar _) fun t n h q=>⟨n,h,.inr ⟨rfl,by omega⟩⟩
  exact⟨_,.v (f.rep c.grow (heap_alloc_new w _) (by show _<=kp _ _ _ _;rw[fx,f.1];exact ar _)),g,c⟩
 .obtain⟨g,c⟩:=o.IP (ad:=ad) (br:=ad++[some 0]) (.cells X elem) X.size ad.length (by simp) fun t n h q=>by
   rw[bX q]at h;exact⟨n,h,.inr ⟨rfl,by omega⟩⟩
  exact⟨_,.own (by simp) (fun m u=>by simp at u;omega) (f.rep c.grow (heap_alloc_new w _) (by show _<=kp _ _ _ _;rw[fx,f.1];exact ar _)) fun _ D=>by omega,g,c⟩
 .obtain⟨r,rfl⟩:=hQ s
  obtain⟨g,c⟩:=o.vv (ad:=ad) (.cells X elem) 0 (.slice (some ⟨w.heap.size,0,none⟩) al.length al.length) (.bc n al) r (by simp) fun k=>
   f.box k.grow (.inr rfl) (by simp) (by simp) (heap_alloc_new w _) (fx _ _ _)
  have E:(if nb=nb then Value.slice (some ⟨w.heap.size,0,none⟩) al.length al.length else G.val nb)=.slice (some ⟨w.heap.size,0,none⟩) al.length al.length:=aF rfl
  refine⟨_,?_,g,c⟩;have:=aL.bo (G:=⟨kp G.bQ w.heap.size 0,fun x=>open Classical in if x = .box nb then some w.heap.size else G.h x,fun b=>if b=nb then .slice (some ⟨w.heap.size,0,none⟩) al.length al.length else G.val b,fun b=>G.bz b\/b=nb⟩) (ad:=ad) (w:=w.alloc (.cells X elem)) (b:=nb) (.inr rfl) (by simp[Value.oneCell'])
  simpa using this
def A1{t a n c nb:Nat}{z:List PV}{V U:Value}{k p:IntKind}{m:Int}{l:List Bx}(h:Inv P w0 aJ O G heap w)(D:aL G ad w V (.v (.int k m)))(E:aL G ad w U (.v (.int p m)))
  (r:P.underlying t=some (.slice a))(f:ck P a=some n)(e:ya P a=some c)(H:(qo P a).bind (rowOf P a)=some z)(M:z.length=n)(Y:0<n)(Z:0<c)(o:0<=m)(F:m*c<=2^47)
  (y:cm nb [.bc n (List.replicate m.toNat z)] heap=some l):
  ∃v w',(do pure (.value (<-Instr.makeSlice t V U)):Sem Next).run P w = .ok (.value v) w'/\∃s,lf P w0 aJ O G ad w (.bo nb) ad l v s w':=by
 rw[D.gh,E.gh];obtain⟨i,g,j,K,R,d⟩:=yo H;have d:=d G.bQ w;have u:=BB (len:=m.toNat) d M (by omega)
 have T:i.size=n:=by
  unfold ck at f;rw[j]at f;simpa using f
 have Q:i.bytes=c:=by
  unfold ya at e;rw[j]at e;simpa using e
 have A:m<=m*c:=by
  have:m*1<=m*c:=Int.mul_le_mul_of_nonneg_left (by omega) o
  rwa [Int.mul_one]at this
 have q:=run_make (P:=P) w t a i g r j K k p m m o (dY _) (by rw[Q,Int.mul_comm];omega) (by omega)
 rw[T]at q;obtain⟨X,rfl⟩:=hQ y;have hlen:(List.replicate m.toNat z).length=m.toNat:=by simp
 obtain⟨I,J⟩:=h.vv (ad:=ad) (.cells (madeCells g.cells (m.toNat*n)) a) 0 (.slice (some ⟨w.heap.size,0,none⟩) m.toNat m.toNat) (.bc n (List.replicate m.toNat z)) X (by simp) fun k=>
  u.box k.grow (.inr rfl) (by simp) (by simp[hlen]) (heap_alloc_new w _) (fx _ _ _)
 refine⟨_,_,bG _ q,_,?_,I,J⟩;have:=aL.bo (G:=⟨kp G.bQ w.heap.size 0,fun x=>open Classical in if x = .box nb then some w.heap.size else G.h x,fun b=>if b=nb then .slice (some ⟨w.heap.size,0,none⟩) m.toNat m.toNat else G.val b,fun b=>G.bz b\/b=nb⟩) (ad:=ad) (w:=w.alloc (.cells (madeCells g.cells (m.toNat*n)) a)) (b:=nb) (.inr rfl) (by simp[Value.oneCell'])
 simpa using this
def IW{a b:List (List PV)}{i j:Nat}{p:PV}(h:jI (a++b) i j=some p):(i<a.length/\jI a i j=some p)\/(a.length<=i/\jI b (i-a.length) j=some p):=by
 unfold jI at*;rcases bR i a.length with c|c
 .rw[bX c]at h;exact .inl ⟨c,h⟩
 .rw[ei c]at h;exact .inr ⟨c,h⟩
structure hX (bQ:Nat->Nat) (w:World) (n:Nat) (l:List Value) (al:List (List PV)):Prop where
 len:l.length=al.length*n
 row:∀r∈al,r.length=n
 get:∀i j p,jI al i j=some p->∃v,l[i*n+j]?=some v/\bW bQ w v p
def KG{al:List (List PV)}{n j:Nat}(d:∀r∈al,r.length=n)(b:j<al.length*n):∃p,jI al (j/n) (j%n)=some p/\j/n*n+j%n=j:=by
 have e:0<n:=by
  rcases C0 n with h|h
  .subst h;simp at b
  .exact h
 have a:j/n<al.length:=Nat.div_lt_of_lt_mul (by rwa [kY]at b)
 have c:j%n<(al[j/n]).length:=by rw[d _ (gv a)];exact Nat.mod_lt _ e
 exact⟨_,by simp only[jI,bk a,fS];exact bk c,Nat.div_add_mod' j n⟩
def hX.one{i:Nat->Nat}{n:Nat}{l:List Value}{al:List (List PV)}(h:hX i w n l al):∀u∈l,u.oneCell'=true:=by
 intro u g;obtain⟨j,a⟩:=rM.1 g;have c:=(aE.1 a).1;rw[h.len]at c;obtain⟨p,e,d⟩:=KG h.row c;obtain⟨v,b,f⟩:=h.get _ _ _ e;rw[d,a]at b;obtain rfl:=au b;exact f.fM
def hX.grow{a gz:Nat->Nat}{w':World}{n:Nat}{l:List Value}{al:List (List PV)}(h:hX a w n l al)(g:Grow a w gz w'):hX gz w' n l al:=
 ⟨h.len,h.row,fun i j p b=>by obtain⟨v,d,c⟩:=h.get i j p b;exact⟨v,d,c.grow g⟩⟩
def hX.append{d:Nat->Nat}{n:Nat}{l m:List Value}{al f:List (List PV)}(h:hX d w n l al)(k:hX d w n m f):hX d w n (l++m) (al++f):=by
 refine⟨by simp[h.len,k.len,bY],fun r o=>(bC.1 o).elim (h.row r) (k.row r),fun i j p g=>?_⟩
 rcases IW g with⟨e,b⟩|⟨e,b⟩
 .obtain⟨v,a,c⟩:=h.get i j p b
  exact⟨v,by rw[bX (aE.1 a).1];exact a,c⟩
 .obtain⟨v,a,c⟩:=k.get _ j p b
  refine⟨v,?_,c⟩;have q:al.length*n<=i*n:=dt _ e;rw[ei (by rw[h.len];omega),h.len]
  have:i*n+j-al.length*n=(i-al.length)*n+j:=by
   rw[Nat.sub_mul];omega
  rw[this];exact a
def bW.flat{k:Nat->Nat}{A:Option Addr}{len cap n:Nat}{al:List (List PV)}(h:bW k w (.slice A len cap) (.sl n al)):
  al.length=len/\len<=cap/\∃l:List Value,hX k w n l al/\((len=0/\cap=0)\/∃b off,A=some ⟨b,off,none⟩/\∀(j:Nat)u,l[j]?=some u->w.cell? ⟨b,off+j,none⟩=some u/\off+j<k b):=by
 cases h with
 |mw=>exact⟨rfl,ar _,[],⟨by simp,by simp,fun i j p c=>by simp[jI]at c⟩,.inl ⟨rfl,rfl⟩⟩
 |Is a=>exact⟨rfl,ar _,[],⟨by simp,by simp,fun i j p c=>by simp[jI]at c⟩,.inl ⟨rfl,rfl⟩⟩
 |sl b off len cap n al u d x e r z=>
  refine⟨d,x,(List.range (len*n)).map (fun j=>u (j/n) (j%n)),⟨by simp[d],e,fun i j p c=>?_⟩,.inr ⟨b,off,rfl,fun j v o=>?_⟩⟩
  .obtain⟨D,m⟩:=On e c
   have q:=sT e c;rw[d]at q;refine⟨u i j,?_,z i j p c⟩;rw[bp,lR q];simp only[cP];have s:(i*n+j)/n=i:=by
    rw[kY,Nat.mul_add_div (by omega),Nat.div_eq_of_lt m];omega
   have t:(i*n+j)%n=j:=by rw[kY,Nat.mul_add_mod,mo m]
   rw[s,t]
  .rw[bp]at o
   obtain⟨E,f,rfl⟩:=aX.1 o;have g:=(aE.1 f).1;simp at g;rw[lR g]at f;obtain rfl:=au f;obtain⟨p,c,y⟩:=KG e (by rw[d];exact g)
   have:=r _ _ _ c;rw[gp,y]at this;exact this
def uo{d:Nat->Nat}{x:Value}{n:Nat}{b:List (List PV)}(h:bW d w x (.sl n b)):∃A m c,x = .slice A m c:=by
 cases h with
 |mw=>exact⟨_,_,_,rfl⟩
 |Is a=>exact⟨_,_,_,rfl⟩
 |sl=>exact⟨_,_,_,rfl⟩
def DL{k:Nat->Nat}{A:Option Addr}{m c n:Nat}{tx i:TypeId}{l:List Value}{al:List (List PV)}(f:P.underlying tx=some (.slice i))(h:hX k w n l al)(g:al.length=m)
  (d:(m=0/\c=0)\/∃b off,A=some ⟨b,off,none⟩/\∀(j:Nat)u,l[j]?=some u->w.cell? ⟨b,off+j,none⟩=some u):Src P n tx (.slice A m c) m l w:=by
 rcases d with⟨rfl,rfl⟩|⟨b,off,rfl,d⟩
 .have:l=[]:=by have:=h.len;rw[g]at this;simpa using this
  subst this;cases A with
  |none=>exact Src.ofNil w f 0
  |some a=>exact Src.ofSlice w f _ _ _ [] (by simp) (fun j u e=>by simp at e) (by simp)
 .exact Src.ofSlice w f _ _ _ l (by rw[h.len,g]) (fun j u e=>by rw[nq];exact d j u e) h.one
def yq{t tx ty a K:TypeId}{i:TypeInfo}{z:Value}{A:Option Addr}{len cap n:Nat}{x:Value}{al d:List (List PV)}{nR:List Value}
  (v:P.underlying t=some (.slice a))(Q:P.underlying tx=some (.slice K))(F:P.info? a=some i)(I:i.zero=some z)(D:i.size=n)(T:z.cells.size=n)
  (g:hX G.bQ w n nR al)(hlen:al.length=len)(hold:(len=0/\cap=0)\/∃b off,A=some ⟨b,off,none⟩/\∀(j:Nat)u,nR[j]?=some u->w.cell? ⟨b,off+j,none⟩=some u)(y:bW G.bQ w x (.sl n d))
  (M:0<i.bytes)(e:(al++d).length*i.bytes<=2^47)(C:cap<len+d.length):
  ∃X q,(Builtin.append_ #[t,tx] ty #[.slice A len cap,x]).run P w = .ok (.slice (some ⟨w.heap.size,0,none⟩) (al++d).length q) (w.drew.alloc (.cells X a))/\
   (al++d).length<=q/\q*n<=X.size/\∃l,hX G.bQ w n l (al++d)/\∀j:Nat,j<l.length->X[j]?=l[j]?:=by
 obtain⟨B,m,c,rfl⟩:=uo y;obtain⟨o,L,news,p,J⟩:=y.flat;have Z:Src P i.size tx (.slice B m c) m news w:=by
  rw[D];exact DL Q p o (J.imp id fun⟨b,off,H,h⟩=>⟨b,off,H,fun j u k=>(h j u k).1⟩)
 have R:(Builtin.firstCells i.size len (.slice A len cap)).run P w.drew = .ok nR.toArray w.drew:=by
  have:Src P i.size t (.slice A len cap) len nR w:=by
   rw[D];exact DL v g hlen hold
  exact this.cellsD
 have f:(al++d).length=len+m:=by simp[hlen,o]
 have N:(len+m)<=2^47:=by
  rw[f]at e;exact dF (Nat.le_mul_of_pos_right _ M) e
 have r:cap<len+m:=by omega
 have E:=run_append_grow_src (P:=P) w t tx ty a i z v F I A len cap nR R (.slice B m c) m news Z r (by omega) (growslice_fits r (by rw[f]at e;exact e))
 have Y:=grownCap_ge w (len+m) cap a;generalize s:((nR++news).toArray++Builtin.zeroCells z.cells (grownCap w (len+m) cap a-(len+m)))=X at E;refine⟨X,grownCap w (len+m) cap a,by rw[f];exact E,by rw[f];exact Y,?_,nR++news,g.append p,fun j k=>?_⟩
 .rw[<-s]
  simp[Builtin.zeroCells,T,g.len,p.len,hlen,o];rw[<-bY,<-bY];have:len+m+(grownCap w (len+m) cap a-(len+m))=grownCap w (len+m) cap a:=by omega
  rw[this];exact ar _
 .rw[<-s,Array.getElem?_append_left (by simpa using k)]
  simp
def hX.rep{n c g:Nat}{X:Array Value}{l:List Value}{al:List (List PV)}{elem:TypeId}{d:Nat->Nat}{w':World}(h:hX d w' n l al)(k:∀j:Nat,j<l.length->X[j]?=l[j]?)(q:w'.heap[c]?=some (.cells X elem (0,0)))
  (o:al.length*n<=d c)(m:al.length<=g):bW d w' (.slice (some ⟨c,0,none⟩) al.length g) (.sl n al):=by
 have key:∀i j p,jI al i j=some p->∃v,X[i*n+j]?=some v/\bW d w' v p:=fun i j p b=>by
  obtain⟨v,a,f⟩:=h.get i j p b;exact⟨v,by rw[k _ (aE.1 a).1];exact a,f⟩
 refine .sl c 0 _ _ n _ (fun i j=>X.getD (i*n+j) undef) rfl m h.row (fun i j p b=>?_) fun i j p b=>?_
 .obtain⟨v,a,_⟩:=key i j p b
  rw[cr,df q,a];exact⟨by simp[jj,a],gg (sT h.row b) o⟩
 .obtain⟨v,a,f⟩:=key i j p b
  have e:X.getD (i*n+j) undef=v:=by simp[jj,a]
  rw[e];exact f
def World.DM{b off:Nat}{X:Array Value}{elem:TypeId}{d:List Value}(h:w.heap[b]?=some (.cells X elem (0,0)))(f:off+d.length<=X.size)(e:∀v∈d,v.oneCell'=true):
  w.setCells b off d=w.setRow b (X.toList.take off++d++X.toList.drop (off+d.length)).toArray:=by
 have a:=run_storeCells_at (P:=(default:Program)) b off elem d 0 X w h (by simpa using f) e
 have c:=run_storeCells_cells (P:=(default:Program)) b off d 0 w (fun j g=>by
  rw[hE,df h];simp;omega) (fun j g=>by simp[World.frozen?,h]) e
 rw[a]at c;injection c with _ c
 simp only[hE]at c;exact c.symm
def FR{t tx ty g z:TypeId}{i:TypeInfo}{b off len cap n:Nat}{x:Value}{a:List (List PV)}{X:Array Value}{elem:TypeId}
  (s:P.underlying t=some (.slice g))(D:P.underlying tx=some (.slice z))(I:P.info? g=some i)(l:i.size=n)
  (o:bW G.bQ w x (.sl n a))(J:len+a.length<=cap)(k:w.heap[b]?=some (.cells X elem (0,0)))(M:off+cap*n<=X.size):
  ∃news e,(Builtin.append_ #[t,tx] ty #[.slice (some ⟨b,off,none⟩) len cap,x]).run P w = .ok (.slice (some ⟨b,off,none⟩) (len+a.length) cap) (w.setRow b e)/\hX G.bQ w n news a/\e.size=X.size /\
   (∀j,j<off+len*n->e[j]?=X[j]?)/\∀j,j<news.length->e[off+len*n+j]?=news[j]?:=by
 obtain⟨B,m,c,rfl⟩:=uo o;obtain⟨v,K,news,f,y⟩:=o.flat;subst v;have H:Src P i.size tx (.slice B a.length c) a.length news w:=by
  rw[l];exact DL D f rfl (y.imp id fun⟨b,off,q,h⟩=>⟨b,off,q,fun j u d=>(h j u d).1⟩)
 have E:off+len*n+news.length<=X.size:=by
  rw[f.len];have:(len+a.length)*n<=cap*n:=dt _ (by omega)
  rw[bY]at this;omega
 have p:=run_append_room_src (P:=P) w t tx ty g i s I b off len cap (.slice B a.length c) a.length news H (by omega) (fun j d=>by
  rw[l,df k];simp;omega) (fun j d=>by simp[World.frozen?,k])
 rw[l,World.DM k E f.one]at p;refine⟨news,_,p,f,by simp;omega,fun j d=>?_,fun j d=>?_⟩
 .simp only[tW]
  rw[bX (by simp;omega),bX (by simp;omega),eS,aF d]
  simp
 .simp only[tW]
  have r:(X.toList.take (off+len*n)).length=off+len*n:=by simp;omega
  rw[bX (by simp;omega),ei (by omega),r]
  congr 1
  omega
def qy{t tx ty f r:TypeId}{i:TypeInfo}{A:Option Addr}{len cap n:Nat}{x:Value}(k:P.underlying t=some (.slice f))(e:P.underlying tx=some (.slice r))(q:P.info? f=some i)(D:i.size=n)
  {E:Nat->Nat}(g:len<=cap)(l:bW E w x (.sl n [])):(Builtin.append_ #[t,tx] ty #[.slice A len cap,x]).run P w = .ok (.slice A len cap) w:=by
 obtain⟨B,m,c,rfl⟩:=uo l;obtain⟨o,H,news,p,z⟩:=l.flat;simp at o;subst o;have d:Src P i.size tx (.slice B 0 c) 0 news w:=by
  rw[D];exact DL e p (by simp) (z.imp id fun⟨b,off,s,h⟩=>⟨b,off,s,fun j u v=>(h j u v).1⟩)
 have y:news=[]:=by have:=p.len;simpa using this
 subst y;cases A with
 |none=>simp[Builtin.append_,run_underlying k,run_underlying e,sizeOf,typeInfo,q,d.len,g,d.cells]
 |some a=>simp[Builtin.append_,run_underlying k,run_underlying e,sizeOf,typeInfo,q,d.len,g,d.cells,storeCells]
def sJ{t tx ty q a7:TypeId}{i:TypeInfo}{z:Value}{A:Option Addr}{tk MK len cap n:Nat}{x:Value}{al a:List (List PV)}{br:List (Option Nat)}(K:Inv P w0 aJ O G heap w)
  (T:P.underlying t=some (.slice q))(C:P.underlying tx=some (.slice a7))(V:P.info? q=some i)(hz:i.zero=some z)(R:i.size=n)(b5:z.cells.size=n)(a9:0<i.bytes)
  (hV:bW G.bQ w (.slice A len cap) (.sl n al))(Y:bW G.bQ w x (.sl n a))(b8:(al++a).length*i.bytes<=2^47)
  (a3:br[tk]?=some (some MK))(hlen:ad.length<=br.length)(S:∀(t:Nat)n,br[t]?=some (some n)->t<ad.length->∃m,ad[t]?=some (some m)/\(m<n\/(m=n/\t≠tk)))
  (a6:len<cap->Room G (.tok tk) w A len cap n):
  ∃v w',(Builtin.append_ #[t,tx] ty #[.slice A len cap,x]).run P w = .ok v w'/\∃G',lf P w0 aJ O G ad w (.own tk MK n (al++a)) br heap v G' w':=by
 obtain⟨H,l2,nR,I,o2⟩:=hV.flat;have B:tk<br.length:=(aE.1 a3).1;have U:∀m:Nat,br[tk]?=some (some m)->MK<=m:=fun m f=>by rw[a3]at f;simp at f;omega
 by_cases a4:a=[]
 .subst a4
  rw[eG];have k:cb G ad w G br w:=⟨Grow.refl _ _,fun _ h=>h,fun _ _=>rfl,hlen,fun t n h s=>by
   obtain⟨m,f,g|⟨g,_⟩⟩:=S t n h s
   .exact⟨m,f,.inl g⟩
   .exact⟨m,f,.inr ⟨g,fun b E=>⟨E,rfl,rfl⟩⟩⟩⟩
  exact⟨_,_,qy T C V R l2 Y,G,.own B U hV fun _ y=>a6 y y,K,k⟩
 .have c1:0<a.length:=C5.2 a4
  rcases bR cap (len+a.length)with J|J
  .obtain⟨X,nc,N,b7,F,l,s,a8⟩:=yq (ty:=ty) (x:=x) T C V hz R b5 I H (o2.imp id fun⟨b,off,r,h⟩=>⟨b,off,r,fun j u hj=>(h j u hj).1⟩) Y a9 b8 J
   obtain⟨i0,k0⟩:=K.drew (ad:=ad);obtain⟨Z,k1⟩:=i0.IP (ad:=ad) (br:=br) (.cells X q) ((al++a).length*n) tk hlen S;have hw:(w.drew.alloc (.cells X q)).heap[w.heap.size]?=some (.cells X q (0,0)):=heap_alloc_new w.drew _;refine⟨_,_,N,_,.own B U ?_ fun _ y=>?_,Z,k0.trans k1⟩
   .exact(s.grow (k0.trans k1).grow).rep a8 hw (by show _<=kp _ _ _ _;rw[show w.drew.heap.size=w.heap.size from rfl,fx];exact ar _) b7
   .exact⟨w.heap.size,0,X,q,rfl,aF rfl,by show kp _ _ _ _=_;rw[show w.drew.heap.size=w.heap.size from rfl,fx,cr],hw,by omega⟩
  .obtain⟨b,off,X,elem,rfl,E,s,D,F⟩:=a6 (by omega) (by omega)
   obtain⟨news,c,N,n1,b4,a1,b0⟩:=FR (ty:=ty) T C V R Y J D F;rcases o2 with⟨_,h⟩|⟨b',c2,r,c0⟩
   .omega
   simp only[aw,Addr.mk.injEq,and_true]at r;obtain⟨rfl,rfl⟩:=r;have a0:(w.setRow b c).heap[b]?=some (.cells c elem (0,0)):=setRow_heap w b X c elem (0,0) D;let gz:Nat->Nat:=fun x=>if x=b then off+(len+a.length)*n else G.bQ x
   have W:gz b=off+(len+a.length)*n:=by simp[gz]
   have hmul:(len+a.length)*n=len*n+a.length*n:=bY _ _ _;obtain⟨k,b6⟩:=K.write (ad:=ad) (br:=br) (gz:=gz) E (w':=w.setRow b c) (by rw[size_setRow]) rfl rfl rfl (fun m f=>⟨fp w b m c f,by simp[gz,f]⟩) (by rw[W,s];omega)
    (fun o ho=>by rw[df a0,df D];exact a1 o (by rw[s]at ho;exact ho)) hlen (fun t m h b1=>by
     obtain⟨m',a2,g|⟨g,b2⟩⟩:=S t m h b1
     .exact⟨m',a2,.inl g⟩
     .exact⟨m',a2,.inr ⟨g,fun e=>b2 (by simpa using e.symm)⟩⟩)
   have Z:=b6 heap rfl (fun b' _=>rfl) (fun b' bx b3=>by simp[Hd.on]at b3)
   have a5:(al++a).length=len+a.length:=by simp[H]
   refine⟨_,_,N,_,.own B U ?_ fun _ _=>?_,Z,k⟩
   .have L:=(I.grow k.grow).append (n1.grow k.grow)
    refine .sl b off _ _ n _ (fun i j=>c.getD (off+i*n+j) undef) a5 (by omega) L.row (fun i j p Q=>?_) fun i j p Q=>?_
    all_goals
     have y:=sT L.row Q;rw[a5]at y;have b9:∃v,c[off+i*n+j]?=some v/\bW gz (w.setRow b c) v p:=by
      obtain⟨v,d,M⟩:=L.get i j p Q;refine⟨v,?_,M⟩;rcases bR (i*n+j) nR.length with h|h
      .rw[bX h]at d
       have hc:=(c0 _ _ d).1;rw[df D]at hc;have:=I.len;rw[a1 _ (by rw[H]at this;omega),gp]
       exact hc
      .rw[ei h]at d
       have h2:=(aE.1 d).1;have:=I.len;rw[H]at this;rw[<-b0 _ h2]at d;rw[show off+i*n+j=off+len*n+(i*n+j-nR.length) by omega]
       exact d
     obtain⟨v,d,M⟩:=b9
    .rw[df a0,d]
     exact⟨by simp[jj,d],by show _<gz b;rw[W];omega⟩
    .have e:c.getD (off+i*n+j) undef=v:=by simp[jj,d]
     rw[e];exact M
   .exact⟨b,off,c,elem,rfl,E,W,a0,by rw[b4];exact F⟩
def Inv.kill(c:Inv P w0 aJ O G heap w){b:Nat}(d:G.bz b):Inv P w0 aJ O G (heap.set b .dead) w:=by
 refine⟨c.frame,fun b' h=>by rw[eH];exact c.nb b' h,fun b' bx a=>?_,c.inj,c.nf,fun b' n a=>?_⟩
 .by_cases h:b'=b
  .subst h
   rw[bN (c.nb _ d)]at a;obtain rfl:=au a;exact d
  .rw[bM (fun e=>h e.symm)]at a
   exact c.box _ _ a
 .by_cases h:b'=b
  .subst h
   rw[bN (c.nb _ d)]at a;simp at a
  .rw[bM (fun e=>h e.symm)]at a
   exact c.dead _ _ a
def Inv.DN(d:Inv P w0 aJ O G heap w){b nb:Nat}{V:Value}{bx:Bx}(i:G.bz b)(k:heap[nb]?=some .free)(q:bx≠.free):
  let g:Gh:=⟨G.bQ,(G.dq (mv (.box b) (.box nb))).h,fun b'=>if b'=nb then V else G.val b',fun b'=>G.bz b'\/b'=nb⟩
  fY P g w nb bx->Inv P w0 aJ O g ((heap.set b .dead).set nb bx) w/\cb G ad w g ad w:=by
 intro g u;have o:¬G.bz nb:=d.box _ _ k;have v:b≠nb:=fun e=>o (e▸i)
 have j:=(aE.1 k).1;have n:∀b',G.bz b'->(fun b'=>if b'=nb then V else G.val b') b'=G.val b':=fun b' h=>by
  have:b'≠nb:=fun e=>o (e▸h)
  simp[this]
 have p:cb G ad w g ad w:=.ghost _ (fun _ h=>.inl h) n (ar _) fun t m h _=>⟨m,h,.inr ⟨rfl,dN (by simp) (by simp)⟩⟩
 refine⟨d.ghost _ (DJ _ _) (fun b' h=>?_) (fun b' ue a=>?_) (fun b' m a=>?_),p⟩
 .rw[eH,eH]
  rcases h with h|rfl
  .exact d.nb b' h
  .exact j
 .by_cases c:b'=nb
  .subst c
   rw[bN (by simpa using j)]at a
   obtain rfl:=au a;exact u
  .rw[bM (fun e=>c e.symm)]at a
   by_cases f:b'=b
   .subst f
    rw[bN (d.nb _ i)]at a;obtain rfl:=au a;exact .inl i
   .rw[bM (fun e=>f e.symm)]at a
    refine(d.box b' ue a).dq (fun _ h=>.inl h) n (fun s=>?_) fun x l=>dN (fun e=>?_) fun e=>?_
    .subst s
     have:=d.box _ _ a;rintro(h|h)
     .exact this h
     .exact c h
    .subst e;exact c l.symm
    .subst e;exact f l.symm
 .by_cases c:b'=nb
  .subst c
   rw[bN (by simpa using j)]at a
   exact absurd (au a) q
  .rw[bM (fun e=>c e.symm)]at a
   by_cases f:b'=b
   .subst f
    rw[bN (d.nb _ i)]at a;simp at a
   .rw[bM (fun e=>f e.symm)]at a
    have:=d.dead b' m a;simpa[Gh.dq,dN (x:=.box b) (y:=.box nb) (z:=.box b') (by simpa using c) (by simpa using f)]using this
def aL.ML{b:Nat}{v:Value}(a:G.bz b)(d:G.val b=v)(c:v.oneCell'=true):aL G ad w v (.bo b):=by
 subst d;exact .bo a c
def Inv.DO(v:Inv P w0 aJ O G heap w){b n:Nat}{al:List (List PV)}{V:Value}(f:aL G ad w V (.bo b))(u:heap[b]?=some (.bc n al)):
  V=G.val b/\G.bz b/\(∀r∈al,r.length=n)/\∃A cap nR,V = .slice A al.length cap/\al.length<=cap/\hX G.bQ w n nR al /\
   ((al.length=0/\cap=0)\/∃a X elem,A=some ⟨a,0,none⟩/\G.h (.box b)=some a/\w.heap[a]?=some (.cells X elem (0,0))/\cap*n<=X.size/\G.bQ a=0/\nR=X.toList.take (al.length*n)):=by
 have t:V=G.val b/\G.bz b:=by
  cases f with
  |bo c y=>exact⟨rfl,c⟩
 obtain⟨rfl,c⟩:=t;obtain⟨_,e,⟨a,X,elem,cap,m,g,k,o,l,q,s⟩|⟨rfl,A,g⟩⟩:=v.box _ _ u
 .have z:al.length*n<=X.size:=dF (dt _ k) l
  refine⟨rfl,c,e,_,cap,X.toList.take (al.length*n),g,k,⟨by simp;omega,e,fun i j p d=>?_⟩,.inr ⟨a,X,elem,rfl,m,o,l,q,rfl⟩⟩
  have x:=sT e d;have f:X[i*n+j]?=some X[i*n+j]:=cK (by omega)
  exact⟨_,by rw[eS,aF x];simpa using f,s _ _ _ _ f d⟩
 .exact⟨rfl,c,e,A,0,[],g,ar _,⟨by simp,by simp,fun i j p d=>by simp[jI]at d⟩,.inl ⟨rfl,rfl⟩⟩
def hX.box{b n a cap:Nat}{l:List Value}{X:Array Value}{al:List (List PV)}{elem:TypeId}(h:hX G.bQ w n l al)(g:G.bz b)(k:G.h (.box b)=some a)(t:G.val b = .slice (some ⟨a,0,none⟩) al.length cap)
  (u:w.heap[a]?=some (.cells X elem (0,0)))(f:al.length<=cap)(s:cap*n<=X.size)(m:G.bQ a=0)(e:∀j:Nat,j<l.length->X[j]?=l[j]?):fY P G w b (.bc n al):=by
 refine⟨g,h.row,.inl ⟨a,X,elem,cap,k,t,f,u,s,m,fun i j v p c q=>?_⟩⟩
 obtain⟨x,d,o⟩:=h.get i j p q;rw[e _ (aE.1 d).1,d]at c;obtain rfl:=au c;exact o
def A2{t tx ty g U:TypeId}{i:TypeInfo}{z:Value}{n nb:Nat}{x:Value}{d:List (List PV)}{u:List Bx}(c:Inv P w0 aJ O G heap w)
  (E:P.underlying t=some (.slice g))(J:P.underlying tx=some (.slice U))(Y:P.info? g=some i)(B:i.zero=some z)(I:i.size=n)(a2:z.cells.size=n)(a0:0<i.bytes)
  (o:bW G.bQ w x (.sl n d))(a3:d.length*i.bytes<=2^47)(Z:cm nb [.bc n d] heap=some u):
  ∃v w',(Builtin.append_ #[t,tx] ty #[.slice none 0 0,x]).run P w = .ok v w'/\∃f,lf P w0 aJ O G ad w (.bo nb) ad u v f w':=by
 obtain⟨s,rfl⟩:=hQ Z;have a4:¬G.bz nb:=c.box _ _ s;have q:=(aE.1 s).1;by_cases K:d=[]
 .subst K
  let f:Gh:=⟨G.bQ,(G.dq some).h,fun b'=>if b'=nb then .slice none 0 0 else G.val b',fun b'=>G.bz b'\/b'=nb⟩
  have T:∀b',G.bz b'->(fun b'=>if b'=nb then Value.slice none 0 0 else G.val b') b'=G.val b':=fun b' h=>by
   have:b'≠nb:=fun e=>a4 (e▸h)
   simp[this]
  have F:cb G ad w f ad w:=.ghost _ (fun _ h=>.inl h) T (ar _) fun t m h _=>⟨m,h,.inr ⟨rfl,rfl⟩⟩
  refine⟨_,_,qy E J Y I (ar _) o,f,.ML (.inr rfl) (by simp[f]) rfl,c.ghost some (fun x y z b r=>by simp at b r;rw[b,r]) (fun b' h=>?_) (fun b' bx a=>?_) (fun b' m a=>?_),F⟩
  .rw[eH]
   rcases h with h|rfl
   .exact c.nb b' h
   .exact q
  .by_cases b:b'=nb
   .subst b
    rw[bN q]at a;obtain rfl:=au a;exact⟨.inr rfl,by simp,.inr ⟨rfl,none,by simp⟩⟩
   .rw[bM (fun e=>b e.symm)]at a
    refine(c.box b' bx a).dq (fun _ h=>.inl h) T (fun a1=>?_) fun x o=>rfl
    subst a1;have:=c.box _ _ a;rintro(h|h)
    .exact this h
    .exact b h
  .by_cases b:b'=nb
   .subst b
    rw[bN q]at a;simp at a
   .rw[bM (fun e=>b e.symm)]at a
    have:=c.dead b' m a;simpa[Gh.dq]using this
 .have a5:0<d.length:=C5.2 K
  obtain⟨X,S,Q,M,W,l,D,V⟩:=yq (ty:=ty) (x:=x) (A:=none) (len:=0) (cap:=0) (al:=[]) (nR:=[]) (G:=G) E J Y B I a2 ⟨by simp,by simp,fun i j p R=>by simp[jI]at R⟩ rfl (.inl ⟨rfl,rfl⟩) o a0 (by simpa using a3) (by omega)
  simp only[ea]at Q M D;obtain⟨C,H⟩:=c.drew (ad:=ad);obtain⟨L,N⟩:=C.vv (ad:=ad) (.cells X g) 0 (.slice (some ⟨w.heap.size,0,none⟩) d.length S) (.bc n d) s (by simp) fun k=>
   hX.box (D.grow (H.trans k).grow) (.inr rfl) (aF rfl) (aF rfl) (heap_alloc_new w.drew _) M W (fx _ _ _) V
  refine⟨_,_,Q,_,?_,L,H.trans N⟩;exact .ML (.inr rfl) (aF rfl) rfl
def A4{t tx ty Y a5:TypeId}{i:TypeInfo}{z:Value}{b n nb:Nat}{s x:Value}{al a:List (List PV)}{h':List Bx}(K:Inv P w0 aJ O G heap w)
  (F:P.underlying t=some (.slice Y))(L:P.underlying tx=some (.slice a5))(U:P.info? Y=some i)(hz:i.zero=some z)(C:i.size=n)(b0:z.cells.size=n)(a9:0<i.bytes)
  (hs:aL G ad w s (.bo b))(H:heap[b]?=some (.bc n al))
  (R:bW G.bQ w x (.sl n a))(b2:(al++a).length*i.bytes<=2^47)(hf:cm nb [.bc n (al++a)] (heap.set b .dead)=some h'):
  ∃v w',(Builtin.append_ #[t,tx] ty #[s,x]).run P w = .ok v w'/\∃G',lf P w0 aJ O G ad w (.bo nb) ad h' v G' w':=by
 obtain⟨W,rfl⟩:=hQ hf;have a8:=(aE.1 H).1;obtain⟨hV,I,hr,A,cap,nR,rfl,B,o,D⟩:=K.DO hs H;have a0:b≠nb:=fun e=>by
  subst e;rw[bN a8]at W;simp at W
 have S:heap[nb]?=some .free:=by rwa [bM a0]at W
 have b4:(heap.set b .dead).set nb (.bc n (al++a))=(heap.set nb (.bc n (al++a))).set b .dead:=by
  rw[List.set_comm _ _ a0]
 by_cases a3:a=[]
 .subst a3
  rw[eG];obtain⟨y,g⟩:=K.DN (ad:=ad) (nb:=nb) (V:=.slice A al.length cap) (bx:=.bc n al) I S (by simp) (by
   refine⟨.inr rfl,hr,?_⟩;rcases D with⟨d,c⟩|⟨m,X,elem,rfl,d,c,Z,q,r⟩
   .have:al=[]:=gS.1 d
    subst this;subst c;exact .inr ⟨rfl,A,by simp⟩
   .refine .inl ⟨m,X,elem,cap,by simp[Gh.dq,rR,d],by simp,B,c,Z,q,fun i j v p hv hq=>?_⟩
    obtain⟨v',T,hp⟩:=o.get i j p hq;have Q:=sT hr hq;rw[r,eS,aF Q]at T;simp at T;rw[hv]at T;obtain rfl:=au T;exact hp)
  refine⟨_,_,qy F L U C B R,_,?_,y,g⟩;exact .ML (.inr rfl) (aF rfl) rfl
 .have b6:0<a.length:=C5.2 a3
  rcases bR cap (al.length+a.length)with J|J
  .obtain⟨X,nc,N,b1,a7,l,hl,a6⟩:=yq (ty:=ty) (x:=x) (G:=G) F L U hz C b0 o rfl (D.imp id fun⟨m,X,elem,D,d,c,Z,q,r⟩=>⟨m,0,D,fun j u f=>by
    rw[r,eS]at f;split at f<;>try(simp at f;done)
    rw[cr,df c];simpa using f⟩) R a9 b2 J
   obtain⟨i0,k0⟩:=K.drew (ad:=ad);obtain⟨y,g⟩:=i0.vv (ad:=ad) (.cells X Y) 0 (.slice (some ⟨w.heap.size,0,none⟩) (al++a).length nc) (.bc n (al++a)) S (by simp) fun k=>
    hX.box (hl.grow (k0.trans k).grow) (.inr rfl) (aF rfl) (aF rfl) (heap_alloc_new w.drew _) b1 a7 (fx _ _ _) a6
   have M:=y.kill (b:=b) (.inl I);rw[<-b4]at M;refine⟨_,_,N,_,?_,M,k0.trans g⟩;exact .ML (.inr rfl) (aF rfl) rfl
  .rcases D with⟨d,c⟩|⟨m,X,elem,rfl,d,c,Z,q,r⟩
   .omega
   obtain⟨news,E,N,n1,b5,a2,a1⟩:=FR (ty:=ty) (off:=0) F L U C R J c (by omega)
   simp only[cr]at a2 a1;have a4:∀j,j<nR.length->E[j]?=nR[j]?:=fun j f=>by
    have Q:j<al.length*n:=by rw[<-o.len];exact f
    rw[a2 j Q,r,eS,aF Q];simp
   obtain⟨y,g⟩:=K.DK (ad:=ad) (ue:=.bc n al) (X:=E) H d q (by simp) fun k=>
    hX.box (o.grow k.grow) I d hV.symm (setRow_heap w m X E elem (0,0) c) B (by omega) q a4
   have b3:heap.set b (.bc n al)=heap:=by
    apply eR;intro j;rw[il];split
    .subst_vars;exact H.symm
    .rfl
   rw[b3]at y;obtain⟨M,k2⟩:=y.DN (ad:=ad) (nb:=nb) (V:=.slice (some ⟨m,0,none⟩) (al.length+a.length) cap) (bx:=.bc n (al++a)) I S (by simp) (by
    refine hX.box (l:=nR++news) (cap:=cap) ((o.grow g.grow).append (n1.grow g.grow)) (.inr rfl) (by simp[Gh.dq,rR,d]) (by simp) (setRow_heap w m X E elem (0,0) c) (by rw[de];exact J) (by omega) q fun j f=>?_
    rcases bR j nR.length with h|h
    .rw[bX h];exact a4 j h
    .rw[ei h,<-a1 _ (by simp at f;omega),o.len]
     congr 1
     rw[o.len]at h;omega)
   refine⟨_,_,N,_,?_,M,g.trans k2⟩;exact .ML (.inr rfl) (aF rfl) rfl
def DP{t m:TypeId}{b n nb a k:Nat}{kk:IntKind}{V:Value}{al:List (List PV)}{o:List Bx}(u:Inv P w0 aJ O G heap w)(F:P.underlying t=some (.slice m))(Z:ck P m=some k)
  (B:aL G ad w V (.bo b))(s:heap[b]?=some (.bc n al))(z:a<=al.length)(T:cm nb [.bc n (al.take a)] (heap.set b .dead)=some o):
  ∃v w',(do pure (.value (<-Instr.sliceAt t V none (some (.int kk (a:Int))) none)):Sem Next).run P w = .ok (.value v) w'/\∃H,lf P w0 aJ O G ad w (.bo nb) ad o v H w':=by
 obtain⟨l,rfl⟩:=hQ T;have S:=(aE.1 s).1;obtain⟨hV,Q,x,A,cap,nR,rfl,a2,a0,q⟩:=u.DO B s;have U:b≠nb:=fun e=>by
  subst e;rw[bN S]at l;simp at l
 have a1:heap[nb]?=some .free:=by rwa [bM U]at l
 have I:(Instr.sliceBound (.int kk (a:Int)) cap .sliceAcap).run P w = .ok a w:=by
  have:(a:Int)<=(cap:Int):=by omega
  simp[Instr.sliceBound,asIntOf,this]
 have E:(Instr.sliceAt t (.slice A al.length cap) none (some (.int kk (a:Int))) none).run P w = .ok (.slice (if cap=0 then A else A.map (·.add (0*k))) (a-0) (cap-0)) w:=by
  simp[Instr.sliceAt,Instr.slice,run_underlying F,Instr.sliceBounds,I,dA Z]
 have N:(if cap=0 then A else A.map (·.add (0*k)))=A:=by
  split
  .rfl
  .rcases q with⟨_,h⟩|⟨y,X,elem,rfl,_⟩
   .omega
   .simp[nq]
 rw[N,Nat.sub_zero,Nat.sub_zero]at E;obtain⟨C,L⟩:=u.DN (ad:=ad) (nb:=nb) (V:=.slice A a cap) (bx:=.bc n (al.take a)) Q a1 (by simp) (by
  refine⟨.inr rfl,fun r h=>x r (xE h),?_⟩
  rcases q with⟨f,g⟩|⟨y,X,elem,rfl,f,g,J,K,M⟩
  .have:al=[]:=gS.1 f
   subst this;subst g;have:a=0:=by simpa using z
   subst this;exact .inr ⟨by simp,A,by simp⟩
  .refine .inl ⟨y,X,elem,cap,by simp[Gh.dq,rR,f],by simp[z],by simp;omega,g,J,K,fun i j v p R c=>?_⟩
   have D:jI al i j=some p:=by
    unfold jI at c⊢;rw[eS]at c;split at c
    .exact c
    .simp at c
   obtain⟨v',d,Y⟩:=a0.get i j p D;have W:=sT x D;rw[M,eS,aF W]at d;simp at d;rw[R]at d;obtain rfl:=au d;exact Y)
 refine⟨_,_,bG _ E,_,?_,C,L⟩;exact .ML (.inr rfl) (aF rfl) rfl
def DQ{t f n b:Nat}{i:Int}{kk:IntKind}{V:Value}{al:List (List PV)}(k:Inv P w0 aJ O G heap w)(o:aL G ad w V (.bo b))(c:heap[b]?=some (.bc n al)\/heap[b]?=some (.tZ n al))
  (m:P.underlying t=some (.slice f))(l:ck P f=some n)(h:0<=i/\i<al.length):Plain P G ad w (do pure (.value (<-Instr.indexAt t V (.int kk i)))) (.fK b n i 0):=by
 rcases c with c|c
 .obtain⟨d,e,y,A,cap,nR,rfl,K,M,q⟩:=k.DO o c
  rcases q with⟨p,_⟩|⟨J,X,elem,rfl,p,z,r,D,E⟩
  .omega
  .refine .pure (bG _ (mz m l h _)) ?_
   have:=aL.fK (G:=G) (ad:=ad) (w:=w) (b:=b) (n:=n) (j:=0) (i:=i) e ⟨h.1,by omega⟩ d.symm
   simpa using this
 .obtain⟨e,g⟩:=k.box _ _ c
  have d:V=G.val b:=by cases o;rfl
  subst d;generalize s:G.val b=v at g;cases g with
  |mw=>simp at h;omega
  |Is a=>simp at h;omega
  |sl b' off len cap n al u x H y Q I=>
   subst x;refine .pure (bG _ (mz m l h _)) ?_;have:=aL.fK (G:=G) (ad:=ad) (w:=w) (b:=b) (n:=n) (j:=0) (i:=i) e ⟨h.1,by omega⟩ s
   simpa using this
def IX{e:Nat->Nat}{c:TypeId}{v:Value}{p:PV}(a:km P c p=true)(h:bW e w v p):∃d,P.underlying c=some d/\MapKept.IsKey d v:=by
 unfold km at a;split at a
 .rename_i k f n b
  cases h;exact⟨_,b,by have:=aN a;simp[MapKept.IsKey,this]⟩
 .rename_i b
  cases h;exact⟨_,b,by simp[MapKept.IsKey]⟩
 .simp at a
def key_eq{o:Nat->Nat}{g:TypeId}{d:TypeDesc}{v j:Value}{p f:PV}(z:P.underlying g=some d)(c:km P g p=true)(b:km P g f=true)(h:bW o w v p)(m:bW o w j f):
  Instr.sameNow d v j=some (lz p f)/\(lz p f=true->f=p/\j=v):=by
 unfold km at c b;rw[z]at c b;split at c
 .rename_i k r n l
  obtain rfl:=au l;split at b
  .rename_i D E H q
   simp only[aw,TypeDesc.int.injEq]at q;subst q;have t:=aN c;have u:=aN b;subst t;subst u;cases h;cases m;refine⟨by simp[Instr.sameNow,lz],fun a=>?_⟩
   simp[lz]at a;subst a;exact⟨rfl,rfl⟩
  .simp_all
  .simp at b
 .rename_i l
  obtain rfl:=au l;split at b
  .simp_all
  .cases h with
   |str s=>
    cases m with
    |str i=>
     have e:(s==i)=(s.data.toList==i.data.toList):=by
      rw[beq_toListBytes,ByteArray.toList_eq,ByteArray.toList_eq]
     refine⟨by simp only[Instr.sameNow,lz,e],fun a=>?_⟩
     simp only[lz,beq_iff_eq]at a;refine⟨by rw[a],?_⟩
     obtain⟨⟨x⟩⟩:=s;obtain⟨⟨y⟩⟩:=i;simp at a;rw[a]
  .simp at b
 .simp at c
def BC{a:TypeId}{p:PV}(h:km P a p=true):lz p p=true:=by
 unfold km at h;split at h<;>simp[lz]at*
def MM(p q:PV):lz p q=lz q p:=by
 cases p<;>cases q<;>simp[lz,Bool.beq_comm,BEq.comm]
def uq{D:Nat->Nat}{t:TypeId}{d:TypeDesc}{j:Value}{key:PV}(u:P.underlying t=some d)(v:km P t key=true)(r:bW D w j key):∀(l:List MapEntry)(b:List (PV×AV))(c:Nat),l.length=b.length ->
  (∀(i:Nat)e x,l[i]?=some e->b[i]?=some x->bW D w e.key x.1)->(∀x∈b,km P t x.1=true)->
  (cA b key=none/\Instr.findNow d j l c=some none/\(∀a,cn b key a=b++[(key,a)])/\kx b key=b/\∀x∈b,lz key x.1=false) \/
  (∃i e x,l[i]?=some e/\b[i]?=some x/\x.1=key/\e.key=j/\cA b key=some x.2/\Instr.findNow d j l c=some (some (c+i,e.val))/\(∀a,cn b key a=b.set i (key,a))/\kx b key=b.eraseIdx i)
 |[],[],c,_,_,_=>.inl ⟨rfl,rfl,fun _=>rfl,rfl,by simp⟩
 |e::l,x::b,c,g,z,h=>by
  obtain⟨f,q⟩:=key_eq u v (h x (aS ..)) r (z 0 e x rfl rfl);cases hb:lz key x.1 with
  |true=>
   obtain⟨H,I⟩:=q hb;rw[hb]at f;exact .inr ⟨0,e,x,rfl,rfl,H,I,by simp[cA,hb],by simp[Instr.findNow,f],fun a=>by simp[cn,hb],by simp[kx,hb]⟩
  |false=>
   rw[hb]at f;rcases uq u v r l b (c+1) (by simpa using g) (fun i e x f q=>z (i+1) e x (by simpa using f) (by simpa using q)) (fun x Q=>h x (aP _ Q))with⟨k,m,n,o,p⟩|⟨i,E,T,k,m,n,o,p,J,K,M⟩
   .exact .inl ⟨by simp[cA,hb,k],by simp[Instr.findNow,f,m],fun a=>by simp[cn,hb,n],by simp[kx,hb,o],fun y s=>by
     rcases aU.1 s with rfl|s
     .exact hb
     .exact p y s⟩
   .exact .inr ⟨i+1,E,T,by simpa using k,by simpa using m,n,o,by simp[cA,hb,p],by simp[Instr.findNow,f,J];omega,fun a=>by simp[cn,hb,K],by simp[kx,hb,M]⟩
 |[],x::b,c,g,_,_=>by simp at g
 |e::l,[],c,g,_,_=>by simp at g
def xh.push{f:Array MapEntry}{clock n:Nat}(h:xh f clock n)(k v:Value):xh (f.push {key:=k,val:=v,born:=clock}) (clock+1) (n+1):=by
 refine⟨by simp[h.1],fun x c=>?_,?_⟩
 .rw[Array.toList_push]at c
  rcases bC.1 c with c|c
  .exact Nat.lt_succ_of_lt (h.2.1 x c)
  .simp at c;subst c;exact Nat.lt_succ_self _
 .rw[Array.toList_push,cg]
  refine tQ.2 ⟨h.2.2,by simp,fun a g b d e=>?_⟩
  simp at d;subst d;obtain⟨x,c,rfl⟩:=bg.1 g;exact absurd (h.2.1 x c) (by omega)
def xh.modify{a:Array MapEntry}{clock n:Nat}(h:xh a clock n)(i:Nat)(k v:Value):xh (a.modify i fun e=>{e with key:=k,val:=v}) clock n:=by
 have e:(a.modify i fun e=>{e with key:=k,val:=v}).toList.map (·.born)=a.toList.map (·.born):=by
  apply eR;intro j;simp only[bp,gR,xH];by_cases b:i=j
  .subst b;cases a[i]?<;>simp
  .rw[aI b]
 refine⟨by simp[h.1],fun x c=>?_,by rw[e];exact h.2.2⟩
 have:x.born∈a.toList.map (·.born):=by rw[<-e];exact bg.2 ⟨x,c,rfl⟩
 obtain⟨y,d,e⟩:=bg.1 this;rw[<-e];exact h.2.1 y d
def xh.erase{a:Array MapEntry}{clock n:Nat}(h:xh a clock n){i:Nat}(d:i<n):xh (a.eraseIdxIfInBounds i) clock (n-1):=by
 have c:i<a.size:=by rw[h.1];exact d
 have e:(a.eraseIdxIfInBounds i).toList=a.toList.eraseIdx i:=by
  rw[Iw,dif_pos c,Array.toList_eraseIdx]
 refine⟨by rw[Iw,dif_pos c,Array.size_eraseIdx,h.1],fun x b=>?_,?_⟩
 .rw[e]at b
  exact h.2.1 x (Dn b)
 .rw[e]
  exact h.2.2.sublist ((List.eraseIdx_sublist _ _).map _)
def Inv.IY(D:Inv P w0 aJ O G heap w){b:Nat}{t l n:TypeId}{c:List (PV×AV)}{V:Value}(g:aL G ad w V (.mp b))(h:heap[b]?=some (.map t c))(E:P.underlying t=some (.map l n)):
  ∃a d clock,V = .map (some a)/\G.bz b/\G.val b = .map (some a)/\G.h (.box b)=some a/\w.heap[a]?=some (.map d clock)/\xh d clock c.length/\(∀x∈c,x.2.IF=true/\km P l x.1=true)/\
   (c.map (·.1)).Pairwise (fun k H=>lz k H=false)/\∀(i:Nat)e x,d[i]?=some e->c[i]?=some x->bW G.bQ w e.key x.1/\om G w (.nO b x.1) e.val x.2:=by
 have z:V=G.val b:=by cases g;rfl
 subst z;obtain⟨a,d,clock,r,o,j,p,q,s,u,v⟩:=D.box _ _ h;refine⟨a,d,clock,j,r,j,o,p,q,fun x g=>?_,u,v⟩
 obtain⟨y,J,I,f,m⟩:=s x g;rw[E]at f;simp only[aw,TypeDesc.map.injEq]at f;rw[f.1];exact⟨y,m⟩
def om.rep{x:Hd}{v:Value}{a:AV}(h:om G w x v a)(d:∀n al,a≠.jH n al):aL G ad w v a:=by
 by_cases b:∃ps,a = .agg ps
 .obtain⟨ps,rfl⟩:=b
  exact aL.ofNil h rfl
 .have c:=(l9 fun ps e=>b ⟨ps,e⟩).1 h
  have:=c.view (ad:=ad);have e:a.view=a:=by cases a<;>first|rfl|exact absurd rfl (d _ _)
  rwa [e]at this
def FT{t:TypeId}{nb:Nat}{b:List Bx}(g:Inv P w0 aJ O G heap w)(f:cm nb [.map t []] heap=some b):
  ∃v w',(do pure (.value (<-Instr.makeMap t none)):Sem Next).run P w = .ok (.value v) w'/\∃a,lf P w0 aJ O G ad w (.mp nb) ad b v a w':=by
 obtain⟨o,rfl⟩:=hQ f;obtain⟨m,n⟩:=g.vv (ad:=ad) (.map #[] 0) 0 (.map (some w.heap.size)) (.map t []) o (by simp) fun k=>
  ⟨w.heap.size, #[],0,.inr rfl,aF rfl,aF rfl,heap_alloc_new w _,⟨rfl,by simp,by simp⟩,by simp,by simp,fun i e x p c=>by simp at c⟩
 refine⟨_,_,bG _ (run_makeMap_plain w t),_,?_,m,n⟩;have:∀(a:Gh)(v:Value),a.bz nb->a.val nb=v->v.oneCell'=true->aL a ad (w.alloc (.map #[] 0)) v (.mp nb):=by
  intro a v d l j;subst l;exact .mp d j
 exact this _ _ (.inr rfl) (aF rfl) rfl
def yr{t l f:TypeId}{m clock:Nat}{e:Array MapEntry}{b:Value}{ok:Bool}{d:TypeDesc}(j:P.underlying t=some (.map l f))(a:P.underlying l=some d)(g:MapKept.IsKey d b)(k:w.heap[m]?=some (.map e clock))
  {v:Value}{B:Bool}(h:(∃i,Instr.findNow d b e.toList 0=some (some (i,v))/\B=true)\/(Instr.findNow d b e.toList 0=some none/\B=false/\(zeroValue f).run P w = .ok v w)):
  (Instr.lookup t (.map (some m)) b ok).run P w = .ok (if ok then .tuple #[v,.bool B]else v) w:=by
 rcases h with⟨i,c,rfl⟩|⟨c,rfl,n⟩
 .simp[Instr.lookup,run_underlying j,MapKept.run_getObj_map k,MapKept.run_checkKey a g,MapKept.run_findKey a c]
 .simp[Instr.lookup,run_underlying j,MapKept.run_getObj_map k,MapKept.run_checkKey a g,MapKept.run_findKey a c,n]
def xO{e:Gh}{br:List (Option Nat)}{w':World}{v:Value}{a:AV}{ok B:Bool}(h:aL e br w' v a):aL e br w' (if ok then .tuple #[v,.bool B]else v) (match ok with|true=>.xg [a,.v (.bool B)]|false=>a):=by
 cases ok with
 |false=>exact h
 |true=>
  refine .xg rfl fun j u b d c=>?_
  match j with
  |0=>simp at d c;subst d;subst c;exact h
  |1=>simp at d c;subst d;subst c;exact .lB _
  |j+2=>simp at c
def IZ{t B T:TypeId}{b:Nat}{V K:Value}{key:PV}{g:List (PV×AV)}{ok:Bool}(u:Inv P w0 aJ O G heap w)(E:aL G ad w V (.mp b))(a3:bW G.bQ w K key)(hb:heap[b]?=some (.map t g))(D:P.underlying t=some (.map B T))(Z:km P B key=true):
  (cA g key=none->∀z,qo P T=some z->Plain P G ad w (do pure (.value (<-Instr.lookup t V K ok))) (match ok with|true=>.xg [z,.v (.bool false)]|false=>z))/\
  (∀a,cA g key=some a->(∀n al,a≠.jH n al)->Plain P G ad w (do pure (.value (<-Instr.lookup t V K ok))) (match ok with|true=>.xg [a,.v (.bool true)]|false=>a))/\
  (∀n al,cA g key=some (.jH n al)->Plain P G ad w (do pure (.value (<-Instr.lookup t V K ok))) (match ok with|true=>.xg [.v (.sl n al),.v (.bool true)]|false=>.v (.sl n al))/\
   ∃v,(do pure (.value (<-Instr.lookup t V K ok)):Sem Next).run P w = .ok (.value v) w/\∃G',lf P w0 aJ O G ad w (match ok with|true=>.xg [.own ad.length 0 n al,.v (.bool true)]|false=>.own ad.length 0 n al) (ad++[some 0])
    (heap.set b (.map t (cn g key (.v (.sl n al))))) v G' w):=by
 obtain⟨b1,a6,clock,rfl,he,hv,hh,R,a5,U,a4,r⟩:=u.IY E hb D;have hs:=a5.1;obtain⟨d,Y,W⟩:=IX Z a3;have I:=uq Y Z a3 a6.toList g 0 (by simpa using hs) (fun i e x k f=>(r i e x (by simpa using k) f).1) (fun x E=>(U x E).2)
 refine⟨fun s z hz=>?_,fun a s hc=>?_,fun n al s=>?_⟩
 .rcases I with⟨_,o,_⟩|⟨i,e,x,_,_,_,_,p,_⟩
  .obtain⟨zv,b7,rfl⟩:=Bv hz
   exact .pure (bG _ (yr D Y W R (.inr ⟨o,rfl,b7 w⟩))) (xO (la _ _ _ _))
  .rw[s]at p;simp at p
 .rcases I with⟨c,_⟩|⟨i,e,x,c,o,X,g4,p,N,_⟩
  .rw[s]at c;simp at c
  .rw[s]at p
   obtain rfl:=au p;have L:=(r i e x (by simpa using c) o).2
   exact .pure (bG _ (yr D Y W R (.inl ⟨_,N,rfl⟩))) (xO (L.rep hc))
 .rcases I with⟨c,_⟩|⟨i,e,x,c,o,X,g4,p,N,g7,_⟩
  .rw[s]at c;simp at c
  .rw[s]at p
   have b6:=au p;have L:=(r i e x (by simpa using c) o).2
   rw[<-b6,X]at L;have a9:ej G w (.nO b key) e.val (.jH n al):=L;obtain⟨A,len,cap,b3,F,b8⟩:=a9.2;have a8:=yr (ok:=ok) D Y W R (.inl ⟨_,N,rfl⟩);refine⟨.pure (bG _ a8) (xO (.v F)),_,bG _ a8,?_⟩;have a0:=(aE.1 hb).1;have a2:cb G ad w ⟨G.bQ,(G.dq (mv (.nO b key) (.tok ad.length))).h,G.val,G.bz⟩ (ad++[some 0]) w:=by
    refine .ghost _ (fun _ h=>h) (fun _ _=>rfl) (by simp) fun t m k f=>?_
    rw[bX f]at k;refine⟨m,k,.inr ⟨rfl,dN (fun e=>?_) (by simp)⟩⟩
    simp only[Hd.tok.injEq]at e;omega
   rw[g7];have C:=(aE.1 o).1;refine⟨⟨G.bQ,(G.dq (mv (.nO b key) (.tok ad.length))).h,G.val,G.bz⟩,xO ?_,u.ghost (mv (.nO b key) (.tok ad.length)) (DJ _ _) (fun b' h=>by rw[eH];exact u.nb b' h) (fun b' bx l=>?_) (fun b' m l=>?_),a2⟩
   .rw[b3]at F⊢
    exact .own (by simp) (fun m J=>by simp at J;omega) F fun _=>b8.bA fun m J=>⟨by simp[Gh.dq,rR,J],rfl,rfl⟩
   .by_cases H:b'=b
    .subst H
     rw[bN a0]at l;obtain rfl:=au l;refine⟨b1,a6,clock,he,?_,hv,R,by rw[eH];exact a5,fun M b5=>?_,?_,fun j Q M k f=>?_⟩
     .simp[Gh.dq,dN (x:=.nO b' key) (y:=.tok ad.length) (z:=.box b') (by simp) (by simp),hh]
     .rcases tX b5 with h|rfl
      .exact⟨(U _ h).1,B,T,D,(U _ h).2⟩
      .exact⟨rfl,B,T,D,Z⟩
     .have:(g.set i (key,AV.v (.sl n al))).map (·.1)=g.map (·.1):=by
       rw[List.map_set];apply eR;intro q;rw[il];split
       .subst_vars;simp[(aE.1 o).2,C]
       .rfl
      rw[this];exact a4
     .by_cases S:i=j
      .subst S
       rw[bN C]at f;obtain rfl:=au f;have b2:Q=e:=by rw[gR]at c;rw[c]at k;exact(au k).symm
       subst b2;refine⟨by have:=(r i Q x k o).1;rw[X]at this;exact this,?_⟩
       exact(l9 (by simp)).2 ⟨a9.1,.v F⟩
      .rw[bM S]at f
       refine⟨(r j Q M k f).1,(r j Q M k f).2.bA a2.low fun m J=>⟨?_,rfl,rfl⟩⟩
       have b4:(Hd.nO b' M.1)≠.nO b' key:=by
        intro e2;simp only[Hd.nO.injEq,true_and]at e2;have a1:=(aE.1 f).1;have b0:lz key key=true:=BC Z;have p1:(g.map (·.1))[i]?=some key:=by simp[o,X]
        have p2:(g.map (·.1))[j]?=some key:=by simp[f,e2]
        have a7:=xL.1 a4;rcases Nat.lt_trichotomy i j with h|h|h
        .have:=a7 i j (by simpa using C) (by simpa using a1) h
         rw[(aE.1 p1).2,(aE.1 p2).2,b0]at this;simp at this
        .exact S h
        .have:=a7 j i (by simpa using a1) (by simpa using C) h
         rw[(aE.1 p1).2,(aE.1 p2).2,b0]at this;simp at this
       simp[Gh.dq,dN (x:=.nO b' key) (y:=.tok ad.length) (z:=.nO b' M.1) (by simp) b4,J]
    .rw[bM (fun e=>H e.symm)]at l
     refine(u.box b' bx l).dq (fun _ h=>h) (fun _ _=>rfl) (fun I=>by subst I;exact u.box _ _ l) fun x E=>dN (fun e=>?_) fun e=>?_
     .subst e;exact E
     .subst e;exact H E.symm
   .by_cases H:b'=b
    .subst H
     rw[bN a0]at l;simp at l
    .rw[bM (fun e=>H e.symm)]at l
     have:=u.dead b' m l;simpa[Gh.dq,dN (x:=.nO b key) (y:=.tok ad.length) (z:=.box b') (by simp) (by simp)]using this
def FU{t:TypeId}{a b:AV}{T f:List (Option Nat)}(h:sH P t a T=some (b,f)):
  (∃tk e n al,a = .own tk e n al/\T[tk]?=some (some e)/\b = .jH n al/\f=T.set tk none/\sH P t a []=some (.v (.sl n al),[]))\/(f=T/\sH P t a []=some (b,[])):=by
 unfold sH at h⊢;split at h
 .simp only[aw,ax]at h
  obtain⟨rfl,rfl⟩:=h;exact .inr ⟨rfl,rfl⟩
 .split at h<;>try(simp at h;done)
  .rcases jS h with⟨tk,e,n,al,g,c,d,i,j⟩|⟨c,d⟩
   .exact .inl ⟨tk,e,n,al,g,c,d,i,j⟩
   .exact .inr ⟨c,d⟩
  .rcases jS h with⟨tk,e,n,al,g,c,d,i,j⟩|⟨c,d⟩
   .simp at g
   .exact .inr ⟨c,d⟩
def yt{c:CT}{a:AV}{T d:List (Option Nat)}{ps:List PV}(h:kv c a T=some (.agg ps,d)):False:=by
 unfold kv at h;split at h
 .split at h<;>simp at h
 .cases c<;>simp only at h<;>try(simp at h;done)
  split at h<;>simp at h
 .split at h<;>try(simp at h;done)
  rename_i b;simp only[aw,ax]at h;rw[h.1]at b;simp[AV.qp]at b
def yu{t:TypeId}{a b:AV}{v:Value}{x:Hd}(h:sH P t a []=some (b,[]))(c:aL G ad w v a):om G w x v b:=by
 unfold sH at h;split at h
 .simp only[aw,ax]at h
  obtain⟨rfl,-⟩:=h;cases c with
  |agg f d=>
   have:=lW.norm (jQ P t) (⟨f,d⟩:lW G.bQ w _ _);exact aL.agg this.1 this.2
 .split at h<;>try(simp at h;done)
  .exact(l9 fun ps e=>yt (e▸h)).2 (lg (x:=x) h rfl c).2.1
  .exact(l9 fun ps e=>yt (e▸h)).2 (lg (x:=x) h rfl c).2.1
def I0{t:TypeId}{a b:AV}{T d:List (Option Nat)}(h:sH P t a T=some (b,d)):b.IF=true:=by
 unfold sH at h;have cell:∀(c:CT)(a:AV),a.qp=false->kv c a T=some (b,d)->b.IF=true:=by
  intro c a e h;unfold kv at h;split at h
  .split at h<;>simp at h<;>rw[<-h.1]<;>rfl
  .cases c<;>simp only at h<;>try(simp at h;rw[<-h.1];rfl)
   split at h<;>simp at h<;>rw[<-h.1]<;>rfl
  .rw[e]at h;simp at h
 split at h
 .simp at h;rw[<-h.1];rfl
 .split at h<;>try(simp at h;done)
  .exact cell _ _ rfl h
  .exact cell _ _ rfl h
def Wm{b:List (PV×AV)}{i j:Nat}{key:PV}{a:AV}{x:PV×AV}(s:(b.map (·.1)).Pairwise (fun k p=>lz k p=false))(n:lz key key=true)(c:b[i]?=some (key,a))(d:b[j]?=some x)(q:i≠j):x.1≠key:=by
 intro o;have g:=(aE.1 c).1;have l:=(aE.1 d).1;have e:(b.map (·.1))[i]?=some key:=by simp[c]
 have f:(b.map (·.1))[j]?=some key:=by simp[d,o]
 have m:=xL.1 s;rcases Nat.lt_trichotomy i j with h|h|h
 .have:=m i j (by simpa using g) (by simpa using l) h
  rw[(aE.1 e).2,(aE.1 f).2,n]at this;simp at this
 .exact q h
 .have:=m j i (by simpa using l) (by simpa using g) h
  rw[(aE.1 e).2,(aE.1 f).2,n]at this;simp at this
def Inv.I1(f:Inv P w0 aJ O G heap w){b i tk L n:Nat}{t:TypeId}{key:PV}{al:List (List PV)}{k:List (PV×AV)}{u:Value}(M:heap[b]?=some (.map t k))(l:k[i]?=some (key,.v (.sl n al)))(a3:lz key key=true)
  (S:∀s v clock,G.h (.box b)=some s->w.heap[s]?=some (.map v clock)->∃e,v[i]?=some e/\e.val=u)(X:ad[tk]?=some (some L))(hu:aL G ad w u (.own tk L n al)):
  ∃J,Inv P w0 aJ O J (heap.set b (.map t (k.set i (key,.jH n al)))) w/\cb G ad w J (ad.set tk none) w:=by
 have a5:=(aE.1 X).1;have F:=(aE.1 M).1;have R:=(aE.1 l).1;have T:cb G ad w ⟨G.bQ,(G.dq (mv (.tok tk) (.nO b key))).h,G.val,G.bz⟩ (ad.set tk none) w:=by
  refine .ghost _ (fun _ h=>h) (fun _ _=>rfl) (by simp) fun t' m c d=>?_
  rw[il]at c;split at c
  .simp at c
  .rename_i I
   exact⟨m,c,.inr ⟨rfl,dN (by simp) (by simpa using fun e=>I e.symm)⟩⟩
 refine⟨_,f.ghost (mv (.tok tk) (.nO b key)) (DJ _ _) (fun b' h=>by rw[eH];exact f.nb b' h) (fun b' bx a=>?_) (fun b' m a=>?_),T⟩
 .by_cases g:b'=b
  .subst g
   rw[bN F]at a;obtain rfl:=au a;obtain⟨s,v,clock,a0,Q,hv,Y,W,B,C,E⟩:=f.box _ _ M;refine⟨s,v,clock,a0,?_,hv,Y,by rw[eH];exact W,fun o a2=>?_,?_,fun j p o c d=>?_⟩
   .simp[Gh.dq,dN (x:=.tok tk) (y:=.nO b' key) (z:=.box b') (by simp) (by simp),Q]
   .rcases tX a2 with h|rfl
    .exact B _ h
    .exact⟨rfl,(B (key,.v (.sl n al)) (aK l)).2⟩
   .have:(k.set i (key,AV.jH n al)).map (·.1)=k.map (·.1):=by
     rw[List.map_set];apply eR;intro q;rw[il];split
     .subst_vars;simp[(aE.1 l).2,R]
     .rfl
    rw[this];exact C
   .by_cases H:i=j
    .subst H
     rw[bN R]at d;obtain rfl:=au d;obtain⟨r,K,N⟩:=S _ _ _ Q Y;rw[c]at K;obtain rfl:=au K;refine⟨(E i p _ c l).1,?_⟩;cases hu with
     |@own _ _ _ _ A len cap a6 a4 V a1=>
      have:ej ⟨G.bQ,(G.dq (mv (.tok tk) (.nO b' key))).h,G.val,G.bz⟩ w (.nO b' key) p.val (.jH n al):=by
       rw[N];exact⟨rfl,A,len,cap,rfl,V,(a1 X).bA fun m D=>⟨by simp[Gh.dq,rR,D],rfl,rfl⟩⟩
      exact this
    .rw[bM H]at d
     refine⟨(E j p o c d).1,(E j p o c d).2.bA T.low fun m D=>⟨?_,rfl,rfl⟩⟩
     have I:(Hd.nO b' o.1)≠.nO b' key:=by
      intro r;simp only[Hd.nO.injEq,true_and]at r;exact Wm C a3 l d H r
     simp[Gh.dq,dN (x:=.tok tk) (y:=.nO b' key) (z:=.nO b' o.1) I (by simp),D]
  .rw[bM (fun e=>g e.symm)]at a
   refine(f.box b' bx a).dq (fun _ h=>h) (fun _ _=>rfl) (fun U=>by subst U;exact f.box _ _ a) fun x Z=>dN (fun e=>?_) fun e=>?_
   .subst e;exact g Z.symm
   .subst e;exact Z
 .by_cases g:b'=b
  .subst g
   rw[bN F]at a;simp at a
  .rw[bM (fun e=>g e.symm)]at a
   have:=f.dead b' m a;simpa[Gh.dq,dN (x:=.tok tk) (y:=.nO b key) (z:=.box b') (by simp) (by simp)]using this
def FV{w:World}{b j:Nat}{a:Array MapEntry}{clock:Nat}(h:w.heap[b]?=some (.map a clock)):w.cell? ⟨b,j,none⟩=none:=by
 simp[World.cell?,h]
def Inv.DR(l:Inv P w0 aJ O G heap w){b a clock o4:Nat}{s qz:Array MapEntry}{bx ue:Bx}(g:heap[b]?=some bx)(j:G.h (.box b)=some a)(c:w.heap[a]?=some (.map s clock))(i:ue≠.free)
  (q:cb G ad w G ad {w with heap:=w.heap.setIfInBounds a (.map qz o4)}->fY P G {w with heap:=w.heap.setIfInBounds a (.map qz o4)} b ue):
  Inv P w0 aJ O G (heap.set b ue) {w with heap:=w.heap.setIfInBounds a (.map qz o4)}/\cb G ad w G ad {w with heap:=w.heap.setIfInBounds a (.map qz o4)}:=by
 obtain⟨k,h⟩:=l.write (ad:=ad) (br:=ad) (gz:=G.bQ) j (w':={w with heap:=w.heap.setIfInBounds a (.map qz o4)}) (by simp) rfl rfl rfl (fun m n=>⟨(MapKept.heap_set c).2 m n,rfl⟩) (ar _)
  (fun o u=>by rw[FV c];exact FV (MapKept.heap_set c).1) (ar _) fun t m h _=>⟨m,h,.inr ⟨rfl,by simp⟩⟩
 refine⟨h _ (by simp) (fun b' p=>bM fun e=>p e) fun b' v f d=>?_,k⟩
 simp only[Hd.on]at f;subst f;rw[bN (aE.1 g).1]at d;obtain rfl:=au d;exact⟨i,q k⟩
def Inv.Oo(J:Inv P w0 aJ O G heap w){t r E:TypeId}{b:Nat}{V u U:Value}{key:PV}{o:List (PV×AV)}{a:AV}(R:aL G ad w V (.mp b))(Z:bW G.bQ w u key)(F:heap[b]?=some (.map t o))(h:P.underlying t=some (.map r E))(Y:km P r key=true)
  (hB:a.IF=true)(hU:∀(w':World),cb G ad w G ad w'->om G w' (.nO b key) U a):
  ∃w',(Instr.mapUpdate t V u U).run P w = .ok () w'/\Inv P w0 aJ O G (heap.set b (.map t (cn o key a))) w'/\cb G ad w G ad w' /\
   ∃i,(cn o key a)[i]?=some (key,a)/\(∀a',cn o key a'=(cn o key a).set i (key,a'))/\∀s n clock,G.h (.box b)=some s->w'.heap[s]?=some (.map n clock)->∃e,n[i]?=some e/\e.val=U:=by
 obtain⟨s,n,clock,rfl,he,hv,v,l,W,Q,a1,K⟩:=J.IY R F h;have A:=W.1;obtain⟨d,I,a0⟩:=IX Y Z;have a7:s<w.heap.size:=(J.nf _ _ v).1;have a2:∀x m,x≠.box b->G.h x=some m->m≠s:=fun x m a3 z e=>a3 (J.inj _ _ _ z (e▸v))
 rcases uq I Y Z n.toList o 0 (by simpa using A) (fun i e x c f=>(K i e x (by simpa using c) f).1) (fun x R=>(Q x R).2)with⟨g1,T,H,g4,g5⟩|⟨i,e,x,g1,T,H,g4,g5,g6,X,g8⟩
 .obtain⟨B,C⟩:=J.DR (ad:=ad) (o4:=clock+1) (qz:=n.push {key:=u,val:=U,born:=clock}) (ue:=.map t (cn o key a)) F v l (by simp) (fun k=>by
   rw[H];refine⟨s,_,clock+1,he,v,hv,(MapKept.heap_set l).1,by rw[de];exact W.push _ _,fun y g=>?_,?_,fun j D M c f=>?_⟩
   .rcases bC.1 g with g|g
    .exact⟨(Q y g).1,r,E,h,(Q y g).2⟩
    .simp at g;subst g;exact⟨hB,r,E,h,Y⟩
   .rw[cg]
    refine List.pairwise_append.2 ⟨a1,by simp,fun p hp q hq=>?_⟩
    simp at hq;subst hq;obtain⟨y,g,rfl⟩:=bg.1 hp;rw[MM];exact g5 y g
   .rw[Array.getElem?_push]at c
    by_cases hj:j=n.size
    .subst hj
     rw[aF rfl]at c;obtain rfl:=au c;rw[A,ei (ar _),kZ]at f;simp at f;subst f;exact⟨Z.grow k.grow,hU _ k⟩
    .rw[aI hj]at c
     have a6:=(gK.1 c).1;rw[bX (by omega)]at f
     exact⟨(K j D M c f).1.grow k.grow,(K j D M c f).2.bA k.low fun m z=>⟨z,rfl,(MapKept.heap_set l).2 m (a2 _ m (by simp) z)⟩⟩)
  refine⟨_,?_,B,C,o.length,by rw[H];simp,fun a'=>by rw[H,H];simp,fun a4 qz a5 c f=>?_⟩
  .simp[Instr.mapUpdate,run_underlying h,MapKept.run_getObj_map l,MapKept.run_checkKey I a0,MapKept.run_findKey I T,MapKept.run_setObj_map _ l]
  .rw[v]at c
   obtain rfl:=au c;have:=(MapKept.heap_set (o':=.map (n.push {key:=u,val:=U,born:=clock}) (clock+1)) l).1;rw[show({w with heap:=w.heap.setIfInBounds s (.map (n.push {key:=u,val:=U,born:=clock}) (clock+1))}:World).heap[s]?=_ from this]at f
   simp only[aw,Obj.map.injEq]at f;obtain⟨rfl,rfl⟩:=f;exact⟨{key:=u,val:=U,born:=clock},by rw[<-A];simp,rfl⟩
 .have S:=(aE.1 T).1
  have L:n[i]?=some e:=by simpa using g1
  obtain⟨B,C⟩:=J.DR (ad:=ad) (o4:=clock) (qz:=n.modify i fun e=>{e with key:=u,val:=U}) (ue:=.map t (cn o key a)) F v l (by simp) (fun k=>by
   rw[X];refine⟨s,_,clock,he,v,hv,(MapKept.heap_set l).1,by rw[eH];exact W.modify _ _ _,fun y g=>?_,?_,fun j D M c f=>?_⟩
   .rcases tX g with g|rfl
    .exact⟨(Q y g).1,r,E,h,(Q y g).2⟩
    .exact⟨hB,r,E,h,Y⟩
   .have:(o.set i (key,a)).map (·.1)=o.map (·.1):=by
     rw[List.map_set];apply eR;intro q;rw[il];split
     .subst_vars;simp[(aE.1 T).2,S]
     .rfl
    rw[this];exact a1
   .rw[xH]at c
    by_cases N:i=j
    .subst N
     rw[aF rfl,L]at c;simp at c;subst c;rw[bN S]at f;obtain rfl:=au f;exact⟨Z.grow k.grow,hU _ k⟩
    .rw[aI N]at c
     rw[bM N]at f;exact⟨(K j D M c f).1.grow k.grow,(K j D M c f).2.bA k.low fun m z=>⟨z,rfl,(MapKept.heap_set l).2 m (a2 _ m (by simp) z)⟩⟩)
  refine⟨_,?_,B,C,i,by rw[X,bN S],fun a'=>by rw[X,X,qk],fun a4 qz a5 c f=>?_⟩
  .simp[Instr.mapUpdate,run_underlying h,MapKept.run_getObj_map l,MapKept.run_checkKey I a0,MapKept.run_findKey I g6,L,g4,MapKept.run_keyThatStays a0,MapKept.run_setObj_map _ l]
  .rw[v]at c
   obtain rfl:=au c;have:=(MapKept.heap_set (o':=.map (n.modify i fun e=>{e with key:=u,val:=U}) clock) l).1
   rw[show({w with heap:=w.heap.setIfInBounds s (.map (n.modify i fun e=>{e with key:=u,val:=U}) clock)}:World).heap[s]?=_ from this]at f
   simp only[aw,Obj.map.injEq]at f;obtain⟨rfl,rfl⟩:=f;exact⟨_,by rw[xH,aF rfl,L];rfl,rfl⟩
def A5{t D q:TypeId}{b:Nat}{V e U:Value}{key:PV}{p:List (PV×AV)}{x a:AV}{T o F:List (Option Nat)}(v:Inv P w0 aJ O G heap w)(z:aL G ad w V (.mp b))(E:bW G.bQ w e key)(j:aL G ad w U x)(l:heap[b]?=some (.map t p))
  (y:P.underlying t=some (.map D q))(m:km P D key=true)(u:sH P q x T=some (a,o))(s:(T=ad/\F=o)\/(T=[]/\F=ad)):
  ∃w',(do Instr.mapUpdate t V e U;pure .skip:Sem Next).run P w = .ok .skip w'/\∃I,lf P w0 aJ O G ad w .none F (heap.set b (.map t (cn p key a))) undef I w':=by
 have skip:∀w',(Instr.mapUpdate t V e U).run P w = .ok () w'->(do Instr.mapUpdate t V e U;pure .skip:Sem Next).run P w = .ok .skip w':=fun w' h=>by simp[h]
 rcases FU u with⟨tk,Z,n,al,rfl,H,rfl,rfl,g⟩|⟨rfl,g⟩
 .rcases s with⟨rfl,rfl⟩|⟨rfl,rfl⟩
  .obtain⟨w',f,d,c,i,K,M,Q⟩:=v.Oo (ad:=T) (a:=.v (.sl n al)) z E l y m rfl fun w' k=>yu g (j.bA k)
   have Y:=(aE.1 l).1;obtain⟨J,r,X⟩:=d.I1 (bN Y) K (BC m) Q H (j.bA c);rw[qk,<-M]at r;exact⟨w',skip w' f,J,.none _,r,c.trans X⟩
  .simp at H
 .obtain⟨w',f,d,c,_⟩:=v.Oo (ad:=ad) (a:=a) z E l y m (I0 u) fun w' k=>yu g (j.bA k)
  rcases s with⟨rfl,rfl⟩|⟨rfl,rfl⟩
  .exact⟨w',skip w' f,G,.none _,d,c⟩
  .exact⟨w',skip w' f,G,.none _,d,c⟩
def I2{t t2 ty H I:TypeId}{b:Nat}{V B:Value}{key:PV}{o:List (PV×AV)}(E:Inv P w0 aJ O G heap w)(M:aL G ad w V (.mp b))(N:bW G.bQ w B key)(K:heap[b]?=some (.map t o))
  (v:P.underlying t=some (.map H I))(A:km P H key=true):
  ∃w',(Builtin.delete_ #[t,t2] ty #[V,B]).run P w = .ok (.tuple #[]) w'/\Inv P w0 aJ O G (heap.set b (.map t (kx o key))) w'/\cb G ad w G ad w':=by
 obtain⟨X,n,clock,rfl,F,R,s,f,Y,D,S,u⟩:=E.IY M K v;have hs:=Y.1;obtain⟨d,q,W⟩:=IX A N;have U:∀x m,x≠.box b->G.h x=some m->m≠X:=fun x m a0 l e=>a0 (E.inj _ _ _ l (e▸s))
 rcases uq q A N n.toList o 0 (by simpa using hs) (fun i e x c a=>(u i e x (by simpa using c) a).1) (fun x M=>(D x M).2)with⟨g1,J,g3,Z,g5⟩|⟨i,e,x,g1,J,g3,Z,g5,g6,g7,g8⟩
 .obtain⟨Q,T⟩:=E.DR (ad:=ad) (o4:=clock) (qz:=n) (ue:=.map t (kx o key)) K s f (by simp) (fun k=>by
   rw[Z];exact⟨X,n,clock,F,s,R,(MapKept.heap_set f).1,Y,fun y z=>⟨(D y z).1,H,I,v,(D y z).2⟩,S,fun j g p c a=>
    ⟨(u j g p c a).1.grow k.grow,(u j g p c a).2.bA k.low fun m l=>⟨l,rfl,(MapKept.heap_set f).2 m (U _ m (by simp) l)⟩⟩⟩)
  refine⟨_,?_,Q,T⟩;simp[Builtin.delete_,run_underlying v,MapKept.run_getObj_map f,MapKept.run_checkKey q W,MapKept.run_findKey q J,MapKept.run_setObj_map _ f]
 .have C:=(aE.1 J).1
  have a1:i<n.size:=by omega
  obtain⟨Q,T⟩:=E.DR (ad:=ad) (o4:=clock) (qz:=n.eraseIdxIfInBounds i) (ue:=.map t (kx o key)) K s f (by simp) (fun k=>by
   rw[g8];refine⟨X,_,clock,F,s,R,(MapKept.heap_set f).1,?_,fun y z=>⟨(D y (Dn z)).1,H,I,v,(D y (Dn z)).2⟩,?_,fun j g p c a=>?_⟩
   .rw[List.length_eraseIdx,aF C];exact Y.erase C
   .exact S.sublist ((List.eraseIdx_sublist _ _).map _)
   .have r:(n.toList.eraseIdx i)[j]?=some g:=by
     rw[Iw,dif_pos a1]at c;rw[<-c,<-gR,Array.toList_eraseIdx]
    rw[List.getElem?_eraseIdx]at r a;have key:∃h:Nat,n[h]?=some g/\o[h]?=some p:=by
     by_cases L:j<i
     .rw[aF L]at r a
      exact⟨j,by simpa using r,a⟩
     .rw[aI L]at r a
      exact⟨j+1,by simpa using r,a⟩
    obtain⟨h,c,a⟩:=key;exact⟨(u h g p c a).1.grow k.grow,(u h g p c a).2.bA k.low fun m l=>⟨l,rfl,(MapKept.heap_set f).2 m (U _ m (by simp) l)⟩⟩)
  refine⟨_,?_,Q,T⟩;simp[Builtin.delete_,run_underlying v,MapKept.run_getObj_map f,MapKept.run_checkKey q W,MapKept.run_findKey q g6,MapKept.run_setObj_map _ f]
def dj(P:Program)(x:Sem Next)(w:World)(K:Value->World->Prop):Prop:=
 match x.run P w with
 |.ok (.value v) w'=>K v w'
 |.ok .skip w'=>K undef w'
 |.ok (.enter f args) w'=>Calls P f args w' fun e a=>∃v,e = .returned v/\K v a
 |_=>False
def dj.fT{x:Sem Next}{K:Value->World->Prop}{v:Value}{w':World}(h:x.run P w = .ok (.value v) w')(k:K v w'):dj P x w K:=by
 unfold dj;rw[h];exact k
def dj.xP{x:Sem Next}{K:Value->World->Prop}{w':World}(h:x.run P w = .ok .skip w')(k:K undef w'):dj P x w K:=by
 unfold dj;rw[h];exact k
def dj.FX{x:Sem Next}{K:Value->World->Prop}{f:FuncId}{args:Array Value}{w':World}(h:x.run P w = .ok (.enter f args) w')
  (k:Calls P f args w' fun e a=>∃v,e = .returned v/\K v a):dj P x w K:=by
 unfold dj;rw[h];exact k
def dj.mono{x:Sem Next}{K a:Value->World->Prop}(h:dj P x w K)(k:∀v w',K v w'->a v w'):dj P x w a:=by
 unfold dj at*;split at h
 .exact k _ _ h
 .exact k _ _ h
 .exact Calls.mono h fun e d⟨v,b,c⟩=>⟨v,b,k _ _ c⟩
 .exact h.elim
def Good(P:Program)(w0:World)(aJ:Nat->Nat)(O:Nat->Prop)(G:Gh)(ad:List (Option Nat))(w:World)(a:AV)(br:List (Option Nat))(c:List Bx)(v:Value)(w':World):Prop:=
 ∃b,lf P w0 aJ O G ad w a br c v b w'
def Plain.yv{x:Sem Next}{a:AV}(d:Inv P w0 aJ O G heap w)(h:Plain P G ad w x a):dj P x w (Good P w0 aJ O G ad w a ad heap):=by
 obtain⟨v,w',b,c⟩:=h.after d;exact .fT b c
def MN{e:Operand->Value}{ρ:Operand->AV}{o:Oper}{an:An}{k:Kd}{a:AV}{l:List Prop}
  (g:qt G ad w e ρ o.op)(h:plain P o.op an k ρ=some (a,l))(n:∀q∈l,q)(D:∀t len aV,o.op≠.buildSlice t len aV):Plain P G ad w (execOp e o) a:=by
 obtain⟨J,op,type,M,after,guard⟩:=o;cases op
 case move x=>simp only[plain,aw,ax]at h;obtain⟨rfl,rfl⟩:=h;exact .pure (by simp[execOp]) (g x (by simp[Op.operands]))
 case assign x=>simp only[plain,aw,ax]at h;obtain⟨rfl,rfl⟩:=h;exact .pure (by simp[execOp]) (g x (by simp[Op.operands]))
 case pick c x y=>
  obtain⟨E,v⟩:=g;have key:∀{B:Bool},ρ c = .v (.bool B)->aL G ad w (if B then e x else e y) a->Plain P G ad w (execOp e ⟨J,.pick c x y,type,M,after,guard⟩) a:=fun j I=>Oc E j I
  by_cases r:∃t,k = .pk t
  .obtain⟨t,rfl⟩:=r
   simp only[plain]at h;split at h<;>try(simp at h;done)
   rename_i B j;simp only[aw,ax]at h;obtain⟨rfl,rfl⟩:=h;have K:B=t:=n _ (by simp)
   subst K;refine key j ?_;cases B with
   |true=>exact(v _ j).1 rfl
   |false=>exact(v _ j).2 rfl
  .have m:(match ρ c with
    |.v (.bool B)=>match ρ x,ρ y with
     |.v (.bool x),.v (.bool y)=>some ((.v (.bool (bif B then x else y)),[]):AV×List Prop)
     |x,y=>match B with
      |true=>some (x,[])
      |false=>some (y,[])
    |_=>none)=some (a,l):=by
    cases k<;>first|exact h|exact(r ⟨_,rfl⟩).elim
   clear h;split at m<;>try(simp at m;done)
   rename_i B j;refine key j ?_;split at m
   .rename_i bx Q u z
    simp only[aw,ax]at m;obtain⟨rfl,rfl⟩:=m;cases B with
    |true=>have:=(v _ j).1 rfl;rw[u]at this;exact this
    |false=>have:=(v _ j).2 rfl;rw[z]at this;exact this
   .split at m<;>simp only[aw,ax]at m<;>obtain⟨rfl,rfl⟩:=m
    .exact(v _ j).1 rfl
    .exact(v _ j).2 rfl
 case build t aV=>exact MG (fun p H=>g p.2 (by simp only[Op.operands];exact bg.2 ⟨p,H,rfl⟩)) h
 case buildSlice t len aV=>exact absurd rfl (D t len aV)
 case load t x=>exact MA (g x (by simp[Op.operands])) h
 case nilCheck x=>exact DE (g x (by simp[Op.operands])) rfl h
 case binOp op t x y t'=>exact MD (g x (by simp[Op.operands])) (g y (by simp[Op.operands])) h n
 case unOp op t x=>exact Oi (g x (by simp[Op.operands])) h
 case convert s d x=>exact FJ (g x (by simp[Op.operands])) h n
 case makeInterface t x=>exact uj (g x (by simp[Op.operands])) h
 case typeAssert x xt t ok=>exact yl (g x (by simp[Op.operands])) h n
 case makeFunc f first cap=>
  simp only[plain,aw,ax]at h;obtain⟨rfl,rfl⟩:=h;exact DF (fun x u=>g x (by simp only[Op.operands,tS];exact dL _ u)) fun x u=>g x (by simp only[Op.operands,tS];exact eT _ u)
 case slice t x lo hh mx=>
  exact MF (g x (by simp[Op.operands])) (fun y z=>g y (by cases z;simp[Op.operands])) (fun y z=>g y (by cases z;simp[Op.operands])) h n
 case fieldAddr s x f=>exact AY (g x (by simp[Op.operands])) h
 case field t x f=>exact MB (g x (by simp[Op.operands])) h
 case indexAddr t x ix=>exact AZ (g x (by simp[Op.operands])) (g ix (by simp[Op.operands])) h n
 case index t x ix=>exact MC (g x (by simp[Op.operands])) (g ix (by simp[Op.operands])) h n
 case extract x i=>exact FG (g x (by simp[Op.operands])) h
 case call c=>
  obtain⟨callee,args,argTypes⟩:=c;cases callee with
  |builtin b=>exact FK (fun x u=>g x (by simp only[Op.operands,Call.operands];simpa using u)) rfl h n
  |_=>simp[plain]at h
 all_goals (simp[plain]at h)
def qA{e:Operand->Value}{ρ:Operand->AV}{o:Oper}{an:An}{k:Kd}{r:ly}{T:List (Option Nat)}{c:Bool}(a:T=if c then ad else[])(d:Inv P w0 aJ O G heap w)
  (i:qt G ad w e ρ o.op)(h:(plain P o.op an k ρ).map (fun(v,l)=>({v,ad:=T,heap,du:=l}:ly))=some r)(b:∀t len aV,o.op≠.buildSlice t len aV)
  (f:∀q∈r.du,q):dj P (execOp e o) w (Good P w0 aJ O G ad w r.v (if c then r.ad else ad) r.heap):=by
 obtain⟨⟨v,l⟩,g,rfl⟩:=aX.1 h;have:(if c then T else ad)=ad:=by subst a;cases c<;>rfl
 simp only[this];exact(MN i g f b).yv d
def yw(c:Bool)(T:List (Option Nat)):((if c then ad else[])=ad/\(if c then T else ad)=T)\/((if c then ad else[])=[]/\(if c then T else ad)=ad):=by
 cases c
 .exact .inr ⟨rfl,rfl⟩
 .exact .inl ⟨rfl,rfl⟩
def kU(c:Bool):(if c then(if c then ad else[])else ad)=ad:=by cases c<;>rfl
def I3{e:Operand->Value}{o:Oper}{t nb:Nat}{an:An}{k:Kd}{ρ:Operand->AV}{r:ly}(p:o.op = .alloc t)(j:Inv P w0 aJ O G heap w)
  (h:core P nb (.alloc t) an k ρ [] heap=some r):dj P (execOp e o) w (Good P w0 aJ O G ad w r.v ad r.heap):=by
 simp only[core]at h;split at h<;>try(simp at h;done)
 rename_i cs T n a u;split at h<;>try(simp at h;done)
 obtain⟨s,i,rfl⟩:=aX.1 h;obtain⟨z,l,a⟩:=cI.1 a;obtain⟨m,q,_,g⟩:=yj l;obtain⟨b,c,d,f⟩:=j.FO (elem:=t) (br:=ad) (g G ad w) a (.inr ⟨rfl,rfl⟩) i;refine .fT (v:=.pointer (some ⟨w.heap.size,0,none⟩)) (w':=w.alloc (.cells m.cells t)) ?_ ⟨b,c,d,f⟩;simp only[execOp,p,Instr.alloc,Sem.run_bind,q,Result.andThen_ok,newVar,newRow];simp
def Oq{e:Operand->Value}{o:Oper}{t nb:Nat}{x:Operand}{an:An}{k:Kd}{ρ:Operand->AV}{r:ly}(p:o.op = .box t x)(l:Inv P w0 aJ O G heap w)(m:aL G ad w (e x) (ρ x)){c:Bool}
  (h:core P nb (.box t x) an k ρ (if c then ad else[]) heap=some r):dj P (execOp e o) w (Good P w0 aJ O G ad w r.v (if c then r.ad else ad) r.heap):=by
 simp only[core]at h;split at h<;>try(simp at h;done)
 rename_i cs T n a s;split at h<;>try(simp at h;done)
 obtain⟨q,j,rfl⟩:=aX.1 h;unfold cellsOf at a;obtain⟨u,d,_,_⟩:=nv _ _ _ _ _ a;obtain⟨b,f,g,i⟩:=l.FO (elem:=t) (m.aV d) a (yw c T) j;refine .fT (v:=.pointer (some ⟨w.heap.size,0,none⟩)) (w':=w.alloc (.cells (e x).cells t)) ?_ ⟨b,f,g,i⟩;simp[execOp,p,Instr.box,newVar,newRow]
def yx{e:Operand->Value}{o:Oper}{t nb:Nat}{x y:Operand}{an:An}{k:Kd}{ρ:Operand->AV}{r:ly}(I:o.op = .makeSlice t x y)(j:Inv P w0 aJ O G heap w)(b:aL G ad w (e x) (ρ x))(c:aL G ad w (e y) (ρ y))
  (h:core P nb (.makeSlice t x y) an k ρ [] heap=some r)(a:∀q∈r.du,q):dj P (execOp e o) w (Good P w0 aJ O G ad w r.v ad r.heap):=by
 simp only[core]at h;split at h<;>try(simp at h;done)
 rename_i T u;split at h<;>try(simp at h;done)
 rename_i n F z Y m Z E s g D K M;split at h<;>try(simp at h;done)
 rename_i Q;obtain⟨J,p,H⟩:=aN Q;obtain⟨X,i,rfl⟩:=aX.1 h;rw[K]at b;rw[M]at c;have l:E=m:=a _ (aS ..);subst l;obtain⟨v,w',d,f⟩:=A1 (P:=P) j b c u s g D J p H (a _ (aP _ (aS ..))) (a _ (aP _ (aP _ (aS ..)))) i;exact .fT (by simpa[execOp,I]using d) f
def DS{e:Operand->Value}{o:Oper}{t nb:Nat}{y:Option Operand}{an:An}{k:Kd}{ρ:Operand->AV}{r:ly}(f:o.op = .makeMap t y)(d:Inv P w0 aJ O G heap w)
  (h:core P nb (.makeMap t y) an k ρ [] heap=some r):dj P (execOp e o) w (Good P w0 aJ O G ad w r.v ad r.heap):=by
 cases y with
 |some y=>simp[core,plain]at h
 |none=>
  simp only[core]at h;split at h<;>try(simp at h;done)
  obtain⟨g,c,rfl⟩:=aX.1 h;obtain⟨v,w',a,b⟩:=FT (P:=P) (ad:=ad) d c;exact .fT (by simpa[execOp,f]using a) b
def FY{e:Operand->Value}{o:Oper}{t nb:Nat}{m i:Operand}{ok:Bool}{an:An}{k:Kd}{ρ:Operand->AV}{r:ly}(M:o.op = .lookup t m i ok)(f:Inv P w0 aJ O G heap w)(s:aL G ad w (e m) (ρ m))(H:aL G ad w (e i) (ρ i))
  (h:core P nb (.lookup t m i ok) an k ρ (if an.take then ad else[]) heap=some r)(g:∀q∈r.du,q):dj P (execOp e o) w (Good P w0 aJ O G ad w r.v (if an.take then r.ad else ad) r.heap):=by
 have run:∀a j l,dj P (do pure (.value (<-Instr.lookup t (e m) (e i) ok))) w (Good P w0 aJ O G ad w a j l)->dj P (execOp e o) w (Good P w0 aJ O G ad w a j l):=fun a j l y=>by
  simpa only[execOp,M]using y
 simp only[core]at h;split at h<;>try(simp at h;done)
 rename_i b key F Z look T X E;split at h<;>try(simp at h;done)
 rename_i A Y z x I D;split at h<;>try(simp at h;done)
 rename_i Q;obtain rfl:=aN Q;rw[T]at s;have J:=H.pv X;obtain⟨f1,f2,f3⟩:=IZ (ok:=ok) f s J x E D;split at h
 .rename_i n al
  split at h
  .rename_i d
   simp only[aw]at h;subst h;have c:=g _ (cE.2 rfl);obtain⟨_,v,u,p⟩:=f3 n al c;simp only[d,if_true]at p⊢;exact run _ _ _ (.fT u p)
  .rename_i d
   simp only[aw]at h;subst h;have c:=g _ (cE.2 rfl);simp only[d,jO,if_false];exact run _ _ _ ((f3 n al c).1.yv f)
 .rename_i a K
  split at h<;>try(simp at h;done)
  rename_i d;simp only[aw]at h;subst h;have c:=g _ (cE.2 rfl);simp only[d,jO,if_false];exact run _ _ _ ((f2 a c fun n al e=>K n al (by rw[e])).yv f)
 .simp only[aw]at h
  subst h;have c:=g _ (cE.2 rfl);simp only[kU];exact run _ _ _ ((f1 c z I).yv f)
def yy{e:Operand->Value}{o:Oper}{t nb:Nat}{m i x:Operand}{an:An}{k:Kd}{ρ:Operand->AV}{r:ly}{c:Bool}(v:o.op = .mapUpdate t m i x)(n:Inv P w0 aJ O G heap w)(d:aL G ad w (e m) (ρ m))(u:aL G ad w (e i) (ρ i))(s:aL G ad w (e x) (ρ x))
  (h:core P nb (.mapUpdate t m i x) an k ρ (if c then ad else[]) heap=some r):dj P (execOp e o) w (Good P w0 aJ O G ad w r.v (if c then r.ad else ad) r.heap):=by
 simp only[core]at h;split at h<;>try(simp at h;done)
 rename_i b key J I z E q;split at h<;>try(simp at h;done)
 rename_i K H a f l D p;split at h<;>try(simp at h;done)
 rename_i y;obtain rfl:=aN y;simp only[aw]at h;subst h;rw[z]at d;obtain⟨w',g,j⟩:=A5 n d (u.pv E) s l q p D (yw c f);exact .xP (by simpa only[execOp,v]using g) j
def FZ{e:Operand->Value}{o:Oper}{nb:Nat}{args:Array Operand}{c:Array TypeId}{an:An}{k:Kd}{ρ:Operand->AV}{r:ly}(D:o.op = .call {callee:=.builtin .delete,args:=args,argTypes:=c})(q:Inv P w0 aJ O G heap w)
  (j:∀x∈args.toList,aL G ad w (e x) (ρ x))(h:core P nb (.call {callee:=.builtin .delete,args:=args,argTypes:=c}) an k ρ [] heap=some r):dj P (execOp e o) w (Good P w0 aJ O G ad w r.v ad r.heap):=by
 simp only[core]at h;split at h<;>try(simp at h;done)
 rename_i b i t Z u H;obtain⟨x,y,rfl,I,J⟩:=DH u;split at h<;>try(simp at h;done)
 rename_i a T key Y X p M z;split at h<;>try(simp at h;done)
 rename_i E s;obtain rfl:=aN E;simp only[aw]at h;subst h;have f:=j x (by simp)
 have g:=j y (by simp)
 rw[I]at f;rw[J]at g;have K:∀ty,∀w':World,(∀t2,(Builtin.delete_ #[a,t2] ty #[e x,e y]).run P w = .ok (.tuple #[]) w')->(Builtin.delete_ c ty #[e x,e y]).run P w = .ok (.tuple #[]) w':=by
  intro ty w' Q;have d:c[0]?=some a:=by rw[<-gR,H];rfl
  have:=Q 0;simp only[Builtin.delete_,d]at this⊢;simpa using this
 obtain⟨w',l,m,n⟩:=I2 (t2:=0) (ty:=o.type) q f (g.pv M) p z s;refine .fT (v:=.tuple #[]) (w':=w') ?_ ⟨G,.none _,m,n⟩;have:=K o.type w' fun t2=>by
  have d:(Builtin.delete_ #[a,t2] o.type #[e x,e y])=(Builtin.delete_ #[a,0] o.type #[e x,e y]):=by simp[Builtin.delete_]
  rw[d];exact l
 simp[execOp,D,resolve,invoke,builtin,this]
def I4{e:Operand->Value}{o:Oper}{t nb:Nat}{a x:Operand}{an:An}{k:Kd}{ρ:Operand->AV}{r:ly}{c:Bool}(H:o.op = .store t a x)(z:Inv P w0 aJ O G heap w)(d:aL G ad w (e a) (ρ a))(y:aL G ad w (e x) (ρ x))
  (h:core P nb (.store t a x) an k ρ (if c then ad else[]) heap=some r)(D:∀q∈r.du,q):dj P (execOp e o) w (Good P w0 aJ O G ad w r.v (if c then r.ad else ad) r.heap):=by
 simp only[core]at h;split at h<;>try(simp at h;done)
 .rename_i b off v
  rw[v]at d;split at h<;>try(simp at h;done)
  rename_i cs u;obtain⟨⟨K,I⟩,T,rfl⟩:=aX.1 h;obtain⟨w',f,g⟩:=MH z d y u T (yw c I);exact .xP (by simpa only[execOp,H]using f) g
 .rename_i b s n l i j v
  rw[v]at d;split at h<;>try(simp at h;done)
  rename_i cs K u;split at h<;>try(simp at h;done)
  rename_i p B E X;rw[X]at y;split at h<;>try(simp at h;done)
  rename_i R M C;simp only[aw]at h;subst h;have J:j<n:=D _ (aS ..);have Z:=D _ (aP _ (aS ..));obtain⟨w',f,g⟩:=IS z d y u E (aN M) J;simp only[kU];rw[<-Z];exact .xP (by simpa only[execOp,H]using f) g
 .rename_i b n i j v
  rw[v]at d;split at h<;>try(simp at h;done)
  rename_i m al A ps u E F;split at h<;>try(simp at h;done)
  rename_i Y;obtain⟨rfl,Q⟩:=aN Y;simp only[aw]at h;subst h;obtain⟨w',f,g⟩:=IU z d y u E F Q (D _ (cE.2 rfl));simp only[kU];exact .xP (by simpa only[execOp,H]using f) g
def Ot{c:Bool}{T:List (Option Nat)}(h:T=if c then ad else[]):(if c then T else ad)=ad:=by subst h;cases c<;>rfl
def BD{e:Operand->Value}{o:Oper}{t nb:Nat}{x:Operand}{an:An}{k:Kd}{ρ:Operand->AV}{r:ly}(Q:o.op = .load t x)(g:Inv P w0 aJ O G heap w)(u:aL G ad w (e x) (ρ x)){c:Bool}(hc:an.fz=false->an.take=true->c=true)
  (h:core P nb (.load t x) an k ρ (if c then ad else[]) heap=some r)(M:∀q∈r.du,q):dj P (execOp e o) w (Good P w0 aJ O G ad w r.v (if c then r.ad else ad) r.heap):=by
 have run:∀a Y Z,dj P (do pure (.value (<-Instr.loadAt t (e x)))) w (Good P w0 aJ O G ad w a Y Z)->dj P (execOp e o) w (Good P w0 aJ O G ad w a Y Z):=fun a Y Z hd=>by
  simpa only[execOp,Q]using hd
 have K:∀T,T=(if c then ad else[])->(if c then T else ad)=ad:=fun T h=>Ot h
 simp only[core]at h;generalize I:(if c then ad else[])=T at h
 split at h
 .rename_i b off a1 J
  rw[J]at u;split at h<;>try(simp at h;done)
  rename_i cs d;split at h
  .rename_i n al a3 N f
   simp only[aw]at h;subst h;have a0:=hc a1 a3;subst a0;simp only[if_true]at I⊢;subst I;obtain⟨a4,X,elem,W,A,B,h4,h5,h6⟩:=g.qw u d;have a2:off<X.size:=by have:=(aE.1 N).1;omega
   have C:X[off]?=some X[off]:=cK a2;obtain⟨V,R⟩:=g.Ol (ad:=ad) d N A B C;refine run _ _ _ (.fT ?_ ⟨V,R⟩);rw[W];exact jm (gB f (by rw[df B];exact C))
  .obtain⟨v,hv,rfl⟩:=aX.1 h
   show dj P _ _ (Good _ _ _ _ _ _ _ _ (if c then T else ad) heap)
   rw[K _ I.symm];exact run _ _ _ ((FP g u d hv).yv g)
 .rename_i b s n l i j _ J
  rw[J]at u;split at h<;>try(simp at h;done)
  rename_i cs p d f D;split at h<;>try(simp at h;done)
  simp only[aw]at h;subst h;show dj P _ _ (Good _ _ _ _ _ _ _ _ (if c then T else ad) heap)
  rw[K _ I.symm];exact run _ _ _ ((MJ g u d f (M _ (cE.2 rfl))).yv g)
 .rename_i b n i j _ J
  rw[J]at u;have S:∀m al z E,(heap[b]?=some (.bc m al)\/heap[b]?=some (.tZ m al))->cZ P t=some true->ck P t=some z ->
    (match decide (m=n/\j+z<=n/\E.length=n)with
    |true=>some ({v:=.agg ((E.drop j).take z),ad:=T,heap,du:=[al[i.toNat]?=some E]}:ly)
    |false=>none)=some r->dj P (execOp e o) w (Good P w0 aJ O G ad w r.v (if c then r.ad else ad) r.heap):=by
   intro m al z E d f D H;split at H<;>try(simp at H;done)
   rename_i F;obtain⟨rfl,A,R⟩:=aN F;cases H;show dj P _ _ (Good _ _ _ _ _ _ _ _ (if c then T else ad) heap)
   rw[K _ I.symm];exact run _ _ _ ((MI g u d f D (M _ (cE.2 rfl)) (by omega)).yv g)
  have U:∀m al p,(heap[b]?=some (.bc m al)\/heap[b]?=some (.tZ m al))->cZ P t=some false ->
    (match decide (m=n)with
    |true=>some ({v:=.v p,ad:=T,heap,du:=[(al[i.toNat]?).bind (·[j]?)=some p]}:ly)
    |false=>none)=some r->dj P (execOp e o) w (Good P w0 aJ O G ad w r.v (if c then r.ad else ad) r.heap):=by
   intro m al p d f H;split at H<;>try(simp at H;done)
   rename_i F;obtain rfl:=aN F;cases H;show dj P _ _ (Good _ _ _ _ _ _ _ _ (if c then T else ad) heap)
   rw[K _ I.symm];exact run _ _ _ ((IV g u d f (M _ (cE.2 rfl))).yv g)
  split at h<;>try(simp at h;done)
  .rename_i m al z E d f D
   exact S m al z E (.inl d) f D h
  .rename_i m al z E d f D
   exact S m al z E (.inr d) f D h
  .rename_i m al p d f D
   exact U m al p (.inl d) f h
  .rename_i m al p d f D
   exact U m al p (.inr d) f h
 .exact qA (T:=T) (an:=an) (k:=k) (ρ:=ρ) I.symm g (by rw[Q];intro y L;simp[Op.operands]at L;subst L;exact u) (by rw[Q];exact h) (fun _ _ _=>by rw[Q];simp) M
def yz{e:Operand->Value}{o:Oper}{t nb:Nat}{x g:Operand}{an:An}{k:Kd}{ρ:Operand->AV}{r:ly}{c:Bool}(u:o.op = .indexAddr t x g)(p:Inv P w0 aJ O G heap w)(l:aL G ad w (e x) (ρ x))(s:aL G ad w (e g) (ρ g))
  (h:core P nb (.indexAddr t x g) an k ρ (if c then ad else[]) heap=some r)(E:∀q∈r.du,q):dj P (execOp e o) w (Good P w0 aJ O G ad w r.v (if c then r.ad else ad) r.heap):=by
 have run:∀a z D,dj P (do pure (.value (<-Instr.indexAt t (e x) (e g)))) w (Good P w0 aJ O G ad w a z D)->dj P (execOp e o) w (Good P w0 aJ O G ad w a z D):=fun a z D Q=>by
  simpa only[execOp,u]using Q
 simp only[core]at h;split at h
 .rename_i b J
  rw[J]at l;have box:∀n al kk i,(heap[b]?=some (.bc n al)\/heap[b]?=some (.tZ n al))->ρ g = .v (.int kk i)->
    (match P.underlying t with
    |some (.slice e)=>match decide (ck P e=some n)with
     |true=>some ({v:=.fK b n i 0,ad:=if c then ad else[],heap,du:=[0<=i/\i<al.length]}:ly)
     |false=>none
    |_=>none)=some r->dj P (execOp e o) w (Good P w0 aJ O G ad w r.v (if c then r.ad else ad) r.heap):=by
   intro n al kk i d f h;split at h<;>try(simp at h;done)
   rename_i M I;split at h<;>try(simp at h;done)
   rename_i H;simp only[aw]at h;subst h;rw[f]at s;rw[s.gh]at run;simp only[kU];exact run _ _ _ ((DQ p l d I (aN H) (E _ (cE.2 rfl))).yv p)
  split at h<;>try(simp at h;done)
  .rename_i n al kk i d f
   exact box n al kk i (.inl d) f h
  .rename_i n al kk i d f
   exact box n al kk i (.inr d) f h
 .rename_i b n i j J
  rw[J]at l;split at h<;>try(simp at h;done)
  rename_i kk m len M f I;split at h<;>try(simp at h;done)
  rename_i F H;simp only[aw]at h;subst h;rw[f]at s;rw[s.gh]at run;have Y:=E _ (cE.2 rfl);simp only[kU];generalize e x=V at l run;cases l with
  |@fK _ _ _ R off A cap _ X Z d=>
   refine run _ _ _ (Plain.yv p (.pure (bG _ (lD I H Y _)) ?_));rw[gp];exact .fK X Z d
 .exact qA (T:=if c then ad else[]) (an:=an) (k:=k) (ρ:=ρ) rfl p (by rw[u];intro y K;simp[Op.operands]at K;rcases K with rfl|rfl<;>assumption) (by rw[u];exact h) (fun _ _ _=>by rw[u];simp) E
def I5{e:Operand->Value}{o:Oper}{t nb:Nat}{x:Operand}{lo j s:Option Operand}{an:An}{k:Kd}{ρ:Operand->AV}{r:ly}{c:Bool}(a:o.op = .slice t x lo j s)(l:Inv P w0 aJ O G heap w)
  (f:qt G ad w e ρ o.op)(h:core P nb (.slice t x lo j s) an k ρ (if c then ad else[]) heap=some r)(m:∀q∈r.du,q):dj P (execOp e o) w (Good P w0 aJ O G ad w r.v (if c then r.ad else ad) r.heap):=by
 have d:=f;rw[a]at d;have p:aL G ad w (e x) (ρ x):=d x (by simp[Op.operands])
 simp only[core]at h;split at h
 .rename_i b M
  rw[M]at p;split at h<;>try(simp at h;done)
  rename_i n al kk i H Q;split at h<;>try(simp at h;done)
  rename_i X J;split at h<;>try(simp at h;done)
  rename_i F I;obtain⟨Y,g,rfl⟩:=aX.1 h;obtain⟨E,Z⟩:=m _ (cE.2 rfl);obtain⟨y,rfl,K⟩:=aX.1 Q;have u:aL G ad w (e y) (ρ y):=d y (by simp[Op.operands])
  rw[K]at u;obtain⟨q,rfl⟩:=iq E;simp only[tR]at g;simp only[kU];obtain⟨v,w',z,D⟩:=DP (kk:=kk) l J I p H (by omega) g
  refine .fT (v:=v) (w':=w') ?_ D;simp only[execOp,a,cP,qm,u.gh];exact z
 .exact qA (T:=if c then ad else[]) (an:=an) (k:=k) (ρ:=ρ) rfl l f (by rw[a];exact h) (fun _ _ _=>by rw[a];simp) m
def xk{e:Operand->Value}{o:Oper}{t len nb:Nat}{aV:Array (Nat×Operand)}{an:An}{k:Kd}{ρ:Operand->AV}{r:ly}(y:o.op = .buildSlice t len aV)(j:Inv P w0 aJ O G heap w)
  (s:qt G ad w e ρ o.op)(h:core P nb (.buildSlice t len aV) an k ρ (if an.bA then ad else[]) heap=some r)(M:∀q∈r.du,q):dj P (execOp e o) w (Good P w0 aJ O G ad w r.v (if an.bA then r.ad else ad) r.heap):=by
 rw[y]at s;have m:∀p∈aV.toList,aL G ad w (e p.2) (ρ p.2):=fun p a=>s p.2 (by simp only[Op.operands];exact bg.2 ⟨p,a,rfl⟩)
 have run:∀K,dj P (do pure (.value (<-Instr.buildSlice t len (aV.map fun(i,x)=>(i,e x))))) w K->dj P (execOp e o) w K:=fun K H=>by
  simpa only[execOp,y]using H
 simp only[core]at h;split at h<;>try(simp at h;done)
 .rename_i n al l z a
  obtain⟨J,I,rfl⟩:=aX.1 h;obtain⟨u,E,c,v,w',b,d,f,g⟩:=mA j m a;simp only[AV.v.injEq,PV.sl.injEq]at c;obtain⟨rfl,rfl⟩:=c;simp only[kU];exact run _ (.fT b (g _ _ I))
 .rename_i n al l z D a
  simp only[aw]at h;subst h;obtain⟨u,E,c,v,w',b,d,f,g⟩:=mA j m a;simp only[AV.v.injEq,PV.sl.injEq]at c;obtain⟨rfl,rfl⟩:=c;simp only[D,if_true];exact run _ (.fT b f)
 .rename_i v l z D a
  simp only[aw]at h;subst h;obtain⟨u,E,rfl,v,w',b,d,f,g⟩:=mA j m a;simp only[kU];exact run _ (.fT b d)
def F0{e:Operand->Value}{o:Oper}{nb:Nat}{args:Array Operand}{F:Array TypeId}{an:An}{k:Kd}{ρ:Operand->AV}{r:ly}(L:o.op = .call {callee:=.builtin .append,args:=args,argTypes:=F})(l:Inv P w0 aJ O G heap w)
  (B:∀x∈args.toList,aL G ad w (e x) (ρ x))(h:core P nb (.call {callee:=.builtin .append,args:=args,argTypes:=F}) an k ρ ad heap=some r)(p:∀q∈r.du,q):dj P (execOp e o) w (Good P w0 aJ O G ad w r.v r.ad r.heap):=by
 simp only[core]at h;split at h<;>try(simp at h;done)
 rename_i s x t C M a1;split at h<;>try(simp at h;done)
 rename_i e1 e2 u D;split at h<;>try(simp at h;done)
 rename_i n a0 z Y Q hz;split at h<;>try(simp at h;done)
 rename_i ys a6 a4;obtain⟨a5,hn,a9⟩:=aN a6;have c:=B s (by rw[M];simp)
 have E:=(B x (by rw[M];simp)).al a4
 have U:args = #[s,x]:=by rw[<-mr,M]
 have W:F = #[t,C]:=by rw[<-mr,a1]
 rw[U,W]at L;obtain⟨i,zv,f,y,b2,hZ⟩:=yo hz;have J:i.size=n:=by unfold ck at Y;rw[f]at Y;simpa using Y
 have I:i.bytes=a0:=by unfold ya at Q;rw[f]at Q;simpa using Q
 have H:zv.cells.size=n:=by rw[(hZ G.bQ w).1,a5]
 have run:∀K,(∃v w',(Builtin.append_ #[t,C] o.type #[e s,e x]).run P w = .ok v w'/\K v w')->dj P (execOp e o) w K:=fun K⟨v,w',a,j⟩=>
  .fT (v:=v) (w':=w') (by simp[execOp,L,resolve,invoke,builtin,a]) j
 unfold yc at h;split at h<;>try(simp at h;done)
 .rename_i g
  rw[g]at c;have N:e s = .slice none 0 0:=by generalize e s=V at c;cases c with|v h=>cases h;rfl
  split at h
  .obtain⟨h',T,rfl⟩:=aX.1 h
   have d:=p _ (cE.2 rfl);rw[N]at run;exact run _ (A2 l u D f y J H (by omega) E (by rw[I];exact d) T)
  .simp only[aw]at h
   subst h;have d:=p _ (cE.2 rfl);rw[N]at run;refine run _ ?_;have:=sJ (ad:=ad) (ty:=o.type) (tk:=ad.length) (MK:=0) (al:=[]) (br:=ad++[some 0]) l u D f y J H (by omega) (.mw n) E (by rw[I];simpa using d) (by rw[ei (ar _),kZ];rfl) (by simp)
    (fun t m a j=>by rw[bX j]at a;exact⟨m,a,.inr ⟨rfl,by omega⟩⟩) (fun b1=>by omega)
   simp only[ea]at this;exact this
 .rename_i tk R m al g
  rw[g]at c;split at h<;>try(simp at h;done)
  rename_i X a7;obtain rfl:=aN X;have Z:=aN a7;simp only[aw]at h;subst h;have d:=p _ (cE.2 rfl);have S:=(aE.1 Z).1;generalize e s=V at c run;cases c with
  |@own _ _ _ _ A len cap b3 b0 hP a8=>
   exact run _ (sJ (tk:=tk) (MK:=R+1) (br:=ad.set tk (some (R+1))) l u D f y J H (by omega) hP E (by rw[I];exact d) (by simp[S]) (by simp)
    (fun t q a j=>by
     rw[il]at a;split at a
     .subst_vars
      simp[S]at a;exact⟨R,Z,.inl (by omega)⟩
     .rename_i a3
      exact⟨q,a,.inr ⟨rfl,fun e=>a3 e.symm⟩⟩) (fun _=>a8 Z))
 .rename_i b g
  rw[g]at c;split at h<;>try(simp at h;done)
  rename_i m al a2;split at h<;>try(simp at h;done)
  rename_i X;obtain rfl:=aN X;obtain⟨h',T,rfl⟩:=aX.1 h;have d:=p _ (cE.2 rfl);exact run _ (A4 l u D f y J H (by omega) c a2 E (by rw[I];exact d) T)
def Ou{e:Operand->Value}{o:Oper}{nb:Nat}{args:Array Operand}{v:Array TypeId}{an:An}{k:Kd}{ρ:Operand->AV}{r:ly}{c:Bool}(j:o.op = .call {callee:=.builtin .len,args:=args,argTypes:=v})(i:Inv P w0 aJ O G heap w)
  (p:qt G ad w e ρ o.op)(h:core P nb (.call {callee:=.builtin .len,args:=args,argTypes:=v}) an k ρ (if c then ad else[]) heap=some r)(E:∀q∈r.du,q):dj P (execOp e o) w (Good P w0 aJ O G ad w r.v (if c then r.ad else ad) r.heap):=by
 have u:∀x∈args.toList,aL G ad w (e x) (ρ x):=by rw[j]at p;exact fun x u=>p x (by simp only[Op.operands,Call.operands];simpa using u)
 simp only[core]at h;split at h
 .rename_i b t D J
  obtain⟨x,rfl,I⟩:=IJ D;have y:v = #[t]:=by rw[<-mr,J]
  subst y;have l:=u x (by simp)
  rw[I]at l;have key:∀n al d,(heap[b]?=some (.bc n al)\/heap[b]?=some (.tZ n al))->P.underlying t=some (.slice d)->dj P (execOp e o) w (Good P w0 aJ O G ad w (.v (.int .i64 al.length)) ad heap):=by
   intro n al d a g;have f:∃A cap,e x = .slice A al.length cap:=by
    rcases a with a|a
    .obtain⟨_,_,_,A,cap,_,z,_⟩:=i.DO l a
     exact⟨A,cap,z⟩
    .obtain⟨K,s⟩:=i.box _ _ a
     have f:e x=G.val b:=by generalize e x=V at l;cases l;rfl
     rw[f];obtain⟨A,m,c,H⟩:=uo s;rw[H]at s⊢;exact⟨A,c,by rw[(s.flat).1]⟩
   obtain⟨A,cap,f⟩:=f;refine Plain.yv i (.pure ?_ (.mkInt .i64 al.length));simp[execOp,j,resolve,invoke,builtin,Builtin.len_,run_underlying g,goInt,f]
  split at h<;>try(simp at h;done)
  .rename_i n al d a g
   simp only[aw]at h;subst h;simp only[kU];exact key n al d (.inl a) g
  .rename_i n al d a g
   simp only[aw]at h;subst h;simp only[kU];exact key n al d (.inr a) g
 .exact qA (T:=if c then ad else[]) (an:=an) (k:=k) (ρ:=ρ) rfl i p (by rw[j];exact h) (fun _ _ _=>by rw[j];simp) E
def MO{e:Operand->Value}{ρ:Operand->AV}{o:Oper}{nb:Nat}{an:An}{k:Kd}{r:ly}(n:Inv P w0 aJ O G heap w)
  (d:qt G ad w e ρ o.op)(h:core P nb o.op an k ρ (if(cL o.op an nb).tk then ad else[]) heap=some r)(p:∀q∈r.du,q)
  (J:∀f args u,o.op≠.call {callee:=.value f,args:=args,argTypes:=u}):
  dj P (execOp e o) w (Good P w0 aJ O G ad w r.v (if(cL o.op an nb).tk then r.ad else ad) r.heap):=by
 have K:(∀x∈o.op.operands.toList,aL G ad w (e x) (ρ x))\/∃c a b,o.op = .pick c a b:=by
  by_cases D:∃c a b,o.op = .pick c a b
  .exact .inr D
  .left
   have:=d;unfold qt at this;split at this
   .exact absurd ⟨_,_,_,by assumption⟩ D
   .exact this
 obtain⟨g,op,type,j,after,guard⟩:=o;have pl:∀(c:Bool),(cL op an nb).tk=c->(∀t len aV,op≠.buildSlice t len aV)->(core P nb op an k ρ (if c then ad else[]) heap=(plain P op an k ρ).map fun(v,l)=>({v,ad:=if c then ad else[],heap,du:=l}:ly))->
   dj P (execOp e ⟨g,op,type,j,after,guard⟩) w (Good P w0 aJ O G ad w r.v (if(cL op an nb).tk then r.ad else ad) r.heap):=by
  intro c H E I;simp only at h;rw[H]at h⊢;rw[I]at h;exact qA (o:=⟨g,op,type,j,after,guard⟩) rfl n d h E p
 cases op
 case alloc t=>exact I3 (o:=⟨g,.alloc t,type,j,after,guard⟩) rfl n h
 case box t x=>exact Oq (o:=⟨g,.box t x,type,j,after,guard⟩) rfl n (d x (by simp[Op.operands])) h
 case makeSlice t x y=>exact yx (o:=⟨g,.makeSlice t x y,type,j,after,guard⟩) rfl n (d x (by simp[Op.operands])) (d y (by simp[Op.operands])) h p
 case makeMap t y=>exact DS (o:=⟨g,.makeMap t y,type,j,after,guard⟩) rfl n h
 case lookup t m i ok=>exact FY (o:=⟨g,.lookup t m i ok,type,j,after,guard⟩) rfl n (d m (by simp[Op.operands])) (d i (by simp[Op.operands])) h p
 case mapUpdate t m i x=>exact yy (o:=⟨g,.mapUpdate t m i x,type,j,after,guard⟩) rfl n (d m (by simp[Op.operands])) (d i (by simp[Op.operands])) (d x (by simp[Op.operands])) h
 case store t a x=>exact I4 (o:=⟨g,.store t a x,type,j,after,guard⟩) rfl n (d a (by simp[Op.operands])) (d x (by simp[Op.operands])) h p
 case load t x=>
  have s:=d x (by simp[Op.operands])
  cases hfz:an.fz with
  |false=>
   have z:cL (.load t x) an nb={hr:=true,hw:=an.take,tk:=an.take,bx:=an.fb}:=by simp[cL,hfz]
   simp only[z]at h⊢;exact BD (o:=⟨g,.load t x,type,j,after,guard⟩) rfl n s (fun _ h=>h) h p
  |true=>
   have z:cL (.load t x) an nb={}:=by simp[cL,hfz]
   simp only[z]at h⊢;exact BD (o:=⟨g,.load t x,type,j,after,guard⟩) (c:=false) rfl n s (fun h=>by rw[hfz]at h;simp at h) h p
 case indexAddr t x ix=>exact yz (o:=⟨g,.indexAddr t x ix,type,j,after,guard⟩) (c:=false) rfl n (d x (by simp[Op.operands])) (d ix (by simp[Op.operands])) h p
 case slice t x lo hh mx=>exact I5 (o:=⟨g,.slice t x lo hh mx,type,j,after,guard⟩) (c:=false) rfl n d h p
 case buildSlice t len aV=>exact xk (o:=⟨g,.buildSlice t len aV,type,j,after,guard⟩) rfl n d h p
 case call c=>
  obtain⟨callee,args,u⟩:=c;cases callee with
  |value f=>exact absurd rfl (J f args u)
  |invoke a b=>simp[core,plain]at h
  |builtin b=>
   have s:∀x∈args.toList,aL G ad w (e x) (ρ x):=fun x s=>d x (by simp only[Op.operands,Call.operands];simpa using s)
   cases b
   case append=>exact F0 (o:=⟨g,.call {callee:=.builtin .append,args:=args,argTypes:=u},type,j,after,guard⟩) rfl n s h p
   case delete=>exact FZ (o:=⟨g,.call {callee:=.builtin .delete,args:=args,argTypes:=u},type,j,after,guard⟩) rfl n s h
   case len=>exact Ou (o:=⟨g,.call {callee:=.builtin .len,args:=args,argTypes:=u},type,j,after,guard⟩) (c:=false) rfl n d h p
   all_goals exact pl false rfl (by simp) rfl
 all_goals exact pl false rfl (by simp) rfl
end
section
variable {P:Program} {G:Gh} {ad:List (Option Nat)} {heap:List Bx} {w:World}
structure lh (G G':Gh) (f:Nat->Nat) (S:Nat->Prop):Prop where
 bQ:G'.bQ=G.bQ
 bz:∀b,S b->G.bz b->G'.bz (f b)
 val:∀b,S b->G'.val (f b)=G.val b
 box:∀b,S b->G'.h (.box (f b))=G.h (.box b)
 cell:∀b j,S b->G'.h (.cell (f b) j)=G.h (.cell b j)
 nO:∀b k,S b->G'.h (.nO (f b) k)=G.h (.nO b k)
def bW.jA{a gz:Nat->Nat}{v:Value}{p:PV}(h:bW a w v p)(e:gz=a):bW gz w v p:=by subst e;exact h
def aL.ub{q:Gh}{f:Nat->Nat}{S:Nat->Prop}{br:List (Option Nat)}{v:Value}{a:AV}(h:aL G ad w v a)(t:a.simple=true)(s:∀g l m,a≠.fn g l m)(R:lh G q f S)(n:∀b∈a.nh,S b):aL q br w v (a.ub f):=by
 cases h with
 |none v=>exact .none _
 |v h=>exact .v (h.jA R.bQ)
 |agg o h=>exact .agg o fun i v p j k=>(h i v p j k).jA R.bQ
 |@aA b off u d h=>
  have c:S b:=n b (by simp[AV.nh])
  exact .aA (R.bz _ c d) ((R.val _ c).trans h)
 |@bo b d e=>
  have c:S b:=n b (by simp[AV.nh])
  rw[<-R.val _ c]at e⊢;exact .bo (R.bz _ c d) e
 |@mp b d e=>
  have c:S b:=n b (by simp[AV.nh])
  rw[<-R.val _ c]at e⊢;exact .mp (R.bz _ c d) e
 |qg=>exact .qg
 |Bp o h=>exact .Bp o fun i v p j k=>(h i v p j k).jA R.bQ
 |fn=>exact absurd rfl (s _ _ _)
 |_=>simp[AV.simple]at t
def aL.dq{s:Gh}{f:Nat->Nat}{S:Nat->Prop}{br:List (Option Nat)}{v:Value}{a:AV}(h:aL G ad w v a)(k:a.simple=true)(R:lh G s f S)(t:∀b∈a.refs,S b):aL s br w v (a.dq f):=by
 by_cases u:∃g l m,a = .fn g l m
 .obtain⟨g,first,cap,rfl⟩:=u
  have n:∀a∈first++cap,a.simple=true/\(∀g l m,a≠.fn g l m):=by
   intro a c;have:=bf.1 (by simpa[AV.simple]using k) a c
   cases a<;>simp at this<;>exact⟨rfl,by simp⟩
  have x:∀a∈first++cap,∀b∈a.nh,S b:=fun a c b I=>t b (by simp only[AV.refs,fk];exact⟨a,c,I⟩)
  cases h with
  |fn r D E H=>
   refine .fn (by simpa using r) (by simpa using D) (fun i v a q c=>?_) fun i v a q c=>?_
   .rw[bp]at c
    obtain⟨o,j,rfl⟩:=aX.1 c;have d:=dL cap (aK j);exact(E i v o q j).ub (n _ d).1 (n _ d).2 R (x _ d)
   .rw[bp]at c
    obtain⟨o,j,rfl⟩:=aX.1 c;have d:=eT first (aK j)
    exact(H i v o q j).ub (n _ d).1 (n _ d).2 R (x _ d)
 .have p:∀g l m,a≠.fn g l m:=fun g l m e=>u ⟨g,l,m,e⟩
  have y:a.dq f=a.ub f:=by cases a<;>first|rfl|exact absurd rfl (p _ _ _)|simp[AV.simple]at k
  have z:a.refs=a.nh:=by cases a<;>first|rfl|exact absurd rfl (p _ _ _)|simp[AV.simple]at k
  rw[y];exact h.ub k p R (z▸t)
def Room.eq{a:Gh}{x y:Hd}{A:Option Addr}{len cap n:Nat}(h:Room G x w A len cap n)(e:a.bQ=G.bQ)(d:a.h y=G.h x):Room a y w A len cap n:=
 h.bA fun b c=>⟨d.trans c,by rw[e],rfl⟩
def ej.dq{c:Gh}{f:Nat->Nat}{S:Nat->Prop}{x y:Hd}{v:Value}{a:AV}(h:ej G w x v a)(l:a.simple=true)(R:lh G c f S)(k:∀b∈a.refs,S b)(i:c.h y=G.h x):ej c w y v (a.dq f):=by
 refine⟨h.1,?_⟩;have d:=h.2;by_cases g:∃n al,a = .jH n al
 .obtain⟨n,al,rfl⟩:=g
  obtain⟨A,len,cap,e,j,m⟩:=d;exact⟨A,len,cap,e,j.jA R.bQ,m.eq R.bQ i⟩
 .have key:aL G [] w v a->aL c [] w v (a.dq f):=fun h=>h.dq l R k
  cases a<;>first|exact absurd ⟨_,_,rfl⟩ g|exact key d
def om.dq{b:Gh}{x y:Hd}{v:Value}{a:AV}(h:om G w x v a)(j:a.IF=true)(d:b.bQ=G.bQ)(k:b.h y=G.h x):om b w y v a:=by
 cases a<;>simp[AV.IF]at j
 .rename_i p
  have c:ej G w x v (.v p):=h;have:ej b w y v (.v p):=⟨c.1,by
   have g:=c.2;cases g with
   |v h=>exact .v (h.jA d)⟩
  exact this
 .rename_i ps
  have c:aL G [] w v (.agg ps):=h;have:aL b [] w v (.agg ps):=by
   cases c with
   |agg m h=>exact .agg m fun i v p f g=>(h i v p f g).jA d
  exact this
 .rename_i n al
  have c:ej G w x v (.jH n al):=h;obtain⟨f,A,len,cap,e,l,o⟩:=c;exact(⟨f,A,len,cap,e,l.jA d,o.eq d k⟩:ej b w y v (.jH n al))
def fY.Th{r:Gh}{f:Nat->Nat}{S:Nat->Prop}{b:Nat}{bx:Bx}(h:fY P G w b bx)(Y:bx.simple=true)(Z:bx.there=true)(R:lh G r f S)(c:S b)(T:∀b∈bx.refs,S b):fY P r w (f b) (bx.dq f):=by
 cases bx with
 |cells cs=>
  obtain⟨s,X,elem,l,d,g,m,o,k,q⟩:=h;refine⟨s,X,elem,R.bz _ c l,(R.box _ c).trans d,(R.val _ c).trans g,m,by simpa using o,by rw[R.bQ];exact k,fun j v a y E=>?_⟩
  rw[bp]at E;obtain⟨D,I,rfl⟩:=aX.1 E;have H:=aK I;exact(q j v D y I).dq (bf.1 Y _ H) R (fun b M=>T b (by simp only[Bx.refs,fk];exact⟨D,H,M⟩)) (R.cell _ _ c)
 |bc n al=>
  obtain⟨l,J,h|⟨d,A,g⟩⟩:=h
  .obtain⟨s,X,elem,cap,d,g,m,o,k,q,u⟩:=h
   exact⟨R.bz _ c l,J,.inl ⟨s,X,elem,cap,(R.box _ c).trans d,(R.val _ c).trans g,m,o,k,by rw[R.bQ];exact q,fun i j v p y Q=>(u i j v p y Q).jA R.bQ⟩⟩
  .exact⟨R.bz _ c l,J,.inr ⟨d,A,(R.val _ c).trans g⟩⟩
 |tZ n al=>exact⟨R.bz _ c h.1,by rw[R.val _ c];exact h.2.jA R.bQ⟩
 |map t B=>
  obtain⟨s,F,clock,l,d,g,m,o,k,q,u⟩:=h;refine⟨s,F,clock,R.bz _ c l,(R.box _ c).trans d,(R.val _ c).trans g,m,o,k,q,fun i e x K z=>⟨(u i e x K z).1.jA R.bQ,?_⟩⟩
  exact(u i e x K z).2.dq (k x (aK z)).1 R.bQ (R.nO _ _ c)
 |dead=>exact R.bz _ c h
 |free=>simp[Bx.there]at Z
end
end Go.Ac
end
