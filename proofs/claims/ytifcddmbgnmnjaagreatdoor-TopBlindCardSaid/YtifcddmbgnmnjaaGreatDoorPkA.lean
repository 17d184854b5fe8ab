/-
Part 1: lemmas; no conditions beyond those that they state.
-/
import Derived.Orders
import Derived.KernelRfl
import Derived.Laws.Sem
import Derived.Below
import Derived.Laws.World
import Derived.Laws.StructEq
import Derived.Laws.Cells
import Derived.Laws.BytesString
import Derived.Laws.Strings
import Derived.Laws.NewFold
import Derived.Laws.Rows
import Derived.Laws.MakeOwn
import Derived.Laws.CopyRow
import Derived.Deep.AppendSrc
import Derived.Laws.AppendOwn
import Derived.MapKept
import Derived.MapFrom
import Derived.WideMake
import Derived.Calls
set_option linter.all false
set_option autoImplicit true
set_option relaxedAutoImplicit true
section
abbrev aN :=@if_neg
abbrev aJ :=@if_pos
abbrev aj :=@cond_true
abbrev af :=@cond_false
abbrev mP :=@Prod.mk.inj
abbrev jj :=@Nat.le_succ
abbrev oH :=@Int.pow_pos
abbrev ez :=@Int.le_refl
abbrev cM :=@Nat.one_mul
abbrev dP :=@Nat.zero_le
abbrev bZ :=@Nat.add_mul
abbrev ar :=@Nat.le_refl
abbrev jk :=@Int.le_of_lt
abbrev kg :=@Int.ne_of_gt
abbrev mQ :=@List.all_nil
abbrev oI :=@List.map_nil
abbrev oJ :=@Nat.add_comm
abbrev qN :=@Nat.lt_trans
abbrev dQ :=@List.map_map
abbrev bh :=@List.mem_map
abbrev lF :=@Nat.mul_comm
abbrev cy :=@Nat.zero_add
abbrev qO :=@List.set_set
abbrev bU :=@Nat.lt_or_ge
abbrev ik :=@Nat.add_zero
abbrev lG :=@Nat.sub_self
abbrev dR :=@Nat.le_trans
abbrev mR :=@List.map_drop
abbrev il :=@List.any_cons
abbrev iq :=@List.map_take
abbrev eZ :=@List.sum_cons
abbrev aZ :=@List.mem_cons
abbrev bG :=@List.all_cons
abbrev mS :=@Bool.false_or
abbrev bH :=@List.map_cons
abbrev ec :=@Bool.not_true
abbrev az :=@Prod.mk.injEq
abbrev gI :=@Nat.add_assoc
abbrev bE :=@decide_eq_true
abbrev ir :=@Nat.mul_le_mul
abbrev uq :=@Int.mul_nonneg
abbrev gh :=@List.drop_zero
abbrev fE :=@List.drop_drop
abbrev dS :=@List.mem_range
abbrev kh :=@Bool.not_false
abbrev gJ :=@ne_of_beq_false
abbrev bV :=@decide_eq_false
abbrev ur :=@List.cons.injEq
abbrev jl :=@Nat.not_lt_zero
abbrev mT :=@Int.emod_nonneg
abbrev cj :=@List.find?_cons
abbrev ao :=@List.length_map
abbrev ed :=@List.mem_filter
abbrev qP :=@List.find?_some
abbrev gK :=@Bool.or_eq_true
abbrev iu :=@List.nodup_cons
abbrev bM :=@List.map_append
abbrev dT :=@List.nil_append
abbrev fa :=@List.append_nil
abbrev bn :=@List.mem_append
abbrev fc :=@List.length_set
abbrev cN :=@List.length_nil
abbrev qQ :=@Option.map_none
abbrev cY :=@Option.map_some
abbrev ax :=@Option.some.inj
abbrev jm :=@List.not_mem_nil
abbrev iv :=@List.length_drop
abbrev dm :=@List.cons_append
abbrev oK :=@List.length_take
abbrev qR :=@List.nodup_range
abbrev mU :=@List.any_eq_true
abbrev eN :=@List.mem_flatMap
abbrev gL :=@List.getElem_mem
abbrev mV :=@Nat.mod_eq_of_lt
abbrev gi :=@Option.bind_some
abbrev mW :=@Option.getD_some
abbrev cb :=@Bool.and_eq_true
abbrev aE :=@List.length_cons
abbrev bf :=@List.all_eq_true
abbrev mX :=@Array.toList_inj
abbrev aV :=@of_decide_eq_true
abbrev fF :=@decide_eq_true_eq
abbrev fe :=@List.flatMap_cons
abbrev eO :=@List.take_add_one
abbrev uu :=@List.push_toArray
abbrev bp :=@List.append_assoc
abbrev ki :=@Bool.eq_false_iff
abbrev gM :=@Bool.not_eq_true'
abbrev uv :=@List.nodup_append
abbrev sn :=@List.size_toArray
abbrev iN :=@List.getElem?_set
abbrev bw :=@List.getElem?_map
abbrev uw :=@Int.toNat_natCast
abbrev fu :=@List.ext_getElem?
abbrev ay :=@Option.some.injEq
abbrev bI :=@of_decide_eq_false
abbrev ye :=@BitVec.toNat_ofNat
abbrev DS :=@Nat.lt_of_le_of_lt
abbrev pq :=@Int.emod_lt_of_pos
abbrev lv :=@List.pairwise_cons
abbrev DT :=@Nat.eq_zero_or_pos
abbrev dw :=@List.length_append
abbrev kj :=@Bool.false_eq_true
abbrev DU :=@Array.getElem?_map
abbrev aX :=@List.mem_cons_self
abbrev fv :=@List.getElem?_take
abbrev cJ :=@List.mem_singleton
abbrev jx :=@List.getElem?_drop
abbrev gy :=@Nat.lt_of_lt_of_le
abbrev fY :=@beq_eq_false_iff_ne
abbrev DV :=@List.mem_map_of_mem
abbrev so :=@List.drop_succ_cons
abbrev yf :=@List.append_toArray
abbrev yg :=@List.take_succ_cons
abbrev yh :=@List.filter_eq_self
abbrev yi :=@Bool.or_eq_true_iff
abbrev sq :=@List.map_congr_left
abbrev DW :=@Function.comp_apply
abbrev ux :=@Array.toList_append
abbrev DX :=@List.length_pos_iff
abbrev mr :=@List.getElem?_range
abbrev mu :=@Array.length_toList
abbrev yj :=@BitVec.ofInt_natCast
abbrev uy :=@List.dropLast_subset
abbrev uz :=@List.mem_of_getLast?
abbrev DY :=@Nat.pow_le_pow_right
abbrev DZ :=@List.getElem?_of_mem
abbrev yk :=@Array.replicate_zero
abbrev yl :=@Array.replicate_succ
abbrev D1 :=@Array.toArray_toList
abbrev D2 :=@Bool.or_eq_false_iff
abbrev D3 :=@List.getElem?_modify
abbrev dx :=@Nat.mul_le_mul_right
abbrev bP :=@List.getElem?_set_ne
abbrev aM :=@List.mem_of_getElem?
abbrev uA :=@List.mem_of_mem_drop
abbrev sr :=@List.mem_of_mem_take
abbrev ea :=@List.mem_append_left
abbrev aW :=@List.mem_cons_of_mem
abbrev uB :=@List.take_append_drop
abbrev D4 :=@List.dropLast_eq_take
abbrev ym :=@UInt8.le_iff_toNat_le
abbrev su :=@List.mem_iff_getElem?
abbrev uC :=@List.getElem?_toArray
abbrev yn :=@Array.getElem?_modify
abbrev hQ :=@Array.getElem?_toList
abbrev eE :=@List.getElem?_eq_none
abbrev fw :=@List.mem_append_right
abbrev D5 :=@Array.mem_of_getElem?
abbrev D6 :=@List.drop_eq_nil_of_le
abbrev dH :=@List.take_of_length_le
abbrev sw :=@Array.getElem?_eq_none
abbrev bQ :=@List.getElem?_set_self
abbrev bc :=@Option.map_eq_some_iff
abbrev D7 :=@Array.getElem?_extract
abbrev D8 :=@List.IsPrefix.length_le
abbrev D9 :=@Nat.add_sub_cancel_left
abbrev hX :=@List.length_eq_zero_iff
abbrev Ea :=@List.getElem?_replicate
abbrev yo :=@List.getElem?_cons_zero
abbrev sx :=@List.getElem?_cons_succ
abbrev cQ :=@Option.bind_eq_some_iff
abbrev iO :=@Int.eq_ofNat_of_zero_le
abbrev Eb :=@List.mem_of_mem_eraseIdx
abbrev uD :=@Option.isSome_iff_exists
abbrev bo :=@List.getElem?_eq_getElem
abbrev uE :=@List.drop_eq_getElem_cons
abbrev yq :=@List.getLast?_eq_getElem?
abbrev km :=@List.getLastD_eq_getLast?
abbrev lx :=@List.mem_of_find?_eq_some
abbrev yr :=@List.pairwise_iff_getElem
abbrev ch :=@List.getElem?_append_left
abbrev uF :=@List.mem_or_eq_of_mem_set
abbrev cU :=@Array.getElem?_eq_getElem
abbrev aG :=@List.getElem?_eq_some_iff
abbrev yt :=@Int.fdiv_eq_ediv_of_nonneg
abbrev uG :=@Int.tmod_eq_emod_of_nonneg
abbrev Ec :=@List.isPrefixOf_iff_prefix
abbrev yu :=@Int.tdiv_eq_ediv_of_nonneg
abbrev eH :=@List.getElem?_append_right
abbrev gZ :=@Array.getElem?_eq_some_iff
abbrev bW :=@List.getD_eq_getElem?_getD
abbrev yN :=@List.idxOf_lt_length_of_mem
abbrev JC :=@Array.eraseIdxIfInBounds_eq
abbrev jE :=@Array.getD_eq_getD_getElem?
abbrev yO :=@List.dropLast_concat_getLast
abbrev jF :=@List.getLast?_eq_some_getLast
abbrev JD :=@Int.mul_le_mul_of_nonneg_right
abbrev PJ :=@Array.getElem?_setIfInBounds_self_of_lt
namespace Go.Ac
open Go
inductive PV where
 |bool (b:Bool)
 |int (k:IntKind) (n:Int)
 |str (s:List UInt8)
 |nO (k:FloatKind) (o:Option (Nat×Nat))
 |Ed (k:FloatKind)
 |sl (n:Nat) (ak:List (List PV))
 |nil
 deriving Inhabited
inductive AV where
 |none
 |v (p:PV)
 |agg (cs:List PV)
 |Ee (cs:List AV)
 |own (t ver n:Nat) (ak:List (List PV))
 |j8 (n:Nat) (ak:List (List PV))
 |aB (b off:Nat)
 |jn (b base n len:Nat) (i:Int) (j:Nat)
 |fV (b n:Nat) (i:Int) (j:Nat)
 |kS (cs:List PV)
 |bA (b:Nat)
 |mp (b:Nat)
 |fn (f:Fn) (first cap:List AV)
 |xZ (vs:List AV)
 |xp (o:Option (TypeId×List PV))
 |opt (c:Bool) (j:Nat) (w:Bool) (a:AV)
 deriving Inhabited
inductive Bx where
 |cells (cs:List AV)
 |bk (n:Nat) (ak:List (List PV))
 |uH (n:Nat) (ak:List (List PV))
 |map (t:TypeId) (es:List (PV×AV))
 |dead
 |free
 deriving Inhabited
structure St where
 tmps:List AV
 ae:List (Option Nat)
 heap:List Bx
def UL:Value->Option PV
 |.bool b=>some (.bool b)
 |.int k n=>some (.int k n)
 |.string s=>some (.str s.data.toList)
 |.complex k c a=>some (.nO k (some (c,a)))
 |.slice .none 0 0=>some .nil
 |_=>.none
def Gx:List Value->Option (List PV)
 |[]=>some []
 |v::a=>match UL v,Gx a with
  |some p,some ps=>some (p::ps)
  |_,_=>.none
def mw:Value->AV
 |.agg cs=>match Gx cs.toList with
  |some ps=>.agg ps
  |.none=>.none
 |.nilIface=>.xp .none
 |v=>match UL v with
  |some p=>.v p
  |.none=>.none
def fD(a:List AV):Operand->AV
 |.tmp t=>a.getD t .none
 |.const v=>mw v
 |.func f=>.fn (.func f) [] []
 |.global _=>.none
def AV.pv:AV->Option PV
 |.v p=>some p
 |.own _ _ n ak=>some (.sl n ak)
 |.j8 n ak=>some (.sl n ak)
 |_=>.none
def AV.bits:AV->Option (List PV)
 |.agg cs=>some cs
 |a=>match a.pv with
  |some p=>some [p]
  |.none=>.none
def AV.uI(n:Nat):AV->Option (List (List PV))
 |.v (.sl m ak)=>if m=n then some ak else .none
 |.v .nil=>some []
 |.own _ _ m ak=>if m=n then some ak else .none
 |_=>.none
inductive CT where
 |bool|int (k:IntKind)|str|WG (k:FloatKind)|nO (k:FloatKind)|sl (n:Nat)|other
structure An where
 fz:Bool:=false
 take:Bool:=false
 bD:Bool:=false
 vec:Bool:=false
 uH:Bool:=false
 wrap:Bool:=false
 spec:Bool:=false
 cons:List Nat:=[]
 fn:Nat:=0
 fb:Option (List Nat):=.none
inductive Kd where
 |d
 |row (r:List PV)
 |cell (a:AV)
 |put (cs:List AV)
 |pk (b:Bool)
 |call (r:List AV) (hp:List Bx)
 |look (o:Option AV)
 |UM (o:Option (List PV))
 |conv (l:List UInt8)
 deriving Inhabited
structure Gy where
 f:FuncId
 args:List AV
 heap:List Bx
 r:List AV
 td:List Bx
structure lZ where
 v:AV
 ae:List (Option Nat)
 heap:List Bx
 dI:List Prop:=[]
 calls:List Gy:=[]
structure oo where
 hr:Bool:=false
 hw:Bool:=false
 tk:Bool:=false
 bx:Option (List Nat):=.none
def cV(o:Op)(an:An)(nb:Nat):oo:=
 match o with
 |.load .. => match an.fz with
  |true=>{}
  |false=>{hr:=true,hw:=an.take,tk:=an.take,bx:=an.fb}
 |.alloc _|.makeSlice .. |.makeMap .. => {hw:=true,bx:=some [nb]}
 |.box .. => {hw:=true,tk:=an.take,bx:=some [nb]}
 |.store .. |.mapUpdate .. => {hr:=true,hw:=true,tk:=an.take,bx:=an.fb}
 |.lookup .. => {hr:=true,hw:=an.take,tk:=an.take,bx:=an.fb}
 |.buildSlice .. => {tk:=an.bD,hw:=an.vec,bx:=some [nb]}
 |.slice .. => {hr:=an.vec,hw:=an.vec,bx:=an.fb}
 |.call c=>match c.callee with
  |.builtin .append=>{tk:=true,hr:=an.vec,hw:=an.vec,bx:=an.fb}
  |.builtin .delete=>{hr:=true,hw:=true,bx:=an.fb}
  |.builtin .len=>{hr:=an.vec,bx:=an.fb}
  |.builtin _=>{}
  |_=>{hr :=!an.fz,hw :=!an.fz,tk:=an.bD || !an.cons.isEmpty,bx:=an.fb}
 |.indexAddr .. => {hr:=an.vec,bx:=an.fb}
 |_=>{}
def B9(l:List Nat):Nat->List Bx->List Bx
 |_,[]=>[]
 |b,x::h=>(match l.contains b with|true=>x|false=>.dead)::B9 l (b+1) h
def v8(l:List Nat):Nat->List Bx->List Bx->List Bx
 |_,[],_=>[]
 |b,x::h,a=>(match l.contains b with|true=>a.headD .dead|false=>x)::v8 l (b+1) h a.tail
def oo.view(c:oo)(a:List Bx):List Bx:=
 match c.hr||c.hw with
 |true=>match c.bx with
  |.none=>a
  |some l=>B9 l 0 a
 |false=>[]
def oo.merge(c:oo)(a b:List Bx):List Bx:=
 match c.hw with
 |true=>match c.bx with
  |.none=>b
  |some l=>v8 l 0 a b
 |false=>a
def PL(P:Program)(o:Op)(an:An):Nat:=
 match o with
 |.alloc _|.makeSlice .. |.makeMap .. |.box .. => 1
 |.slice .. |.buildSlice .. => match an.vec with|true=>1|false=>0
 |.call c=>match c.callee with
  |.builtin .append=>match an.vec with|true=>1|false=>0
  |.value (.func g)=>match P.funcs[g]? with
   |some fn=>(fn.resultTypes.toList.filter fun t=>match P.underlying t with
    |some (.slice _)=>an.vec
    |some (.map _ _)|some (.func _ _ _)=>true
    |_=>false).length
   |.none=>0
  |_=>0
 |_=>0
def Gz(op:BinOp)(k:IntKind)(x y:Int):Option Int:=
 let a:=BitVec.ofInt k.bits x
 let b:=BitVec.ofInt k.bits y
 match op with
 |.and=>some (k.wrap (a &&& b).toNat)
 |.or=>some (k.wrap (a ||| b).toNat)
 |.xor=>some (k.wrap (a ^^^ b).toNat)
 |.andNot=>some (k.wrap (a &&& ~~~b).toNat)
 |_=>.none
def PM(op:BinOp)(x y:Int):Option Bool:=
 match op with
 |.eql=>some (x==y)
 |.neq=>some (x !=y)
 |.lss=>some (decide (x<y))
 |.leq=>some (decide (x<=y))
 |.gtr=>some (decide (x>y))
 |.geq=>some (decide (x>=y))
 |_=>.none
def WH(k:IntKind)(n:Int):Prop:=k.min<=n/\n<=k.max
def wa(op:BinOp)(k:IntKind)(x y:Int)(a:Bool):Option (Int×List Prop):=
 let put (n:Int):Option (Int×List Prop):=match a || !k.signed with
  |true=>some (k.wrap n,[])
  |false=>some (n,[WH k n])
 match op with
 |.add=>put (x+y)
 |.sub=>put (x-y)
 |.mul=>put (x*y)
 |.quo=>some (k.wrap (x.tdiv y),[y≠0])
 |.rem=>some (x.tmod y,[y≠0])
 |.shl=>some (k.wrap (x*2^(min y.toNat k.bits)),[0<=y])
 |.shr=>some (x.fdiv (2^(min y.toNat k.bits)),[0<=y])
 |_=>(Gz op k x y).map fun n=>(n,[])
def Yk(op:BinOp)(x y:List UInt8):Option Bool:=
 match op with
 |.eql=>some (x==y)
 |.neq=>some (!(x==y))
 |.lss=>some (Op.bytesLess x y)
 |.leq=>some (Op.bytesLess x y||x==y)
 |.gtr=>some (!(Op.bytesLess x y||x==y))
 |.geq=>some (!(Op.bytesLess x y))
 |_=>.none
def eqC(k:FloatKind):Option (Nat×Nat)->Option (Nat×Nat)->Bool
 |some (a,b),some (c,d)=>Op.floatEq k a c&&Op.floatEq k b d
 |_,_=>false
section
variable (P:Program)
def dn(t:TypeId):Option Bool:=
 match P.underlying t with
 |some (.struct _)|some (.array _ _)=>some true
 |some _=>some false
 |.none=>.none
def cq(t:TypeId):Option Nat:=(P.info? t).map (·.size)
def yP(t:TypeId):Option Nat:=(P.info? t).map (·.bytes)
def qS(t:TypeId):Option AV:=((P.info? t).bind (·.zero)).map mw
def JE:Nat->TypeId->List CT
 |0,_=>[.other]
 |d+1,t=>match P.underlying t with
  |some .bool=>[.bool]
  |some (.int k)=>[.int k]
  |some .string=>[.str]
  |some (.float k)=>[.WG k]
  |some (.complex k)=>[.nO k]
  |some (.slice e)=>match cq P e with
   |some n=>[.sl n]
   |.none=>[.other]
  |some (.struct a)=>a.toList.flatMap fun f=>JE d f.type
  |some (.array len e)=>(List.replicate len (JE d e)).flatten
  |_=>[.other]
def ko(t:TypeId):List CT:=JE P 20 t
def CT.norm:CT->PV->PV
 |.sl n,.nil=>.sl n []
 |_,p=>p
def kT:List CT->List PV->List PV
 |c::cs,p::ps=>c.norm p::kT cs ps
 |_,ps=>ps
def yQ(t:TypeId):AV->AV
 |.v p=>match ko P t with
  |[c]=>.v (c.norm p)
  |_=>.v p
 |.agg ps=>.agg (kT (ko P t) ps)
 |a=>a
def rowOf(t:TypeId)(a:AV):Option (List PV):=(a.bits).map (kT (ko P t))
def eqFields(eq:TypeId->Bool->List PV->List PV->Option (Bool×List Prop))(xs c:List PV):List Field->Bool->Option (Bool×List Prop)
 |[],pre=>some (pre,[])
 |f::d,pre=>
  match f.name == "_" with
  |true=>eqFields eq xs c d pre
  |false=>match cq P f.type with
   |.none=>.none
   |some n=>
    match eq f.type pre ((xs.drop f.offset).take n) ((c.drop f.offset).take n)with
    |.none=>.none
    |some (a,l)=>match eqFields eq xs c d a with
     |some (b,m)=>some (b,l++m)
     |.none=>.none
def my(eq:Bool->List PV->List PV->Option (Bool×List Prop))(n:Nat)(xs c:List PV):Nat->Nat->Bool->Option (Bool×List Prop)
 |0,_,pre=>some (pre,[])
 |k+1,i,pre=>match eq pre ((xs.drop (i*n)).take n) ((c.drop (i*n)).take n)with
  |.none=>.none
  |some (a,l)=>match my eq n xs c k (i+1) a with
   |some (b,m)=>some (b,l++m)
   |.none=>.none
def JF:Nat->TypeId->Bool->List PV->List PV->Option (Bool×List Prop)
 |0,_,_,_,_=>.none
 |d+1,t,pre,xs,c=>
  match P.underlying t,xs,c with
  |some .bool,[.bool a],[.bool b]=>some (pre&&(a==b),[])
  |some (.int _),[.int k a],[.int f b]=>if k=f then some (pre&&(a==b),[])else .none
  |some .string,[.str a],[.str b]=>some (pre&&(a==b),[])
  |some (.complex k),[.nO g a],[.nO i b]=>if k=g/\k=i then some (pre&&eqC k a b,[pre=true->a.isSome=true/\b.isSome=true])else .none
  |some (.struct fields),xs,c=>
   match P.stoodInHeld t with
   |true=>.none
   |false=>eqFields P (JF d) xs c fields.toList pre
  |some (.array len e),xs,c=>match cq P e with
   |some n=>my (JF d e) n xs c len 0 pre
   |.none=>.none
  |_,_,_=>.none
def Ef(t:TypeId):Option (List AV):=((P.info? t).bind (·.zero)).bind fun z=>match z.cells.toList.all Value.oneCell' with
 |true=>some (z.cells.toList.map mw)
 |false=>.none
def NW(n:Nat):List (List PV)->Nat->List PV->Option (List (List PV))
 |[],_,_=>.none
 |_::a,0,x=>if x.length=n then some (x::a)else .none
 |r::a,i+1,x=>(NW n a i x).map (r :: ·)
def putAt{α:Type}:List α->Nat->List α->List α
 |l,_,[]=>l
 |l,off,x::xs=>putAt (l.set off x) (off+1) xs
def lH(e:TypeId)(n:Nat)(ρ:Operand->AV):List (Nat×Operand)->List (List PV)->Option (List (List PV))
 |[],ak=>some ak
 |(i,x)::ps,ak=>match rowOf P e (ρ x)with
  |some r=>match NW n ak i r with
   |some a=>lH e n ρ ps a
   |.none=>.none
  |.none=>.none
def AV.cells:AV->List AV
 |.agg cs=>cs.map .v
 |.Ee cs=>cs
 |a=>[a]
def AV.inner:AV->Bool
 |.v _|.aB _ _|.bA _|.mp _=>true
 |_=>false
def AV.soft:AV->AV
 |.own _ _ n ak=>.v (.sl n ak)
 |a=>a
def jS(place:Nat->Option (Nat×Nat))(ρ:Operand->AV):List (Nat×Operand)->List AV->Option (List AV)
 |[],cs=>some cs
 |(i,x)::ps,cs=>match place i,(ρ x).soft.cells with
  |some (off,a),r=>if r.length=a&&off+a<=cs.length&&r.all AV.inner then jS place ρ ps (putAt cs off r)else .none
  |_,_=>.none
def sy:List AV->Option (List PV)
 |[]=>some []
 |.v p::l=>(sy l).map (p :: ·)
 |_=>.none
def Ca(cs:List AV):AV:=match sy cs with
 |some ps=>.agg ps
 |.none=>.Ee cs
def placesOf(t:TypeId):Option (Nat->Option (Nat×Nat)):=
 match P.underlying t with
 |some (.struct fields)=>match fields.toList.all fun f=>(cq P f.type).isSome with
  |true=>some fun i=>match fields[i]? with
   |some f=>(cq P f.type).map fun n=>(f.offset,n)
   |.none=>.none
  |false=>.none
 |some (.array _ elem)=>(cq P elem).map fun n=>fun i=>some (i*n,n)
 |_=>.none
def bytesOf:List (List PV)->Option (List UInt8)
 |[]=>some []
 |[.int .u8 n]::a=>(bytesOf a).map (UInt8.ofNat n.toNat :: ·)
 |_=>.none
def plain(o:Op)(an:An)(k:Kd)(ρ:Operand->AV):Option (AV×List Prop):=
 match o,k with
 |.move x,_|.assign x,_=>some (ρ x,[])
 |.pick c a b,.pk t=>match ρ c with
  |.v (.bool B)=>some (if t then ρ a else ρ b,[B=t])
  |_=>.none
 |.pick c a b,_=>match ρ c with
  |.v (.bool B)=>match ρ a,ρ b with
   |.v (.bool x),.v (.bool y)=>some (.v (.bool (bif B then x else y)),[])
   |x,y=>match B with
    |true=>some (x,[])
    |false=>some (y,[])
  |_=>.none
 |.build t aT,_=>match Ef P t,placesOf P t with
  |some z,some pl=>(jS pl ρ aT.toList z).map fun cs=>(Ca cs,[])
  |_,_=>.none
 |.buildSlice t len aT,_=>match P.underlying t with
  |some (.slice e)=>match cq P e,(qS P e).bind (rowOf P e)with
   |some n,some z=>if z.length=n&&n≠0&&len*n<=2^24 then(lH P e n ρ aT.toList (List.replicate len z)).map fun ak=>(.v (.sl n ak),[])else .none
   |_,_=>.none
  |_=>.none
 |.load t a,_=>match ρ a with
  |.kS cs=>match dn P t,cq P t with
   |some true,some n=>if n<=cs.length then some (.agg (cs.take n),[])else .none
   |some false,some 1=>match cs with
    |p::_=>some (.v p,[])
    |[]=>.none
   |_,_=>.none
  |_=>.none
 |.nilCheck x,_=>match ρ x with
  |.aB b off=>some (.aB b off,[])
  |.jn b s n l i j=>some (.jn b s n l i j,[])
  |.fV b n i j=>some (.fV b n i j,[])
  |.kS cs=>some (.kS cs,[])
  |_=>.none
 |.binOp op t x y _,_=>match ρ x,ρ y with
  |.v (.int q a),.v (.int w b)=>
   match op with
   |.shl|.shr=>(wa op q a b an.wrap).map fun(n,l)=>(.v (.int q n),l)
   |_=>if q=w then
     match PM op a b with
     |some B=>some (.v (.bool B),[])
     |.none=>(wa op q a b an.wrap).map fun(n,l)=>(.v (.int q n),l)
    else .none
  |.v (.str a),.v (.str b)=>match op with
   |.add=>some (.v (.str (a++b)),[a.length+b.length<=9223372036854775807])
   |_=>(Yk op a b).map fun B=>(.v (.bool B),[])
  |.v (.bool a),.v (.bool b)=>match op,P.underlying t with
   |.eql,some .bool=>some (.v (.bool (a==b)),[])
   |.neq,some .bool=>some (.v (.bool (!(a==b))),[])
   |_,_=>.none
  |.v (.Ed q),.v (.Ed w)=>match op with
   |.add=>if q=w then some (.v (.Ed q),[])else .none
   |_=>.none
  |.agg xs,.agg H=>match P.eqGuardType P.depth t,dn P t with
   |false,some true=>match op,JF P 20 t true xs H with
    |.eql,some (B,l)=>some (.v (.bool B),l)
    |.neq,some (B,l)=>some (.v (.bool (!B)),l)
    |_,_=>.none
   |_,_=>.none
  |.xp o,.xp .none=>match op,P.underlying t,y with
   |.eql,some (.interface _),.const _=>some (.v (.bool o.isNone),[])
   |.neq,some (.interface _),.const _=>some (.v (.bool o.isSome),[])
   |_,_,_=>.none
  |_,_=>.none
 |.unOp op _ x,_=>match op,ρ x with
  |.not,.v (.bool b)=>some (.v (.bool (!b)),[])
  |.neg,.v (.int k n)=>some (.v (.int k (k.wrap (0-n))),[])
  |.xor,.v (.int k n)=>(Gz .xor k (if k.signed then -1 else k.max) n).map fun m=>(.v (.int k m),[])
  |_,_=>.none
 |.convert s d x,k=>match P.underlying s,P.underlying d,ρ x with
  |some (.int _),some (.int k),.v (.int _ n)=>some (.v (.int k (k.wrap n)),[])
  |some (.int _),some (.float k),.v (.int _ _)=>some (.v (.Ed k),[])
  |some (.slice e),some .string,a=>match P.underlying e,a.uI 1 with
   |some (.int .u8),some ak=>match k with
    |.conv l=>some (.v (.str l),[bytesOf ak=some l])
    |_=>(bytesOf ak).map fun l=>(.v (.str l),[])
   |_,_=>.none
  |_,_,_=>.none
 |.makeInterface t x,_=>match P.underlying t with
  |some (.interface _)=>.none
  |some (.struct _)=>match ρ x with
   |.agg cs=>some (.xp (some (t,cs)),[])
   |_=>.none
  |some _=>some (.none,[])
  |_=>.none
 |.typeAssert x _ t ok,.UM o=>match ρ x,P.underlying t,ok with
  |.xp i,some (.struct _),true=>match o,qS P t with
   |some cs,_=>some (.xZ [.agg cs,.v (.bool true)],[i=some (t,cs)])
   |.none,some (.agg z)=>some (.xZ [.agg z,.v (.bool false)],[∀cs,i≠some (t,cs)])
   |_,_=>.none
  |.xp i,some (.struct _),false=>match o with
   |some cs=>some (.agg cs,[i=some (t,cs)])
   |_=>.none
  |_,_,_=>.none
 |.makeFunc f first cap,_=>some (.fn f (first.toList.map ρ) (cap.toList.map ρ),[])
 |.fieldAddr s x f,_=>match P.underlying s with
  |some (.struct fields)=>match fields[f]? with
   |some g=>match cq P g.type with
    |some 0=>.none
    |some _=>match ρ x with
     |.aB b off=>some (.aB b (off+g.offset),[])
     |.jn b s n l i j=>some (.jn b s n l i (j+g.offset),[])
     |.fV b n i j=>some (.fV b n i (j+g.offset),[])
     |.kS cs=>some (.kS (cs.drop g.offset),[])
     |_=>.none
    |.none=>.none
   |.none=>.none
  |_=>.none
 |.field t x f,_=>match P.underlying t,ρ x with
  |some (.struct fields),.agg cs=>match fields[f]? with
   |some g=>part cs g.type g.offset
   |.none=>.none
  |_,_=>.none
 |.indexAddr t x v,k=>match ρ v with
  |.v (.int _ i)=>match P.underlying t,ρ x with
   |some (.array len e),.aB b off=>match cq P e with
    |some n=>some (.jn b off n len i 0,[0<=i/\i<len])
    |.none=>.none
   |some (.array len e),.kS cs=>match cq P e with
    |some n=>some (.kS (cs.drop (i.toNat*n)),[0<=i/\i<len])
    |.none=>.none
   |some (.slice e),a=>match cq P e with
    |some n=>match a.uI n with
     |some ak=>match k with
      |.row r=>match decide (r.length=n)with
       |true=>some (.kS r,[0<=i,ak[i.toNat]?=some r])
       |false=>.none
      |_=>.none
     |.none=>.none
    |.none=>.none
   |_,_=>.none
  |_=>.none
 |.index t x v,k=>match ρ v,P.underlying t,ρ x with
  |.v (.int _ i),some (.array len e),.agg cs=>match dn P e,cq P e,k with
   |some false,some 1,.cell (.v p)=>some (.v p,[0<=i/\i<len,cs[i.toNat]?=some p])
   |_,_,_=>.none
  |.v (.int _ i),some .string,.v (.str s)=>some (.v (.int .u8 (s.getD i.toNat 0).toNat),[0<=i/\i<s.length])
  |_,_,_=>.none
 |.extract x i,_=>match ρ x with
  |.xZ G=>(G[i]?).map fun a=>(a,[])
  |_=>.none
 |.slice t x lo D E,_=>match E,P.underlying t with
  |.none,some (.slice e)=>
   match cq P e with
   |some n=>match(ρ x).uI n with
    |some ak=>match bound (lo.map ρ) 0,bound (D.map ρ) ak.length with
     |some l,some h=>some (.v (.sl n ((ak.take h.toNat).drop l.toNat)),[0<=l/\l<=h/\h<=ak.length])
     |_,_=>.none
    |_=>.none
   |.none=>.none
  |.none,some .string=>
   match ρ x with
   |.v (.str s)=>match bound (lo.map ρ) 0,bound (D.map ρ) s.length with
    |some l,some h=>some (.v (.str ((s.take h.toNat).drop l.toNat)),[0<=l/\l<=h/\h<=s.length])
    |_,_=>.none
   |_=>.none
  |_,_=>.none
 |.call {callee:=.builtin .len,args,argTypes},_=>match args.toList,argTypes.toList with
  |[x],[t]=>match P.underlying t,ρ x with
   |some (.slice e),a=>match cq P e with
    |some n=>(a.uI n).map fun ak=>(.v (.int .i64 ak.length),[])
    |.none=>.none
   |some (.array n _),_=>some (.v (.int .i64 n),[])
   |some .string,.v (.str s)=>some (.v (.int .i64 s.length),[])
   |_,_=>.none
  |_,_=>.none
 |.call {callee:=.builtin .real,args, ..},_|.call {callee:=.builtin .imag,args, ..},_=>match args.toList.map ρ with
  |[.v (.nO k _)]=>some (.v (.Ed k),[])
  |_=>.none
 |.call {callee:=.builtin .complex,args, ..},_=>match args.toList.map ρ with
  |[.v (.Ed k),.v (.Ed u)]=>if k=u then some (.v (.nO k .none),[])else .none
  |_=>.none
 |.call {callee:=.builtin .max,args, ..},_=>match args.toList.map ρ with
  |[.v (.int k a),.v (.int u b)]=>if k=u then some (.v (.int k (if b>a then b else a)),[])else .none
  |_=>.none
 |.call {callee:=.builtin .min,args, ..},_=>match args.toList.map ρ with
  |[.v (.int k a),.v (.int u b)]=>if k=u then some (.v (.int k (if b<a then b else a)),[])else .none
  |_=>.none
 |_,_=>.none
where
 part (cs:List PV) (t:TypeId) (off:Nat):Option (AV×List Prop):=
  match dn P t,cq P t with
  |some true,some n=>if off+n<=cs.length then some (.agg ((cs.drop off).take n),[])else .none
  |some false,some 1=>(cs[off]?).map fun p=>(.v p,[])
  |_,_=>.none
 bound (x:Option AV) (d:Nat):Option Int:=
  match x with
  |.none=>some d
  |some (.v (.int _ i))=>some i
  |_=>.none
end
def AV.nP:AV->List Nat
 |.aB b _|.jn b .. |.fV b .. |.bA b|.mp b=>[b]
 |_=>[]
def AV.refs:AV->List Nat
 |.fn _ first cap=>(first++cap).flatMap AV.nP
 |.Ee cs=>cs.flatMap AV.nP
 |a=>a.nP
def Bx.refs:Bx->List Nat
 |.cells cs=>cs.flatMap AV.refs
 |_=>[]
def reach(c:List Bx):Nat->List Nat->List Nat->List Nat
 |0,_,a=>a
 |_,[],a=>a
 |n+1,b::l,a=>match a.contains b with
  |true=>reach c n l a
  |false=>reach c n ((c.getD b .dead).refs++l) (a++[b])
def AV.uJ(f:Nat->Nat):AV->AV
 |.aB b off=>.aB (f b) off
 |.jn b s n l i j=>.jn (f b) s n l i j
 |.fV b n i j=>.fV (f b) n i j
 |.bA b=>.bA (f b)
 |.mp b=>.mp (f b)
 |a=>a
def AV.dG(f:Nat->Nat):AV->AV
 |.fn g first cap=>.fn g (first.map (AV.uJ f)) (cap.map (AV.uJ f))
 |.Ee cs=>.Ee (cs.map (AV.uJ f))
 |a=>a.uJ f
def Bx.dG(f:Nat->Nat):Bx->Bx
 |.cells cs=>.cells (cs.map (AV.dG f))
 |b=>b
def AV.simple:AV->Bool
 |.none|.v _|.agg _|.aB .. |.bA _|.mp _|.xp _|.j8 .. => true
 |.fn _ first cap=>(first++cap).all fun
  |.v _|.aB .. |.mp _=>true
  |_=>false
 |_=>false
def Bx.alive:Bx->Bool
 |.dead|.free=>false
 |_=>true
def Bx.there:Bx->Bool
 |.free=>false
 |_=>true
def kU:List Nat->Bool
 |[]=>true
 |a::l => !(l.contains a)&&kU l
def Bx.simple:Bx->Bool
 |.cells cs=>cs.all AV.simple
 |_=>true
def AV.qT:AV->Bool
 |.aB .. |.bA _|.mp _|.xp _=>true
 |.fn f first cap=>(AV.fn f first cap).simple
 |_=>false
def kV(c:CT)(a:AV)(ae:List (Option Nat)):Option (AV×List (Option Nat)):=
 match a with
 |.own t b n ak=>match decide (ae[t]?=some (some b))with
  |true=>some (.j8 n ak,ae.set t .none)
  |false=>some (.v (.sl n ak),ae)
 |.v p=>match c with
  |.sl n=>match p with
   |.nil=>some (.j8 n [],ae)
   |p=>some (.v p,ae)
  |_=>some (.v p,ae)
 |a=>match a.qT with
  |true=>some (a,ae)
  |false=>.none
def cellsIn:List CT->List AV->List (Option Nat)->Option (List AV×List (Option Nat))
 |_,[],ae=>some ([],ae)
 |c,a::d,ae=>match kV (c.headD .other) a ae with
  |some (b,ae)=>match cellsIn c.tail d ae with
   |some (e,ae)=>some (b::e,ae)
   |.none=>.none
  |.none=>.none
def AV.view:AV->AV
 |.j8 n ak=>.v (.sl n ak)
 |a=>a
section
variable (P:Program)
def cellsOf(t:TypeId)(a:AV)(ae:List (Option Nat)):Option (List AV×List (Option Nat)):=cellsIn (ko P t) a.cells ae
def varOf(t:TypeId)(cs:List AV)(off:Nat):Option AV:=
 match dn P t,cq P t with
 |some true,some n=>if off+n<=cs.length then(sy (((cs.drop off).take n).map AV.view)).map .agg else .none
 |some false,some 1=>(cs[off]?).map AV.view
 |_,_=>.none
def Eg(t:TypeId)(cs:List AV)(off:Nat)(a:AV)(ae:List (Option Nat)):Option (List AV×List (Option Nat)):=
 match cq P t,cellsOf P t a ae with
 |some n,some (xs,ae)=>if xs.length=n&&off+n<=cs.length then some (putAt cs off xs,ae)else .none
 |_,_=>.none
def setRow(ak:List (List PV))(i j:Nat)(ps:List PV):List (List PV):=ak.modify i fun r=>putAt r j ps
def l0:PV->PV->Bool
 |.int _ a,.int _ b=>a==b
 |.str a,.str b=>a==b
 |_,_=>false
def cE:List (PV×AV)->PV->Option AV
 |[],_=>.none
 |e::a,k=>if l0 k e.1 then some e.2 else cE a k
def cw:List (PV×AV)->PV->AV->List (PV×AV)
 |[],k,a=>[(k,a)]
 |e::b,k,a=>if l0 k e.1 then(k,a)::b else e::cw b k a
def kW:List (PV×AV)->PV->List (PV×AV)
 |[],_=>[]
 |e::a,k=>if l0 k e.1 then a else e::kW a k
def kO(t:TypeId)(p:PV):Bool:=
 match P.underlying t,p with
 |some (.int k),.int a _=>decide (k=a)
 |some .string,.str _=>true
 |_,_=>false
def te(t:TypeId)(a:AV)(ae:List (Option Nat)):Option (AV×List (Option Nat)):=
 match a with
 |.agg ps=>some (.agg (kT (ko P t) ps),ae)
 |a=>match a with
  |.own .. |.v _=>kV ((ko P t).headD .other) a ae
  |_=>.none
def uK(t:Option TypeId)(own:Bool)(f:Nat->Nat)(a:AV)(ae:List (Option Nat))(k:Nat):Option (AV×List (Option Nat)×Nat):=
 match own with
 |true=>match a with
  |.own tk b n ak=>match decide (ae[tk]?=some (some b))with
   |true=>some (.own k 0 n ak,ae.set tk .none,k+1)
   |false=>.none
  |.v .nil=>match t.map (ko P)with
   |some [.sl n]=>some (.own k 0 n [],ae,k+1)
   |_=>.none
  |_=>.none
 |false=>match a with
  |.own _ _ n ak=>some (.v (.sl n ak),ae,k)
  |a=>match a.simple with
   |true=>match t with
    |some t=>some (yQ P t (a.dG f),ae,k)
    |.none=>some (a.dG f,ae,k)
   |false=>.none
def iw(f:Nat->Nat)(cons:List Nat):List TypeId->Nat->List AV->List (Option Nat)->Nat->Option (List AV×List (Option Nat)×Nat)
 |_,_,[],ae,k=>some ([],ae,k)
 |c,i,a::d,ae,k=>match uK P c.head? (cons.contains i) f a ae k with
  |some (b,ae,k)=>match iw f cons c.tail (i+1) d ae k with
   |some (e,ae,k)=>some (b::e,ae,k)
   |.none=>.none
  |.none=>.none
def iP(bD:Bool)(f:Nat->Nat)(n:Nat):List AV->Nat->Option (List AV×List (Option Nat))
 |[],_=>some ([],[])
 |a::c,k=>
  match a with
  |.own j 0 m ak=>
   if bD then if j=k then(iP bD f n c (k+1)).map fun(b,t)=>(.own (n+k) 0 m ak::b,some 0::t)else .none
   else(iP bD f n c k).map fun(b,t)=>(.v (.sl m ak)::b,t)
  |.own .. => .none
  |a=>match a.simple with
   |true=>(iP bD f n c k).map fun(b,t)=>(a.dG f::b,t)
   |false=>.none
def cr(nb:Nat):List Bx->List Bx->Option (List Bx)
 |[],a=>some a
 |x::xs,a=>match a[nb]? with
  |some .free=>cr (nb+1) xs (a.set nb x)
  |_=>.none
def h9(f:Nat->Nat):List Nat->List Bx->List Bx->List Bx
 |b::c,x::xs,a=>h9 f c xs (a.set b (x.dG f))
 |_,_,a=>a
def Eh:List AV->AV
 |[a]=>a
 |l=>.xZ l
def Ei(f:AV):Option (FuncId×List AV×List AV):=
 match f with
 |.fn (.func f) first cap=>some (f,first,cap)
 |_=>.none
def uL(f:FuncId):Bool:=
 match P.funcs[f]? with
 |some fn=>fn.body.isSome && !(fn.name == "runtime.NumGoroutine")
 |.none=>false
def adO(f:FuncId):Bool:=
 match P.funcs[f]? with
 |some fn => !(fn.name == "runtime.NumGoroutine")
 |.none=>false
def PN(f:FuncId):List TypeId:=
 match P.funcs[f]? with
 |some fn=>fn.params.toList
 |.none=>[]
def PO(cons:List Nat)(g:FuncId):List TypeId:=match cons.contains 99 with
 |true=>[]
 |false=>PN P g
def freeze:List AV->List Bx->Option (List AV×List Bx)
 |[],c=>some ([],c)
 |.bA b::d,c=>match c[b]? with
  |some (.bk n ak)|some (.uH n ak)=>(freeze d (c.set b (.uH n ak))).map fun(e,h)=>(.v (.sl n ak)::e,h)
  |_=>.none
 |a::d,c=>(freeze d c).map fun(e,h)=>(a::e,h)
def LQ(an:An)(args:List AV)(a:List Bx):Option (List AV×List Bx):=
 match an.uH with
 |true=>freeze args a
 |false=>some (args,a)
def Ej(nb:Nat)(an:An)(g:FuncId)(args:List AV)(r:List AV)(c:List Bx)(ae:List (Option Nat))(heap:List Bx):Option lZ:=
 let a:=match an.fz with
  |true=>[]
  |false=>reach heap 100 (args.flatMap AV.refs) []
 let d:=a.map fun b=>heap.getD b .dead
 let f:=fun b=>a.idxOf b
 let back:=fun j=>match decide (j<a.length)with
  |true=>a.getD j 0
  |false=>nb+(j-a.length)
 match adO P g&&kU a&&(d.flatMap Bx.refs).all a.contains&&d.all Bx.simple&&d.all Bx.alive&&c.all Bx.simple&&c.all Bx.there&&decide (a.length<=c.length)&&(args.flatMap AV.refs).all a.contains&&(c.flatMap Bx.refs).all (decide <| · < c.length)&&(r.flatMap AV.refs).all (decide <| · < c.length),
  iw P f an.cons (PO P an.cons g) 0 args ae 0 with
 |true,some (e,gN,_)=>
  match iP an.bD back gN.length r 0,cr nb ((c.drop a.length).map (Bx.dG back)) (h9 back a c heap)with
  |some (k,new),some i=>some {v:=Eh k,ae:=gN++new,heap:=i,calls:=[{f:=g,args:=e,heap:=d.map (Bx.dG f),r,td:=c}]}
  |_,_=>.none
 |_,_=>.none
def qU(nb:Nat)(an:An)(g:FuncId)(c:List AV)(r:List AV)(a:List Bx)(ae:List (Option Nat))(d:List Bx):Option lZ:=
 match LQ an c d with
 |some (args,b)=>Ej P nb an g args r a ae b
 |.none=>.none
def yR(nb:Nat)(e:Bool)(s:AV)(n c:Nat)(a:List (List PV))(ae:List (Option Nat))(heap:List Bx):Option lZ:=
 match s with
 |.v .nil=>match e with
  |true=>(cr nb [.bk n a] heap).map fun h=>{v:=.bA nb,ae,heap:=h,dI:=[a.length*c<=2^47]}
  |false=>some {v:=.own ae.length 0 n a,ae:=ae++[some 0],heap,dI:=[a.length*c<=2^47]}
 |.own t d m ak=>match decide (m=n),decide (ae[t]?=some (some d))with
  |true,true=>some {v:=.own t (d+1) n (ak++a),ae:=ae.set t (some (d+1)),heap,dI:=[(ak++a).length*c<=2^47]}
  |_,_=>.none
 |.bA b=>match heap[b]? with
  |some (.bk m ak)=>match decide (m=n)with
   |true=>(cr nb [.bk n (ak++a)] (heap.set b .dead)).map fun h=>{v:=.bA nb,ae,heap:=h,dI:=[(ak++a).length*c<=2^47]}
   |false=>.none
  |_=>.none
 |_=>.none
def core(nb:Nat)(o:Op)(an:An)(k:Kd)(ρ:Operand->AV)(ae:List (Option Nat))(heap:List Bx):Option lZ:=
 match o with
 |.alloc t=>match(Ef P t).bind (fun z=>cellsIn (ko P t) z ae),cq P t with
  |some (cs,bz),some n=>match decide (cs.length=n)with
   |true=>(cr nb [.cells cs] heap).map fun h=>{v:=.aB nb 0,ae:=bz,heap:=h}
   |false=>.none
  |_,_=>.none
 |.box t x=>match cellsOf P t (ρ x) ae,cq P t with
  |some (cs,bz),some n=>match decide (cs.length=n)with
   |true=>(cr nb [.cells cs] heap).map fun h=>{v:=.aB nb 0,ae:=bz,heap:=h}
   |false=>.none
  |_,_=>.none
 |.makeSlice t l c=>match P.underlying t with
  |some (.slice e)=>match cq P e,yP P e,(qS P e).bind (rowOf P e),ρ l,ρ c with
   |some n,some w,some z,.v (.int _ m),.v (.int _ K)=>match decide (z.length=n/\0<n/\0<w)with
    |true=>(cr nb [.bk n (List.replicate m.toNat z)] heap).map fun h=>{v:=.bA nb,ae,heap:=h,dI:=[K=m,0<=m,m*w<=2^47]}
    |false=>.none
   |_,_,_,_,_=>.none
  |_=>.none
 |.makeMap t .none=>match P.underlying t with
  |some (.map _ _)=>(cr nb [.map t []] heap).map fun h=>{v:=.mp nb,ae,heap:=h}
  |_=>.none
 |.lookup t m i ok=>match ρ m,(ρ i).pv,P.underlying t,k with
  |.mp b,some key,some (.map u D),.look o=>match heap[b]?,qS P D,kO P u key with
   |some (.map d q),some z,true=>match decide (d=t)with
    |true=>
     let y (a:AV) (B:Bool) (ae:List (Option Nat)) (heap:List Bx):Option lZ:=some {v:=match ok with|true=>.xZ [a,.v (.bool B)]|false=>a,ae,heap,dI:=[cE q key=o]}
     match o with
     |some (.j8 n ak)=>match an.take with
      |true=>y (.own ae.length 0 n ak) true (ae++[some 0]) (heap.set b (.map t (cw q key (.v (.sl n ak)))))
      |false=>y (.v (.sl n ak)) true ae heap
     |some a=>match an.take with
      |true=>.none
      |false=>y a true ae heap
     |.none=>y z false ae heap
    |false=>.none
   |_,_,_=>.none
  |_,_,_,_=>.none
 |.mapUpdate t m i x=>match ρ m,(ρ i).pv,P.underlying t with
  |.mp b,some key,some (.map u D)=>match heap[b]?,te P D (ρ x) ae,kO P u key with
   |some (.map d q),some (a,bz),true=>match decide (d=t)with
    |true=>some {v:=.none,ae:=bz,heap:=heap.set b (.map t (cw q key a))}
    |false=>.none
   |_,_,_=>.none
  |_,_,_=>.none
 |.call {callee:=.builtin .delete,args,argTypes}=>match args.toList.map ρ,argTypes.toList with
  |[.mp b,i],t::_=>match heap[b]?,i.pv,P.underlying t with
   |some (.map d q),some key,some (.map u _)=>match decide (d=t),kO P u key with
    |true,true=>some {v:=.none,ae,heap:=heap.set b (.map t (kW q key))}
    |_,_=>.none
   |_,_,_=>.none
  |_,_=>.none
 |.store t a x=>match ρ a with
  |.aB b off=>match heap[b]? with
   |some (.cells cs)=>(Eg P t cs off (ρ x) ae).map fun(cs,ae)=>{v:=.none,ae,heap:=heap.set b (.cells cs)}
   |_=>.none
  |.jn b s n l i j=>match heap[b]?,k with
   |some (.cells cs),.put J=>match dn P t,cq P t,ρ x with
    |some false,some 1,.v p=>match decide (s+l*n<=cs.length),p with
     |true,.nil=>.none
     |true,p=>some {v:=.none,ae,heap:=heap.set b (.cells J),dI:=[j<n,putAt cs (s+i.toNat*n+j) [.v p]=J]}
     |_,_=>.none
    |_,_,_=>.none
   |_,_=>.none
  |.fV b n i j=>match heap[b]?,cq P t,rowOf P t (ρ x)with
   |some (.bk m ak),some c,some ps=>match decide (m=n/\ps.length=c)with
    |true=>some {v:=.none,ae,heap:=heap.set b (.bk n (setRow ak i.toNat j ps)),dI:=[j+c<=n]}
    |false=>.none
   |_,_,_=>.none
  |_=>.none
 |.load t a=>match an.fz,ρ a with
  |false,.aB b off=>match heap[b]? with
   |some (.cells cs)=>match an.take,cs[off]?,dn P t with
    |true,some (.j8 n ak),some false=>some {v:=.own ae.length 0 n ak,ae:=ae++[some 0],heap:=heap.set b (.cells (cs.set off (.v (.sl n ak))))}
    |_,_,_=>(varOf P t cs off).map fun v=>{v,ae,heap}
   |_=>.none
  |false,.jn b s n l i j=>match heap[b]?,dn P t,cq P t,k with
   |some (.cells cs),some false,some 1,.cell (.v p)=>match decide (s+l*n<=cs.length)with
    |true=>some {v:=.v p,ae,heap,dI:=[cs[s+i.toNat*n+j]?=some (.v p)]}
    |false=>.none
   |_,_,_,_=>.none
  |false,.fV b n i j=>match heap[b]?,dn P t,cq P t,k with
   |some (.bk m ak),some true,some c,.row r|some (.uH m ak),some true,some c,.row r=>match decide (m=n/\j+c<=n/\r.length=n)with
    |true=>some {v:=.agg ((r.drop j).take c),ae,heap,dI:=[ak[i.toNat]?=some r]}
    |false=>.none
   |some (.bk m ak),some false,some 1,.cell (.v p)|some (.uH m ak),some false,some 1,.cell (.v p)=>match decide (m=n)with
    |true=>some {v:=.v p,ae,heap,dI:=[(ak[i.toNat]?).bind (·[j]?)=some p]}
    |false=>.none
   |_,_,_,_=>.none
  |_,_=>(plain P (.load t a) an k ρ).map fun(v,l)=>{v,ae,heap,dI:=l}
 |.indexAddr t x G=>match ρ x with
  |.bA b=>match heap[b]?,ρ G with
   |some (.bk n ak),.v (.int _ i)|some (.uH n ak),.v (.int _ i)=>match P.underlying t with
    |some (.slice e)=>match decide (cq P e=some n)with
     |true=>some {v:=.fV b n i 0,ae,heap,dI:=[0<=i/\i<ak.length]}
     |false=>.none
    |_=>.none
   |_,_=>.none
  |.fV b n i j=>match ρ G,P.underlying t with
   |.v (.int _ m),some (.array len e)=>match cq P e with
    |some c=>some {v:=.fV b n i (j+m.toNat*c),ae,heap,dI:=[0<=m/\m<len]}
    |.none=>.none
   |_,_=>.none
  |_=>(plain P (.indexAddr t x G) an k ρ).map fun(v,l)=>{v,ae,heap,dI:=l}
 |.slice t x lo H I=>match ρ x with
  |.bA b=>match heap[b]?,lo,H.map ρ,I with
   |some (.bk n ak),.none,some (.v (.int _ h)),.none=>match P.underlying t with
    |some (.slice e)=>match cq P e with
     |some _=>(cr nb [.bk n (ak.take h.toNat)] (heap.set b .dead)).map fun E=>{v:=.bA nb,ae,heap:=E,dI:=[0<=h/\h<=ak.length]}
     |.none=>.none
    |_=>.none
   |_,_,_,_=>.none
  |_=>(plain P (.slice t x lo H I) an k ρ).map fun(v,l)=>{v,ae,heap,dI:=l}
 |.buildSlice t len aT=>match an.vec,an.bD,plain P (.buildSlice t len aT) an k ρ with
  |true,_,some (.v (.sl n ak),l)=>(cr nb [.bk n ak] heap).map fun h=>{v:=.bA nb,ae,heap:=h,dI:=l}
  |false,true,some (.v (.sl n ak),l)=>some {v:=.own ae.length 0 n ak,ae:=ae++[some 0],heap,dI:=l}
  |false,false,some (v,l)=>some {v,ae,heap,dI:=l}
  |_,_,_=>.none
 |.call {callee:=.builtin .append,args,argTypes}=>match args.toList,argTypes.toList with
  |[s,x],[t,d]=>match P.underlying t,P.underlying d with
   |some (.slice e),some (.slice _)=>match cq P e,yP P e,(qS P e).bind (rowOf P e)with
    |some n,some w,some z=>match decide (z.length=n/\0<n/\0<w),(ρ x).uI n with
     |true,some M=>yR nb an.vec (ρ s) n w M ae heap
     |_,_=>.none
    |_,_,_=>.none
   |_,_=>.none
  |_,_=>.none
 |.call {callee:=.builtin .len,args,argTypes}=>match args.toList.map ρ,argTypes.toList with
  |[.bA b],[t]=>match heap[b]?,P.underlying t with
   |some (.bk _ ak),some (.slice _)|some (.uH _ ak),some (.slice _)=>some {v:=.v (.int .i64 ak.length),ae,heap}
   |_,_=>.none
  |_,_=>(plain P (.call {callee:=.builtin .len,args,argTypes}) an k ρ).map fun(v,l)=>{v,ae,heap,dI:=l}
 |.call {callee:=.value f,args, ..}=>match Ei (ρ f),k with
  |some (g,first,cap),.call r E=>qU P nb an g (first++args.toList.map ρ++cap) r E ae heap
  |_,_=>.none
 |o=>(plain P o an k ρ).map fun(v,l)=>{v,ae,heap,dI:=l}
def UE(nb:Nat)(o:Op)(an:An)(k:Kd)(ρ:Operand->AV)(ae:List (Option Nat))(heap:List Bx):Option lZ:=
 let c:=cV o an nb
 match core P nb o an k ρ (if c.tk then ae else[]) (c.view heap)with
 |some r=>some {r with ae:=if c.tk then r.ae else ae,heap:=c.merge heap r.heap}
 |.none=>.none
def St.put(s:St)(d:Option Tmp)(v:AV):List AV:=
 match d with
 |some d=>s.tmps.set d v
 |.none=>s.tmps
structure Step where
 st:St
 dI:List Prop:=[]
 calls:List Gy:=[]
def AV.strip:AV->AV
 |.opt _ _ _ a=>a
 |a=>a
def AV.conds:AV->List (Bool×Nat×Bool)
 |.opt c j w _=>[(c,j,w)]
 |_=>[]
def guardOf(ops:List Oper)(s:St)(j:Nat)(want:Bool):Option Bool:=
 match(ops[j]?).bind (·.dst)with
 |some t=>match s.tmps.getD t .none,want with
  |.v (.bool b),true=>some b
  |.v (.bool b),false=>some (!b)
  |.opt c _ _ (.v (.bool b)),true=>some (c&&b)
  |.opt c _ _ (.v (.bool b)),false=>some (c && !b)
  |_,_=>.none
 |.none=>.none
def iY(d:List AV)(o:Op):List ((Bool×Nat×Bool)×Option (Bool×Bool)):=
 match o with
 |.pick c a b=>
  (fD d c).conds.map (fun D=>(D,.none)) ++
  match(fD d c).strip with
  |.v (.bool B)=>(fD d a).conds.map (fun D=>(D,some (true,B)))++(fD d b).conds.map (fun D=>(D,some (false,!B)))
  |_=>[]
 |o=>o.operands.toList.flatMap fun x=>(fD d x).conds.map (fun D=>(D,.none))
inductive Gd where
 |yes|no
 |spec
 deriving Inhabited
structure En where
 g:Gd:=.yes
 k:Kd:=.d
 deriving Inhabited
def AV.JG:AV->Bool
 |.opt .. => false
 |_=>true
def qG(nb:Nat)(o:Oper)(an:An)(k:Kd)(G:Option (Bool×Nat×Bool))(s:St):Option Step:=
 match UE P nb o.op an k (fun x=>(fD s.tmps x).strip) s.ae s.heap with
 |some r=>match G with
  |.none=>match r.v.JG with
   |true=>some {st:={tmps:=s.put o.dst r.v,ae:=r.ae,heap:=r.heap},dI:=r.dI,calls:=r.calls}
   |false=>.none
  |some (g,j,w)=>match(cV o.op an nb).hw||(cV o.op an nb).tk || !r.calls.isEmpty || !r.dI.isEmpty with
   |true=>.none
   |false=>some {st:={tmps:=s.put o.dst (.opt g j w r.v),ae:=r.ae,heap:=r.heap}}
 |.none=>.none
def jG(o:Oper)(s:St):Step:={st:={s with tmps:=s.put o.dst (match o.guard with|some (j,w)=>.opt false j w .none|.none=>.none)}}
end
end Go.Ac
end
section
namespace Go.Ac
open Go
set_option maxRecDepth 100000
def jy(ops:List Oper)(o:Oper):List Tmp:=
 (o.op.operands.toList.filterMap fun|.tmp t=>some t|_=>.none) ++
 (match o.guard with
  |some (g,_)=>((ops[g]?).bind (·.dst)).toList
  |.none=>[])
def JH(ops:List Oper)(x y:Oper):Bool:=
 (match x.dst with
  |some d => !(jy ops y).contains d&&y.dst !=some d
  |.none=>true) &&
 (match y.dst with
  |some d => !(jy ops x).contains d
  |.none=>true)
def meets(a b:Option (List Nat)):Bool:=
 match a,b with
 |some l,some m=>l.any m.contains
 |_,_=>true
def oo.fits(a b:oo):Bool :=!((a.hw&&(b.hr||b.hw)||b.hw&&a.hr)&&meets a.bx b.bx) && !(a.tk&&b.tk)
def kp:List Oper->List Nat->List Nat
 |[],a=>a
 |o::os,a=>kp os (a++[o.after.toList.foldl (fun s e=>if Region.binds .any e then s ||| 2^e.on ||| a.getD e.on 0 else s) 0])
def LR(ops:List Oper)(an:Nat->An)(nb:Nat->Nat)(j i:Nat):Bool:=
 match ops[j]?,ops[i]? with
 |some x,some y=>JH ops x y&&(cV x.op (an j) (nb j)).fits (cV y.op (an i) (nb i))
 |_,_=>false
def LS(ops:List Oper)(an:Nat->An)(nb:Nat->Nat)(ms:List Nat)(j i:Nat):Bool:=(ms.getD i 0).testBit j||LR ops an nb j i
def JI(ops:List Oper):Bool:=
 Region.noSelect ops.toArray&&(List.range ops.length).all fun i=>
  match ops[i]? with
  |some o=>o.after.toList.all fun e => !(Region.binds .any e)||decide (e.on<i)
  |.none=>false
def JJ(ops:List Oper)(an:Nat->An)(nb:Nat->Nat)(ms:List Nat):Bool:=
 (List.range ops.length).all fun i=>(List.range i).all fun j=>LS ops an nb ms j i
def jd(ops:List Oper)(a:List Nat)(i:Nat):Bool:=
 match ops[i]? with
 |some o=>o.after.toList.all fun e => !(Region.binds .any e) || !a.contains e.on
 |.none=>false
def Yl(ops:List Oper)(an:Nat->An)(nb:Nat->Nat)(ms:List Nat)(a:List Nat):Option Nat:=
 a.find? fun i=>jd ops a i&&a.all fun j=>j==i||(ms.getD j 0).testBit i||LR ops an nb j i
def oL:List CT->(List PV->Prop)->Prop
 |[],k=>k []
 |.bool::l,k=>∃b:Bool,oL l fun ps=>k (.bool b::ps)
 |.int a::l,k=>∃n:Int,oL l fun ps=>k (.int a n::ps)
 |.str::l,k=>∃s:List UInt8,oL l fun ps=>k (.str s::ps)
 |.sl n::l,k=>∃ak:List (List PV),oL l fun ps=>k (.sl n ak::ps)
 |.nO a::l,k=>∃o:Option (Nat×Nat),oL l fun ps=>k (.nO a o::ps)
 |_::l,k=>∃p:PV,oL l fun ps=>k (p::ps)
section
variable (P:Program)
def qV(an:An)(a:Nat):List TypeId->Nat->List Bx->(List AV->List Bx->Prop)->Prop
 |[],_,bx,k=>k [] bx
 |t::b,j,bx,k=>match P.underlying t,ko P t with
  |some (.struct _),c|some (.array _ _),c=>oL c fun ps=>qV an a b j bx fun r bx=>k (.agg ps::r) bx
  |some (.interface _),_=>∃o:Option (TypeId×List PV),qV an a b j bx fun r bx=>k (.xp o::r) bx
  |some (.slice _),[.sl n]=>match an.vec,an.bD with
   |true,_=>∃ak:List (List PV),qV an a b j (bx++[.bk n ak]) fun r uM=>k (.bA (a+bx.length)::r) uM
   |_,true=>∃ak:List (List PV),qV an a b (j+1) bx fun r bx=>k (.own j 0 n ak::r) bx
   |_,_=>∃ak:List (List PV),qV an a b j bx fun r bx=>k (.v (.sl n ak)::r) bx
  |some (.map _ _),_=>∃d:List (PV×AV),qV an a b j (bx++[.map t d]) fun r uM=>k (.mp (a+bx.length)::r) uM
  |some (.func _ _ _),_=>qV an a b j (bx++[.cells [.mp 0]]) fun r uM=>k (.fn (.func an.fn) [] [.aB (a+bx.length) 0]::r) uM
  |_,c=>oL c fun ps=>match ps with
   |[p]=>qV an a b j bx fun r bx=>k (.v p::r) bx
   |_=>False
def Ek:AV->(AV->Prop)->Prop
 |.v (.bool _),k=>∃b:Bool,k (.v (.bool b))
 |.v (.int c _),k=>∃n:Int,k (.v (.int c n))
 |.v (.str _),k=>∃s:List UInt8,k (.v (.str s))
 |.v (.sl n _),k=>∃ak:List (List PV),k (.v (.sl n ak))
 |.v (.nO c _),k=>∃o:Option (Nat×Nat),k (.v (.nO c o))
 |.v _,k=>∃p:PV,k (.v p)
 |.j8 n _,k=>∃ak:List (List PV),k (.j8 n ak)
 |.xp _,k=>∃o,k (.xp o)
 |a,k=>k a
def pt(c:Bool)(idx:List Nat):Nat->List AV->(List AV->Prop)->Prop
 |_,[],k=>k []
 |i,a::l,k=>match c||idx.contains i with
  |true=>Ek a fun b=>pt c idx (i+1) l fun m=>k (b::m)
  |false=>match idx.contains (i+1000)with
   |true=>Ek a.view fun b=>pt c idx (i+1) l fun m=>k (b::m)
   |false=>pt c idx (i+1) l fun m=>k (a::m)
def Ym(idx:List Nat):Bx->(Bx->Prop)->Prop
 |.cells cs,k=>pt idx.isEmpty idx 0 cs fun c=>k (.cells c)
 |.bk n _,k=>match idx with
  |[]=>∃ak:List (List PV),k (.bk n ak)
  |_=>k .dead
 |.map t _,k=>∃a:List (PV×AV),k (.map t a)
 |b,k=>k b
def PQ(a:List (Nat×List Nat)):Nat->List Bx->(List Bx->Prop)->Prop
 |_,[],k=>k []
 |i,b::l,k=>match a.lookup i with
  |some idx=>Ym idx b fun x=>PQ a (i+1) l fun m=>k (x::m)
  |.none=>PQ a (i+1) l fun m=>k (b::m)
def PR(t:TypeId)(k:AV->Prop):Prop:=
 match dn P t,ko P t with
 |some true,a=>oL a fun ps=>k (.agg ps)
 |_,[.sl n]=>∃ak:List (List PV),k (.j8 n ak)
 |_,a=>oL a fun ps=>match ps with
  |[p]=>k (.v p)
  |_=>False
def Yn(o:Op)(an:An)(q:List (Nat×List Nat))(ρ:Operand->AV)(i:List Bx)(k:Kd->Prop):Prop:=
 match o with
 |.load t a=>match ρ a,dn P t with
  |.jn ..,_=>oL (ko P t) fun ps=>match ps with|[p]=>k (.cell (.v p))|_=>False
  |.fV ..,some true=>oL (ko P t) fun ps=>k (.row ps)
  |.fV ..,_=>oL (ko P t) fun ps=>match ps with|[p]=>k (.cell (.v p))|_=>False
  |_,_=>k .d
 |.store _ a _=>match ρ a with
  |.jn b s n l _ _=>match i[b]? with
   |some (.cells cs)=>pt false ((List.range (l*n)).map (s + ·)) 0 cs fun m=>k (.put m)
   |_=>False
  |_=>k .d
 |.indexAddr t x _=>match P.underlying t,ρ x with
  |some (.slice _),.bA _=>k .d
  |some (.slice e),_=>oL (ko P e) fun ps=>k (.row ps)
  |_,_=>k .d
 |.index t _ _=>match P.underlying t with
  |some (.array _ e)=>oL (ko P e) fun ps=>match ps with|[p]=>k (.cell (.v p))|_=>False
  |_=>k .d
 |.lookup t _ _ _=>match P.underlying t with
  |some (.map _ e)=>k (.look .none)\/PR P e fun a=>k (.look (some a))
  |_=>False
 |.typeAssert _ _ t ok=>match ok with
  |true=>k (.UM .none)\/oL (ko P t) fun ps=>k (.UM (some ps))
  |false=>oL (ko P t) fun ps=>k (.UM (some ps))
 |.call {callee:=.value f,args, ..}=>match Ei (ρ f)with
  |some (g,first,cap)=>
   let c:=first++args.toList.map ρ++cap
   let c:=match an.uH with
    |true=>c.filter fun(a:AV)=>match a with|.bA _=>false|_=>true
    |false=>c
   let d:=match an.fz with
    |true=>[]
    |false=>reach i 100 (c.flatMap AV.refs) []
   qV P an d.length ((match P.funcs[g]? with|some fn=>fn.resultTypes.toList|.none=>[])) 0 [] fun r bx=>
    PQ q 0 (d.map fun b=>(i.getD b .dead).dG fun b=>d.idxOf b) fun j=>k (.call r (j++bx))
  |.none=>False
 |_=>k .d
variable (E:FuncId->List AV->List Bx->List AV->List Bx->Prop)
def aw(b:Bool)(x y:Prop):Prop:=
 match b with
 |true=>x
 |false=>y
def JK:List Prop->Prop->Prop
 |[],k=>k
 |p::l,k=>p/\JK l k
def yS:List Gy->Prop->Prop
 |[],k=>k
 |c::l,k=>E c.f c.args c.heap c.r c.td/\yS l k
abbrev Env:=List (Nat×Bool)
def WI(ops:List Oper):Nat->Option (Nat×Bool)->Nat×Bool->Bool
 |0,_,_=>false
 |_,.none,_=>false
 |n+1,some g,d=>g==d||WI ops n ((ops[g.1]?).bind (·.guard)) d
def covered(ops:List Oper)(a:Env)(o:Oper)(D:Bool×Nat×Bool)(x:Option (Bool×Bool)):Bool:=
 a.contains (D.2.1,D.2.2)||WI ops 20 o.guard (D.2.1,D.2.2) ||
 match o.op,x with
 |.pick (.tmp c) _ _,some (b,_)=>match ops[D.2.1]? with
  |some x=>x.dst==some c&&D.2.2==b
  |.none=>false
 |_,_=>false
def oM(ops:List Oper)(a:Env)(o:Oper):List ((Bool×Nat×Bool)×Option (Bool×Bool))->Prop->Prop
 |[],k=>k
 |(D,x)::l,k=>match covered ops a o D x with
  |true=>oM ops a o l k
  |false=>(match x with|.none=>D.1=true|some B=>B.2=true->D.1=true)/\oM ops a o l k
structure Cut where
 bl:List Nat:=[]
 cW:List (Nat×Nat):=[]
 owns:List Nat:=[]
 iQ:List (Nat×Nat):=[]
 wc:List (Nat×Nat):=[]
structure s9 where
 an:Nat->Nat->An:=fun _ _=>{}
 mod:Nat->Nat->List (Nat×List Nat):=fun _ _=>[]
 rf:Bool:=false
 join:Nat->Option Cut:=fun _=>.none
def NX(nb:Nat->Nat)(ops:List Oper)(A:s9)(id:Nat)(i:Nat)(o:Oper)(g:Option (Bool×Nat×Bool))(s:St)(a:Env)(k:St->Env->Prop):Prop:=
 oM ops a o (iY s.tmps o.op)
  (Yn P o.op (A.an id i) (A.mod id i) (fun x=>(fD s.tmps x).strip) s.heap fun b=>
   match qG P (nb i) o (A.an id i) b g s with
   |some x=>JK x.dI (yS E x.calls (k x.st a))
   |.none=>False)
def we(ops:List Oper)(a:Env)(c:Operand):Option Bool:=
 match c with
 |.tmp t=>match a.find? fun x=>((ops[x.1]?).bind (·.dst))==some t with
  |some x=>some x.2
  |.none=>.none
 |_=>.none
def isB:AV->Bool
 |.v (.bool _)=>true
 |_=>false
def WJ(t:Option Tmp)(b:List AV):Bool:=
 match t with
 |some t=>match b.getD t .none with
  |.opt c _ _ a=>match a with
   |.none => !c
   |_=>false
  |_=>false
 |.none=>false
def wg(nb:Nat->Nat)(ops:List Oper)(A:s9)(id:Nat)(i:Nat)(o:Oper)(x:Operand)(t:Bool)(s:St)(a:Env)(k:St->Env->Prop):Prop:=
 oM ops a o ((fD s.tmps x).conds.map fun D=>(D,.none)) (match qG P (nb i) o (A.an id i) (.pk t) .none s with
  |some x=>k x.st a
  |.none=>False)
def yT(nb:Nat->Nat)(ops:List Oper)(A:s9)(id:Nat)(i:Nat)(o:Oper)(s:St)(d:Env)(k:St->Env->Prop):Prop:=
 match o.op with
 |.pick c a b=>
  match we ops d c with
  |some true=>wg P nb ops A id i o a true s d k
  |some false=>wg P nb ops A id i o b false s d k
  |.none=>match isB (fD s.tmps a).strip&&isB (fD s.tmps b).strip with
   |true=>NX P E nb ops A id i o .none s d k
   |false=>match fD s.tmps c with
    |.v (.bool B)=>aw B (wg P nb ops A id i o a true s d k) (wg P nb ops A id i o b false s d k)
    |_=>False
 |_=>NX P E nb ops A id i o .none s d k
def wpOp(nb:Nat->Nat)(ops:List Oper)(A:s9)(id:Nat)(i:Nat)(s:St)(d:Env)(k:St->Env->Prop):Prop:=
 match ops[i]? with
 |.none=>False
 |some o=>
  match o.guard with
  |.none=>yT P E nb ops A id i o s d k
  |some (j,w)=>match d.lookup j with
   |some b=>match b==w with
    |true=>yT P E nb ops A id i o s d k
    |false=>k (jG o s).st d
   |.none=>match(A.an id i).spec with
    |true=>match WJ ((ops[j]?).bind (·.dst)) s.tmps with
     |true=>k (jG o s).st d
     |false=>match guardOf ops s j w with
      |some G=>NX P E nb ops A id i o (some (G,j,w)) s d k
      |.none=>False
    |false=>match(ops[j]?).bind (·.dst)with
     |some t=>match s.tmps.getD t .none with
      |.v (.bool B)=>match w with
       |true=>aw B (yT P E nb ops A id i o s ((j,true)::d) k) (k (jG o s).st ((j,false)::d))
       |false=>aw B (k (jG o s).st ((j,true)::d)) (yT P E nb ops A id i o s ((j,false)::d) k)
      |.opt c _ _ a=>match a with
       |.none=>match c with
        |false=>k (jG o s).st d
        |true=>False
       |_=>False
      |_=>False
     |.none=>False
def GA(nb:Nat->Nat)(ops:List Oper)(A:s9)(id:Nat):List Nat->St->Env->(St->Prop)->Prop
 |[],s,_,k=>k s
 |i::l,s,a,k=>wpOp P E nb ops A id i s a fun s a=>GA nb ops A id l s a k
def El:List Nat->(Nat->Prop)->Prop
 |[],_=>True
 |[i],k=>k i
 |i::l,k=>k i/\El l k
def wh(nb:Nat->Nat)(ops:List Oper)(A:s9)(id:Nat)(ms:List Nat):Nat->List Nat->St->Env->(St->Prop)->Prop
 |0,_,_,_,_=>False
 |_,[],s,_,k=>k s
 |n+1,b,s,a,k=>match Yl ops (A.an id) nb ms b with
  |some i=>wpOp P E nb ops A id i s a fun s a=>wh nb ops A id ms n (b.filter (· != i)) s a k
  |.none=>El (b.filter (jd ops b)) fun i=>wpOp P E nb ops A id i s a fun s a=>wh nb ops A id ms n (b.filter (· != i)) s a k
def Yo(ops:List Oper):Bool:=
 kU (ops.filterMap (·.dst))&&(List.range ops.length).all fun i=>
  match(ops[i]?).bind (·.guard)with
  |some (j,_)=>decide (j<i)&&(match ops[i]? with|some o=>o.after.toList.any fun e=>Region.binds .any e&&e.on==j|.none=>false)
  |.none=>true
def pw:AV->AV
 |.opt .. => .none
 |a=>a
def slotsOf(an:Nat->An):List Oper->Nat->Nat->List Nat
 |[],_,_=>[]
 |o::os,i,b=>b::slotsOf an os (i+1) (b+PL P o.op (an i))
def LU(an:Nat->An):List Oper->Nat->Nat
 |[],_=>0
 |o::os,i=>PL P o.op (an i)+LU an os (i+1)
def LV(ops:List Oper)(A:s9)(id:Nat)(draw:Bool)(s:St)(k:St->Prop):Prop:=
 let a (s:St):Prop:=k {s with tmps:=s.tmps.map pw}
 let sl:=slotsOf P (A.an id) ops 0 s.heap.length
 let nb:=fun i=>sl.getD i 0
 let s:={s with tmps:=s.tmps.map pw,heap:=s.heap++List.replicate (LU P (A.an id) ops 0) .free}
 match Yo ops,draw with
 |false,_=>False
 |true,false=>GA P E nb ops A id (List.range ops.length) s [] a
 |true,true=>match JI ops with
  |false=>False
  |true=>
   let ms:=kp ops []
   match JJ ops (A.an id) nb ms with
   |true=>GA P E nb ops A id (List.range ops.length) s [] a
   |false=>wh P E nb ops A id ms (ops.length+1) (List.range ops.length) s [] a
def AV.under(n:Nat)(a:AV):Bool:=a.refs.all (decide <| · < n)
def oN:List (Nat×Nat)->List AV->List (Option Nat)->List AV×List (Option Nat)
 |[],a,ae=>(a,ae)
 |(i,n)::b,a,ae=>match a.getD i .none with
  |.v .nil=>oN b (a.set i (.own ae.length 0 n [])) (ae++[some 0])
  |_=>oN b a ae
def sA:List (Nat×Nat)->List AV->List Bx->List AV×List Bx
 |[],b,a=>(b,a)
 |(i,n)::c,b,a=>match b.getD i .none with
  |.v .nil=>sA c (b.set i (.bA a.length)) (a++[.bk n []])
  |_=>sA c b a
def Em(a:List AV)(ae:List (Option Nat)):List Nat->Option (List Nat)
 |[]=>some []
 |i::b=>match a.getD i .none with
  |.own t c _ _=>match decide (ae[t]?=some (some c))with
   |true=>(Em a ae b).map (t :: ·)
   |false=>.none
  |_=>.none
def Cut.slot(c:Cut)(f:Nat->Nat)(i:Nat)(a:AV):AV:=
 match c.bl.contains i with
 |false=>.none
 |true=>
  match a with
  |.own _ _ n ak=>match c.owns.idxOf? i with
   |some j=>.own j 0 n ak
   |.none=>.v (.sl n ak)
  |a=>match a.simple with
   |true=>a.dG f
   |false=>.none
def iR{α β:Type}(f:Nat->α->β):Nat->List α->List β
 |_,[]=>[]
 |i,a::l=>f i a::iR f (i+1) l
def Cut.refs(c:Cut)(b:List AV):List Nat:=c.bl.flatMap fun i=>match b.getD i .none with
 |.jn .. |.fV .. => []
 |a=>a.refs
def Bx.under(n:Nat)(b:Bx):Bool:=b.refs.all (decide <| · < n)
def kX(l:List (Nat×Nat)):Nat->List Bx->List Bx
 |_,[]=>[]
 |b,.cells cs::h=>.cells (iR (fun i a=>match l.contains (b,i)with|true=>a.view|false=>a) 0 cs)::kX l (b+1) h
 |b,x::h=>x::kX l (b+1) h
def Cut.app(c:Cut)(d:Nat)(s:St):Option St:=
 match oN c.cW s.tmps s.ae with
 |(tmps,ae)=>match sA c.iQ tmps s.heap with
  |(tmps,heap)=>match Em tmps ae c.owns with
   |some e=>
    let a:=reach heap 100 (c.refs tmps) (List.range d)
    let f:=fun b=>a.idxOf b
    let h:=a.map fun b=>heap.getD b .dead
    match kU e&&(c.refs tmps).all a.contains&&(h.flatMap Bx.refs).all a.contains&&h.all Bx.simple with
    |true=>some {tmps:=iR (c.slot f) 0 tmps,ae:=c.owns.map fun _=>some 0,heap:=kX c.wc 0 (h.map (Bx.dG f))}
    |false=>.none
   |.none=>.none
def mY:Code->Option Nat
 |.region id _ _=>some id
 |.seq a b=>match mY a with
  |some n=>some n
  |.none=>mY b
 |.block _ b|.loop b=>mY b
 |.cond _ a b=>match mY a with
  |some n=>some n
  |.none=>mY b
 |_=>.none
def Eo(s:St):ResultVar->Option AV
 |.tmp t=>some (s.tmps.getD t .none)
 |.cell a t=>match s.tmps.getD a .none with
  |.aB b off=>match s.heap[b]? with
   |some (.cells cs)=>varOf P t cs off
   |_=>.none
  |_=>.none
def uN(a:Nat)(b:Nat)(c:List Bx)(bx:List Bx):Option (Nat×List Bx×List Bx):=
 match c[b]? with
 |some x=>match x.simple&&x.under a with
  |true=>some (a+bx.length,c.set b .dead,bx++[x])
  |false=>.none
 |.none=>.none
def ly(d:Nat):List AV->List Bx->List Bx->Option (List AV×List Bx×List Bx)
 |[],c,bx=>some ([],c,bx)
 |.aB b off::l,c,bx=>match decide (b<d)with
  |true=>(ly d l c bx).map fun(m,r)=>(.aB b off::m,r)
  |false=>match uN d b c bx with
   |some (b',c,bx)=>(ly d l c bx).map fun(m,r)=>(.aB b' off::m,r)
   |.none=>.none
 |a::l,c,bx=>match a.under d with
  |true=>(ly d l c bx).map fun(m,r)=>(a::m,r)
  |false=>.none
def gO(a:Bool):List TypeId->Option Nat
 |t::_=>match a,yQ P t (.v .nil)with
  |true,.v (.sl n _)=>some n
  |_,_=>.none
 |[]=>.none
def kP(e:Bool)(d:Nat):List TypeId->List AV->List (Option Nat)->List Bx->List Bx->Nat->Option (List AV×List Bx×List Bx)
 |_,[],_,c,bx,_=>some ([],c,bx)
 |f,a::i,ae,c,bx,k=>
  let norm (a:AV):AV:=match f with
   |t::_=>yQ P t a
   |[]=>a
  match a with
  |.v .nil=>match gO P e f with
   |some n=>(kP e d f.tail i ae c bx (k+1)).map fun(l,h)=>(.own k 0 n []::l,h)
   |.none=>(kP e d f.tail i ae c bx k).map fun(l,h)=>(norm (.v .nil)::l,h)
  |.own t j n ak=>match decide (ae[t]?=some (some j))with
   |true=>(kP e d f.tail i (ae.set t .none) c bx (k+1)).map fun(l,h)=>(.own k 0 n ak::l,h)
   |false=>(kP e d f.tail i ae c bx k).map fun(l,h)=>(.v (.sl n ak)::l,h)
  |.bA b=>match c[b]? with
   |some (.bk n ak)=>match e with
    |true=>(kP e d f.tail i ae (c.set b (.uH n ak)) bx k).map fun(l,h)=>(.v (.sl n ak)::l,h)
    |false=>(kP e d f.tail i ae (c.set b .dead) (bx++[.bk n ak]) k).map fun(l,h)=>(.bA (d+bx.length)::l,h)
   |some (.uH n ak)=>(kP e d f.tail i ae c bx k).map fun(l,h)=>(.v (.sl n ak)::l,h)
   |_=>.none
  |.mp b=>match decide (b<d)with
   |true=>(kP e d f.tail i ae c bx k).map fun(l,h)=>(.mp b::l,h)
   |false=>match uN d b c bx with
    |some (b',c,bx)=>(kP e d f.tail i ae c bx k).map fun(l,h)=>(.mp b'::l,h)
    |.none=>.none
  |.fn g first cap=>match(AV.fn g first cap).simple&&first.all (AV.under d),ly d cap c bx with
   |true,some (cap,c,bx)=>(kP e d f.tail i ae c bx k).map fun(l,h)=>(.fn g first cap::l,h)
   |_,_=>.none
  |a=>match a.simple&&a.under d with
   |true=>(kP e d f.tail i ae c bx k).map fun(l,h)=>(norm a::l,h)
   |false=>.none
def wi(s:St):List ResultVar->Option (List AV)
 |[]=>some []
 |r::b=>match Eo P s r,wi s b with
  |some a,some l=>some (a::l)
  |_,_=>.none
def fin(fn:Func)(c:Bool)(a:Nat)(s:St):Option (List AV×List Bx):=
 match wi P s fn.results.toList with
 |.none=>.none
 |some l=>match kP P c a fn.resultTypes.toList l s.ae s.heap [] 0 with
  |some (r,h,bx)=>match decide (a<=s.heap.length)&&(h.take a).all fun b=>b.simple&&b.under a with
   |true=>some (r,h.take a++bx)
   |false=>.none
  |.none=>.none
variable (K:Func->List Item->St->Nat->List AV->List Bx->Prop)
def PS(ops:List Oper)(a:List (Tmp×Bool)):List (Tmp×Bool):=a.filter fun x=>ops.all fun o=>o.dst !=some x.1
def Fi(r:List AV)(h:List Bx)(b:List AV)(a:List Bx):Prop:=b=r/\a=h
def wp(fn:Func)(d:Nat)(A:s9)(f:Nat->Option Cut)(r:List AV)(h:List Bx):Nat->List Item->St->List (Tmp×Bool)->Prop
 |0,_,_,_=>False
 |n+1,m,s,e=>
  let done:Prop:=match fin P fn A.rf d s with
   |some (l,i)=>Fi r h l i
   |.none=>False
  let head (b:Code) (k:List Item):Prop:=match(mY b).bind f with
   |some c=>match c.app d s with
    |some g=>K fn (.code b :: .inLoop b::k) g d r h
    |.none=>False
   |.none=>wp fn d A f r h n (.code b :: .inLoop b::k) s e
  match m with
  |[]=>done
  |.code c::k=>match c with
   |.skip|.label _=>wp fn d A f r h n k s e
   |.seq a b=>wp fn d A f r h n (.code a :: .code b::k) s e
   |.block id b=>wp fn d A f r h n (.code b :: .inBlock id::k) s e
   |.loop b=>head b k
   |.exit id=>match exitTo id k with
    |some j=>wp fn d A f r h n j s e
    |.none=>False
   |.ret=>done
   |.cond (.tmp x) a b=>match e.lookup x with
    |some true=>wp fn d A f r h n (.code a::k) s e
    |some false=>wp fn d A f r h n (.code b::k) s e
    |.none=>match s.tmps.getD x .none with
     |.v (.bool B)=>aw B (wp fn d A f r h n (.code a::k) s ((x,true)::e)) (wp fn d A f r h n (.code b::k) s ((x,false)::e))
     |_=>False
   |.region id ops draw=>match A.join id with
    |some c=>match c.app d s with
     |some g=>K fn (.code (.region id ops draw)::k) g d r h
     |.none=>False
    |.none=>LV P E ops.toList A id draw s fun s=>wp fn d A f r h n k s (PS ops.toList e)
   |_=>False
  |.inBlock _::k=>wp fn d A f r h n k s e
  |.inLoop b::k=>head b k
  |_=>False
def aO(n:Nat)(l:List (Nat×AV)):List AV:=(List.range n).map fun i=>(l.lookup i).getD .none
def cx:List AV->List (Option Nat)
 |[]=>[]
 |.own .. :: l=>some 0::cx l
 |_::l=>cx l
def Ep(fn:Func)(args:List AV)(heap:List Bx):St:=
 {tmps:=args++List.replicate (fn.ntmps-args.length) .none,ae:=cx args,heap}
def px:Code->List Item->List (List Item)
 |.seq a b,k=>px a (.code b::k)++px b k
 |.cond _ a b,k=>px a k++px b k
 |.block id c,k=>px c (.inBlock id::k)
 |.loop c,k=>(.code c :: .inLoop c::k)::px c (.inLoop c::k)
 |_,_=>[]
def tn(id:Nat):Code->List Item->Option (List Item)
 |.seq a b,k=>match tn id a (.code b::k)with
  |some l=>some l
  |.none=>tn id b k
 |.cond _ a b,k=>match tn id a k with
  |some l=>some l
  |.none=>tn id b k
 |.block n c,k=>tn id c (.inBlock n::k)
 |.loop c,k=>tn id c (.inLoop c::k)
 |.region n ops draw,k=>match n==id with
  |true=>some (.code (.region n ops draw)::k)
  |false=>.none
 |_,_=>.none
def aaz(fn:Func)(id:Nat):List Item:=(tn id (fn.body.getD .skip) []).getD []
def wpJ(fn:Func)(b:Nat)(A:s9)(a:Nat->Option Cut)(r:List AV)(h:List Bx)(n:Nat)(c:List Item)(s:St):Prop:=
 match c with
 |.code (.region id ops draw)::k=>LV P E ops.toList A id draw s fun s=>wp P E K fn b A a r h n k s []
 |_=>False
def Yp(fn:Func)(k:Nat):List Item:=(px (fn.body.getD .skip) []).getD k []
end
def j9(ak:List (List PV))(i j:Nat):Option PV:=(ak[i]?).bind (·[j]?)
def AV.xq:AV->Bool
 |.none|.v _|.aB _ _|.bA _|.mp _|.xp _=>true
 |_=>false
def AV.JL:AV->Bool
 |.v _|.agg _|.j8 .. => true
 |_=>false
inductive cf (bT:Nat->Nat) (w:World):Value->PV->Prop
 |bool (b:Bool):cf bT w (.bool b) (.bool b)
 |int (k:IntKind) (n:Int):cf bT w (.int k n) (.int k n)
 |str (s:ByteArray):cf bT w (.string s) (.str s.data.toList)
 |nO (k:FloatKind) (re im:Nat):cf bT w (.complex k re im) (.nO k (some (re,im)))
 |GB (k:FloatKind) (re im:Nat):cf bT w (.complex k re im) (.nO k none)
 |WG (k:FloatKind) (b:Nat):cf bT w (.float k b) (.Ed k)
 |nil:cf bT w (.slice none 0 0) .nil
 |mZ (n:Nat):cf bT w (.slice none 0 0) (.sl n [])
 |Jy (a:Addr) (n:Nat):cf bT w (.slice (some a) 0 0) (.sl n [])
 |sl (b off len cap n:Nat) (ak:List (List PV)) (u:Nat->Nat->Value) (hl:ak.length=len) (hc:len<=cap) (hr:∀r∈ak,r.length=n)
   (alB:∀i j p,j9 ak i j=some p->w.cell? ⟨b,off+i*n+j,none⟩=some (u i j)/\off+i*n+j<bT b)
   (hp:∀i j p,j9 ak i j=some p->cf bT w (u i j) p):cf bT w (.slice (some ⟨b,off,none⟩) len cap) (.sl n ak)
inductive Hd where
 |box (b:Nat)
 |cell (b j:Nat)
 |oq (b:Nat) (k:PV)
 |tok (t:Nat)
structure Gh where
 bT:Nat->Nat
 h:Hd->Option Nat
 val:Nat->Value
 bC:Nat->Prop
def Room(G:Gh)(x:Hd)(w:World)(A:Option Addr)(len cap n:Nat):Prop:=
 len<cap->∃(b off:Nat)(X:Array Value)(elem:TypeId),A=some ⟨b,off,none⟩/\G.h x=some b/\G.bT b=off+len*n/\w.heap[b]?=some (.cells X elem (0,0))/\off+cap*n<=X.size
inductive aS (G:Gh) (ae:List (Option Nat)) (w:World):Value->AV->Prop
 |none (v:Value):aS G ae w v .none
 |v {v:Value} {p:PV} (h:cf G.bT w v p):aS G ae w v (.v p)
 |agg {cs:Array Value} {ps:List PV} (hs:cs.size=ps.length) (h:∀(i:Nat)v p,cs[i]?=some v->ps[i]?=some p->cf G.bT w v p):aS G ae w (.agg cs) (.agg ps)
 |Ee {cs:Array Value} {l:List AV} (hs:cs.size=l.length) (hi:∀a∈l,a.xq=true) (ho:∀(i:Nat)v,cs[i]?=some v->v.oneCell'=true) (h:∀(i:Nat)v a,cs[i]?=some v->l[i]?=some a->aS G ae w v a):aS G ae w (.agg cs) (.Ee l)
 |own {t ver n:Nat} {ak:List (List PV)} {A:Option Addr} {len cap:Nat} (ht:t<ae.length) (hle:∀(m:Nat),ae[t]?=some (some m)->ver<=m)
   (h:cf G.bT w (.slice A len cap) (.sl n ak)) (hr:ae[t]?=some (some ver)->Room G (.tok t) w A len cap n):aS G ae w (.slice A len cap) (.own t ver n ak)
 |aB {b off Er:Nat} (he:G.bC b) (h:G.val b = .pointer (some ⟨Er,0,Option.none⟩)):aS G ae w (.pointer (some ⟨Er,off,Option.none⟩)) (.aB b off)
 |jn {b base n len j Er:Nat} {i:Int} (he:G.bC b) (hi:0<=i/\i<len) (h:G.val b = .pointer (some ⟨Er,0,Option.none⟩)):aS G ae w (.pointer (some ⟨Er,base+i.toNat*n+j,Option.none⟩)) (.jn b base n len i j)
 |fV {b n j Er off len cap:Nat} {i:Int} (he:G.bC b) (hi:0<=i/\i.toNat<len) (h:G.val b = .slice (some ⟨Er,off,Option.none⟩) len cap):aS G ae w (.pointer (some ⟨Er,off+i.toNat*n+j,Option.none⟩)) (.fV b n i j)
 |kS {cs:List PV} {b off:Nat} (u:Nat->Value) (hc:∀(j:Nat)p,cs[j]?=some p->w.cell? ⟨b,off+j,Option.none⟩=some (u j)/\off+j<G.bT b)
   (hp:∀(j:Nat)p,cs[j]?=some p->cf G.bT w (u j) p):aS G ae w (.pointer (some ⟨b,off,Option.none⟩)) (.kS cs)
 |bA {b:Nat} (he:G.bC b) (ho:(G.val b).oneCell'=true):aS G ae w (G.val b) (.bA b)
 |mp {b:Nat} (he:G.bC b) (ho:(G.val b).oneCell'=true):aS G ae w (G.val b) (.mp b)
 |fn {f:Fn} {fi ca:Array Value} {first cap:List AV} (h1:fi.size=first.length) (h2:ca.size=cap.length)
   (h3:∀(i:Nat)v a,fi[i]?=some v->first[i]?=some a->aS G ae w v a) (h4:∀(i:Nat)v a,ca[i]?=some v->cap[i]?=some a->aS G ae w v a):aS G ae w (.func f fi ca) (.fn f first cap)
 |xZ {vs:Array Value} {l:List AV} (h1:vs.size=l.length) (h2:∀(i:Nat)v a,vs[i]?=some v->l[i]?=some a->aS G ae w v a):aS G ae w (.tuple vs) (.xZ l)
 |qH:aS G ae w .nilIface (.xp Option.none)
 |Cb {t:TypeId} {cs:Array Value} {ps:List PV} (hs:cs.size=ps.length) (h:∀(i:Nat)v p,cs[i]?=some v->ps[i]?=some p->cf G.bT w v p):aS G ae w (.iface t (.agg cs)) (.xp (some (t,ps)))
 |opt {c:Bool} {j:Nat} {g:Bool} {a:AV} {v:Value} (h:c=true->aS G ae w v a) (hu:c=false->v=undef):aS G ae w v (.opt c j g a)
structure Grow (bT:Nat->Nat) (w:World) (gP:Nat->Nat) (w':World):Prop where
 le:∀b,bT b<=gP b
 cell:∀b o,o<bT b->w'.cell? ⟨b,o,none⟩=w.cell? ⟨b,o,none⟩
def Grow.refl(a:Nat->Nat)(w:World):Grow a w a w:=⟨fun _=>ar _,fun _ _ _=>rfl⟩
def Grow.trans(h:Grow c f d g)(k:Grow d g e i):Grow c f e i:=
 ⟨fun b=>dR (h.le b) (k.le b),fun b o a=>(k.cell b o (gy a (h.le b))).trans (h.cell b o a)⟩
def cf.grow(g:Grow f w gP w')(h:cf f w v p):cf gP w' v p:=by
 induction h with
 |bool b=>exact .bool b
 |int k n=>exact .int k n
 |str s=>exact .str s
 |nO k d c=>exact .nO k d c
 |GB k d c=>exact .GB k d c
 |WG k b=>exact .WG k b
 |nil=>exact .nil
 |mZ n=>exact .mZ n
 |Jy a n=>exact .Jy a n
 |sl b off len cap n ak u o m t y z x=>
  refine .sl b off len cap n ak u o m t (fun i j p q=>?_) x
  obtain⟨l,e⟩:=y i j p q;exact⟨(g.cell _ _ e).trans l,gy e (g.le b)⟩
structure ck (G:Gh) (ae:List (Option Nat)) (w:World) (G':Gh) (bz:List (Option Nat)) (w':World):Prop where
 grow:Grow G.bT w G'.bT w'
 bC:∀b,G.bC b->G'.bC b
 val:∀b,G.bC b->G'.val b=G.val b
 len:ae.length<=bz.length
 tok:∀(t:Nat)n,bz[t]?=some (some n)->t<ae.length->∃m,ae[t]?=some (some m)/\(m<n\/(m=n/\∀b,G.h (.tok t)=some b->G'.h (.tok t)=some b/\G'.bT b=G.bT b/\w'.heap[b]?=w.heap[b]?))
def ck.refl(G:Gh)(ae:List (Option Nat))(w:World):ck G ae w G ae w:=
 ⟨Grow.refl _ _,fun _ h=>h,fun _ _=>rfl,ar _,fun _ n h _=>⟨n,h,.inr ⟨rfl,fun _ a=>⟨a,rfl,rfl⟩⟩⟩⟩
def ck.trans(h:ck e o q f t2 s)(k:ck f t2 s g p u):ck e o q g p u:=by
 refine⟨h.grow.trans k.grow,fun b d=>k.bC _ (h.bC _ d),fun b i=>(k.val b (h.bC b i)).trans (h.val b i),dR h.len k.len,fun t n r j=>?_⟩
 obtain⟨m,z,c⟩:=k.tok t n r (gy j h.len);obtain⟨l,y,a⟩:=h.tok t m z j;refine⟨l,y,?_⟩;rcases c with c|⟨rfl,c⟩
 .rcases a with a|⟨rfl,_⟩
  .exact .inl (by omega)
  .exact .inl c
 .rcases a with a|⟨rfl,a⟩
  .exact .inl a
  .refine .inr ⟨rfl,fun b d=>?_⟩
   obtain⟨v,w,x⟩:=a b d;obtain⟨D,E,G⟩:=c b v;exact⟨D,E.trans w,G.trans x⟩
def Room.bD(h:Room G x w A len cap n)(k:∀b,G.h x=some b->a.h y=some b/\a.bT b=G.bT b/\w'.heap[b]?=w.heap[b]?):Room a y w' A len cap n:=by
 intro m;obtain⟨b,off,X,elem,c,d,e,f,g⟩:=h m;obtain⟨i,j,l⟩:=k b d;exact⟨b,off,X,elem,c,i,j.trans e,l.trans f,g⟩
def aS.bD(k:ck G ae w z bz w'){v:Value}(h:aS G ae w v a):aS z bz w' v a:=by
 induction h with
 |none v=>exact .none v
 |v h=>exact .v (h.grow k.grow)
 |agg l h=>exact .agg l fun i v p c d=>(h i v p c d).grow k.grow
 |Ee l g e h o=>exact .Ee l g e o
 |@own t Y n ak A len cap x r h I=>
  refine .own (gy x k.len) (fun m E=>?_) (h.grow k.grow) fun K=>?_
  .obtain⟨y,q,f⟩:=k.tok t m E x
   have:=r y q;rcases f with f|⟨rfl,_⟩<;>omega
  .obtain⟨y,q,f⟩:=k.tok t _ K x
   have Z:=r y q;rcases f with f|⟨rfl,f⟩
   .omega
   .exact(I q).bD f
 |aB b h=>exact .aB (k.bC _ b) ((k.val _ b).trans h)
 |jn b g h=>exact .jn (k.bC _ b) g ((k.val _ b).trans h)
 |fV b g h=>exact .fV (k.bC _ b) g ((k.val _ b).trans h)
 |kS u D H=>
  refine .kS u (fun j p s=>?_) fun j p s=>(H j p s).grow k.grow
  obtain⟨c,d⟩:=D j p s;exact⟨(k.grow.cell _ _ d).trans c,gy d (k.grow.le _)⟩
 |bA b e=>rw[<-k.val _ b]at e⊢; exact .bA (k.bC _ b) e
 |mp b e=>rw[<-k.val _ b]at e⊢; exact .mp (k.bC _ b) e
 |fn c d T X M Q=>exact .fn c d M Q
 |xZ c d o=>exact .xZ c o
 |qH=>exact .qH
 |Cb l h=>exact .Cb l fun i v p c d=>(h i v p c d).grow k.grow
 |opt h J o=>exact .opt o J
def cf.fZ(h:cf a w v p):v.oneCell'=true:=by cases h<;>rfl
def ot{v:Value}(h:v.oneCell'=true):v.cells = #[v]:=by cases v<;>first|rfl|simp[Value.oneCell']at h
def cf.cells(h:cf a w v p):v.cells = #[v]:=ot h.fZ
def cf.norm(c:CT)(h:cf a w v p):cf a w v (c.norm p):=by
 unfold CT.norm;split
 .cases h;exact .mZ _
 .exact h
def aS.pv{v:Value}(h:aS G ae w v a)(b:a.pv=some p):cf G.bT w v p:=by
 cases h with
 |v h=>simp[AV.pv]at b;exact b▸h
 |own d e h c=>simp[AV.pv]at b;exact b▸h
 |_=>simp[AV.pv]at b
def eI(G:Gh)(w:World)(x:Hd)(v:Value)(a:AV):Prop:=
 v.oneCell'=true/\match a with
 |.j8 n ak=>∃A len cap,v = .slice A len cap/\cf G.bT w v (.sl n ak)/\Room G x w A len cap n
 |a=>aS G [] w v a
def oO(G:Gh)(w:World)(x:Hd)(v:Value)(a:AV):Prop:=
 match a with
 |.agg ps=>aS G [] w v (.agg ps)
 |a=>eI G w x v a
def x0(a:Array MapEntry)(clock n:Nat):Prop:=a.size=n/\(∀x∈a.toList,x.born<clock)/\(a.toList.map (·.born)).Nodup
def gr(P:Program)(G:Gh)(w:World)(b:Nat):Bx->Prop
 |.cells cs=>∃c X elem,G.bC b/\G.h (.box b)=some c/\G.val b = .pointer (some ⟨c,0,none⟩)/\w.heap[c]?=some (.cells X elem (0,0))/\X.size=cs.length/\G.bT c=0/\∀(j:Nat)v a,X[j]?=some v->cs[j]?=some a->eI G w (.cell b j) v a
 |.bk n ak=>G.bC b/\(∀r∈ak,r.length=n)/\
   ((∃c X elem cap,G.h (.box b)=some c/\G.val b = .slice (some ⟨c,0,none⟩) ak.length cap/\ak.length<=cap/\w.heap[c]?=some (.cells X elem (0,0))/\cap*n<=X.size/\G.bT c=0 /\
    ∀(i j:Nat)v p,X[i*n+j]?=some v->j9 ak i j=some p->cf G.bT w v p) \/
    (ak=[]/\∃A,G.val b = .slice A 0 0))
 |.uH n ak=>G.bC b/\cf G.bT w (G.val b) (.sl n ak)
 |.map t d=>∃c f clock,G.bC b/\G.h (.box b)=some c/\G.val b = .map (some c)/\w.heap[c]?=some (.map f clock)/\x0 f clock d.length /\
   (∀e∈d,e.2.JL=true/\∃g l,P.underlying t=some (.map g l)/\kO P g e.1=true)/\
   (d.map (·.1)).Pairwise (fun k m=>l0 k m=false)/\
   ∀(i:Nat)e x,f[i]?=some e->d[i]?=some x->cf G.bT w e.key x.1/\oO G w (.oq b x.1) e.val x.2
 |.dead=>G.bC b
 |.free=>¬G.bC b
def JM(i:Nat):Int:=if i=9\/i=10\/i=11\/i=12\/i=13\/i=32 then 1 else 0
structure Laid (bT:Nat->Nat) (w:World):Prop where
 tab:∀i,i<256->w.cell? ⟨1,i,none⟩=some (.int .u8 (JM i))/\i<bT 1
 num:∃m,w.cell? ⟨0,0,none⟩=some (.int .i64 m)/\0<bT 0
def Laid.grow(h:Laid c w)(g:Grow c w gP w'):Laid gP w':=
 ⟨fun i a=>⟨(g.cell _ _ (h.tab i a).2).trans (h.tab i a).1,gy (h.tab i a).2 (g.le 1)⟩,h.num.elim fun m b=>⟨m,(g.cell _ _ b.2).trans b.1,gy b.2 (g.le 0)⟩⟩
structure m0 (w0:World) (aR:Nat->Nat) (O:Nat->Prop) (w:World) (bT:Nat->Nat):Prop where
 size:w0.heap.size<=w.heap.size
 os:w.os=w0.os
 tape:w.tape=w0.tape
 output:w.output=w0.output
 Er:∀b,b<w0.heap.size->¬O b->w.heap[b]?=w0.heap[b]?/\bT b=aR b
 grow:Grow aR w0 bT w
 xr:∀b,w.heap.size<=b->bT b=0
 laid:Laid aR w0
def m0.refl(w:World)(a:Nat->Nat)(O:Nat->Prop)(h:∀b,w.heap.size<=b->a b=0)(c:Laid a w):m0 w a O w a:=
 ⟨ar _,rfl,rfl,rfl,fun _ _ _=>⟨rfl,rfl⟩,Grow.refl _ _,h,c⟩
def m0.Cc(h:m0 b c O w a):Laid a w:=h.laid.grow h.grow
structure Inv (P:Program) (w0:World) (aR:Nat->Nat) (O:Nat->Prop) (G:Gh) (heap:List Bx) (w:World):Prop where
 frame:m0 w0 aR O w G.bT
 nb:∀b,G.bC b->b<heap.length
 box:∀(b:Nat)bx,heap[b]?=some bx->gr P G w b bx
 inj:∀x y n,G.h x=some n->G.h y=some n->x=y
 nN:∀x n,G.h x=some n->n<w.heap.size/\(n<w0.heap.size->O n)
 dead:∀b n,heap[b]?=some .free->G.h (.box b)≠some n
section
variable {P:Program} {G:Gh} {ae:List (Option Nat)} {w:World}
def dK(h:cq P t=some n)(w:World):(sizeOf t).run P w = .ok n w:=by
 unfold cq at h;cases hi:P.info? t with
 |none=>rw[hi]at h;simp at h
 |some i=>
  rw[hi]at h;simp at h;simp[sizeOf,typeInfo,hi,h]
def py(h:dn P t=some b)(w:World):(isAgg t).run P w = .ok b w:=by
 unfold dn at h;cases hd:P.underlying t with
 |none=>rw[hd]at h;simp at h
 |some d=>
  rw[hd]at h;cases d<;>simp at h<;>subst h<;>simp[isAgg,run_underlying hd]
def Plain(P:Program)(G:Gh)(ae:List (Option Nat))(w:World)(x:Sem Next)(a:AV):Prop:=
 ∃v w',x.run P w = .ok (.value v) w'/\(w'=w\/w'=w.drew)/\aS G ae w' v a
def Plain.pure(c:x.run P w = .ok (.value v) w)(b:aS G ae w v a):Plain P G ae w x a:=⟨v,w,c,.inl rfl,b⟩
def aS.nU{v:Value}(h:aS G ae w v (.v (.bool b))):v = .bool b:=by cases h with|v h=>cases h;rfl
def aS.gz{v:Value}(h:aS G ae w v (.v (.int k n))):v = .int k n:=by cases h with|v h=>cases h;rfl
def aS.yU{v:Value}(h:aS G ae w v (.v (.str s))):∃b:ByteArray,v = .string b/\b.data.toList=s:=by cases h with|v h=>cases h;exact⟨_,rfl,rfl⟩
def aS.Es{v:Value}(h:aS G ae w v (.v (.Ed k))):∃b,v = .float k b:=by cases h with|v h=>cases h;exact⟨_,rfl⟩
def aS.LW{v:Value}(h:aS G ae w v (.v (.nO k o))):∃b a,v = .complex k b a:=by
 cases h with|v h=>cases h<;>exact⟨_,_,rfl⟩
def aS.l4(b:Bool):aS G ae w (.bool b) (.v (.bool b)):=.v (.bool b)
def aS.mkInt(k:IntKind)(n:Int):aS G ae w (.int k n) (.v (.int k n)):=.v (.int k n)
def aS.mkStr(s:ByteArray)(l:List UInt8)(h:s.data.toList=l):aS G ae w (.string s) (.v (.str l)):=.v (h ▸ .str s)
def qW(G:Gh)(ae:List (Option Nat))(w:World)(e:Operand->Value)(ρ:Operand->AV)(o:Op):Prop:=
 match o with
 |.pick c a b=>aS G ae w (e c) (ρ c)/\∀B,ρ c = .v (.bool B)->(B=true->aS G ae w (e a) (ρ a))/\(B=false->aS G ae w (e b) (ρ b))
 |o=>∀x∈o.operands.toList,aS G ae w (e x) (ρ x)
def bJ(w:World)(h:x.run P w = .ok v w'):(do pure (.value (<-x)):Sem Next).run P w = .ok (.value v) w':=by
 simp[h]
def nV(b off n:Nat):(⟨b,off,none⟩:Addr).add n=⟨b,off+n,none⟩:=by
 unfold Addr.add;split
 .subst_vars;rfl
 .rfl
def x3(h:cq P f.type=some (n+1))(w:World):(fieldPlace ⟨b,off,none⟩ f).run P w = .ok ⟨b,off+f.offset,none⟩ w:=by
 simp[fieldPlace,dK h,nV]
def GC{s f:Nat}(e:P.underlying s=some (.struct fields))(c:fields[f]?=some a)(d:cq P a.type=some (m+1))(b off:Nat):
  (do pure (.value (<-Instr.fieldAt s (.pointer (some ⟨b,off,none⟩)) f)):Sem Next).run P w = .ok (.value (.pointer (some ⟨b,off+a.offset,none⟩))) w:=by
 simp[Instr.fieldAt,run_underlying e,c,Instr.sureAddr,x3 d]
def BT{e:Operand->Value}{s f:Nat}(t:aS G ae w (e x) (ρ x))(h:plain P (.fieldAddr s x f) an k ρ=some (a,l)):Plain P G ae w (do pure (.value (<-Instr.fieldAt s (e x) f))) a:=by
 simp only[plain]at h;split at h<;>try(simp at h;done)
 rename_i fields E;split at h<;>try(simp at h;done)
 rename_i i y;split at h<;>try(simp at h;done)
 rename_i n z D;have H:∃m,n=m+1:=by
  cases n with
  |zero=>exact(z rfl).elim
  |succ m=>exact⟨m,rfl⟩
 obtain⟨m,rfl⟩:=H;have run:=fun b off=>GC (w:=w) E y D b off
 generalize ρ x=A at t h;generalize e x=V at t⊢;cases t with
 |aB d c=>simp at h;obtain⟨rfl,rfl⟩:=h;exact .pure (run _ _) (.aB d c)
 |jn d q c=>simp at h;obtain⟨rfl,rfl⟩:=h;refine .pure (run _ _) ?_;rw[gI];exact .jn d q c
 |fV d q c=>simp at h;obtain⟨rfl,rfl⟩:=h;refine .pure (run _ _) ?_;rw[gI];exact .fV d q c
 |kS u v r=>
  simp at h;obtain⟨rfl,rfl⟩:=h;refine .pure (run _ _) (.kS (fun j=>u (i.offset+j)) (fun j p g=>?_) fun j p g=>?_)
  .rw[jx]at g
   have:=v _ _ g;rwa [show∀o,o+i.offset+j=o+(i.offset+j)from fun o=>gI _ _ _]
  .rw[jx]at g
   exact r _ _ g
 |_=>simp at h
def Et(g:aS G ae w (e x) (ρ x))(n:o.op = .nilCheck x)(h:plain P (.nilCheck x) an k ρ=some (a,l)):Plain P G ae w (execOp e o) a:=by
 simp only[plain]at h;have run:∀b off,e x = .pointer (some ⟨b,off,none⟩)->(execOp e o).run P w = .ok (.value (e x)) w:=by
  intro b off i;simp[execOp,n,i]
 generalize ρ x=A at g h;generalize i:e x=V at g run;cases g with
 |aB d c=>simp at h;obtain⟨rfl,rfl⟩:=h;exact .pure (run _ _ rfl) (.aB d c)
 |jn d f c=>simp at h;obtain⟨rfl,rfl⟩:=h;exact .pure (run _ _ rfl) (.jn d f c)
 |fV d f c=>simp at h;obtain⟨rfl,rfl⟩:=h;exact .pure (run _ _ rfl) (.fV d f c)
 |kS u j m=>simp at h;obtain⟨rfl,rfl⟩:=h;exact .pure (run _ _ rfl) (.kS u j m)
 |_=>simp at h
def l5{t a n len:Nat}{i:Int}(d:P.underlying t=some (.array len a))(c:cq P a=some n)(h:0<=i/\i<len)(w:World):
  (Instr.indexAt t (.pointer (some ⟨b,off,none⟩)) (.int k i)).run P w = .ok (.pointer (some ⟨b,off+i.toNat*n,none⟩)) w:=by
 simp[Instr.indexAt,asIntOf,run_underlying d,Instr.sureAddr,h,dK c,nV]
def m1{t a n len cap:Nat}{i:Int}(d:P.underlying t=some (.slice a))(c:cq P a=some n)(h:0<=i/\i<len)(w:World):
  (Instr.indexAt t (.slice (some ⟨b,off,none⟩) len cap) (.int k i)).run P w = .ok (.pointer (some ⟨b,off+i.toNat*n,none⟩)) w:=by
 simp[Instr.indexAt,asIntOf,run_underlying d,Instr.sureAddr,h,dK c,nV]
def aS.ak{v:Value}{ak:List (List PV)}(h:aS G ae w v a)(b:a.uI n=some ak):cf G.bT w v (.sl n ak):=by
 cases h with
 |v h=>
  rename_i p;cases p<;>simp only[AV.uI]at b<;>try(simp at b;done)
  .split at b<;>try(simp at b;done)
   rename_i c;subst c;obtain rfl:=ax b;exact h
  .obtain rfl:=ax b
   cases h;exact .mZ n
 |own d e h f=>
  simp only[AV.uI]at b;split at b<;>try(simp at b;done)
  rename_i c;subst c;obtain rfl:=ax b;exact h
 |_=>simp[AV.uI]at b
def JN(h:ak[i]?=some r)(a:r[j]?=some p):j9 ak i j=some p:=by simp[j9,h,a]
def UN{t e n:Nat}(g:cf G.bT w V (.sl n ak))(o:P.underlying t=some (.slice e))(m:cq P e=some n)(f:0<=i)(c:ak[i.toNat]?=some r):
  Plain P G ae w (do pure (.value (<-Instr.indexAt t V (.int k i)))) (.kS r):=by
 cases g with
 |mZ=>simp at c
 |Jy a=>simp at c
 |sl b off len cap n ak u v s y q l=>
  have x:=(aG.1 c).1;exact .pure (bJ _ (m1 o m ⟨f,by omega⟩ _)) (.kS (fun j=>u i.toNat j) (fun j p d=>q _ _ _ (JN c d)) fun j p d=>l _ _ _ (JN c d))
def BU{e:Operand->Value}{t:Nat}(g:aS G ae w (e x) (ρ x))(z:aS G ae w (e v) (ρ v))(h:plain P (.indexAddr t x v) an k ρ=some (a,l))(m:∀q∈l,q):Plain P G ae w (do pure (.value (<-Instr.indexAt t (e x) (e v)))) a:=by
 simp only[plain]at h;split at h<;>try(simp at h;done)
 rename_i kk i K;rw[K]at z;rw[z.gz];generalize ρ x=A at g h;generalize e x=V at g⊢;split at h
 .rename_i len y b off f
  split at h<;>try(simp at h;done)
  rename_i n d;simp only[ay,az]at h;obtain⟨rfl,rfl⟩:=h;have s:=m _ (cJ.2 rfl);cases g with
  |aB J E=>exact .pure (bJ _ (l5 f d s _)) (.jn (j:=0) J s E)
 .rename_i len y cs f
  split at h<;>try(simp at h;done)
  rename_i n d;simp only[ay,az]at h;obtain⟨rfl,rfl⟩:=h;have s:=m _ (cJ.2 rfl);cases g with
  |kS u H I=>
   refine .pure (bJ _ (l5 f d s _)) (.kS (fun j=>u (i.toNat*n+j)) (fun j p c=>?_) fun j p c=>?_)
   .rw[jx]at c
    have:=H _ _ c;rwa [show∀o,o+i.toNat*n+j=o+(i.toNat*n+j)from fun o=>gI _ _ _]
   .rw[jx]at c
    exact I _ _ c
 .rename_i y Q f
  split at h<;>try(simp at h;done)
  rename_i n d;split at h<;>try(simp at h;done)
  rename_i ak M;have D:=g.ak M;split at h<;>try(simp at h;done)
  rename_i r;split at h<;>try(simp at h;done)
  simp only[ay,az]at h;obtain⟨rfl,rfl⟩:=h;exact UN D f d (m _ (by simp)) (m _ (by simp))
 .simp at h
def l6{t n b off:Nat}(a:dn P t=some true)(e:cq P t=some n)(h:∀j,j<n->w.cell? ⟨b,off+j,none⟩=some (u j)):
  (loadVar t ⟨b,off,none⟩).run P w = .ok (.agg ((List.range n).map u).toArray) w:=by
 have c:=run_loadCells (P:=P) w ⟨b,off,none⟩ n u (fun j d=>by rw[nV];exact h j d)
 simp[loadVar,py a,dK e,c]
def gQ{t b off:Nat}(a:dn P t=some false)(h:w.cell? ⟨b,off,none⟩=some v):(loadVar t ⟨b,off,none⟩).run P w = .ok v w:=by
 simp[loadVar,py a,h]
def range_map_get{u:Nat->Value}(h:i<n):(((List.range n).map u).toArray)[i]?=some (u i):=by
 simp[h]
def aS.PT(d:ps.length=n)(h:∀i p,ps[i]?=some p->cf G.bT w (u i) p):aS G ae w (.agg ((List.range n).map u).toArray) (.agg ps):=by
 refine .agg (by simp[d]) fun i v p a b=>?_
 have c:i<n:=by have:=(aG.1 b).1;omega
 rw[range_map_get c]at a;obtain rfl:=ax a;exact h i p b
def jH{t:Nat}(h:(loadVar t a).run P w = .ok v w):(do pure (.value (<-Instr.loadAt t (.pointer (some a)))):Sem Next).run P w = .ok (.value v) w:=
 bJ _ (by simp only[Instr.loadAt,Instr.sureAddr,Sem.run_bind,Sem.run_pure,Result.andThen_ok];exact h)
def NY{e:Operand->Value}{t:Nat}(f:aS G ae w (e x) (ρ x))(h:plain P (.load t x) an k ρ=some (a,l)):Plain P G ae w (do pure (.value (<-Instr.loadAt t (e x)))) a:=by
 simp only[plain]at h;generalize ρ x=A at f h;generalize e x=V at f⊢;cases f with
 |@kS cs b off u m q=>
  simp only at h;split at h
  .rename_i n d s
   split at h<;>try(simp at h;done)
   rename_i v;simp only[ay,az]at h;obtain⟨rfl,rfl⟩:=h;have z:∀j,j<n->∃p,cs[j]?=some p:=fun j o=>⟨_,bo (by omega)⟩
   have g:(loadVar t ⟨b,off,none⟩).run P w = .ok (.agg ((List.range n).map u).toArray) w:=l6 d s (u:=u) fun j o=>by
    obtain⟨p,c⟩:=z j o;exact(m j p c).1
   refine .pure (jH g) (.PT (by simp[v]) fun i p c=>?_)
   have y:i<n:=by have:=(aG.1 c).1;simp at this;omega
   rw[fv,aJ y]at c;exact q i p c
  .rename_i d s
   split at h<;>try(simp at h;done)
   simp only[ay,az]at h;obtain⟨rfl,rfl⟩:=h;have g:(loadVar t ⟨b,off,none⟩).run P w = .ok (u 0) w:=gQ d (m 0 _ rfl).1;exact .pure (jH g) (.v (q 0 _ rfl))
  .simp at h
 |_=>simp at h
def uO{t n off:Nat}(a:dn P t=some true)(b:cq P t=some n)(w:World):(part t cs off).run P w = .ok (.agg (cs.extract off (off+n))) w:=by
 simp[part,py a,dK b]
def pz{t off:Nat}(a:dn P t=some false)(h:cs[off]?=some v)(w:World):(part t cs off).run P w = .ok v w:=by
 simp[part,py a,h]
def PU{t off:Nat}(m:cs.size=ps.length)(f:∀(i:Nat)v p,cs[i]?=some v->ps[i]?=some p->cf G.bT w v p)(h:plain.part P ps t off=some (a,l)):∃v,(part t cs off).run P w = .ok v w/\aS G ae w v a:=by
 unfold plain.part at h;split at h
 .rename_i n d g
  split at h<;>try(simp at h;done)
  rename_i k;simp at h;obtain⟨rfl,rfl⟩:=h;refine⟨_,uO d g w,.agg (by simp;omega) fun i v p c b=>?_⟩
  rw[D7]at c;split at c<;>try(simp at c;done)
  rw[fv]at b;split at b<;>try(simp at b;done)
  rw[jx]at b;exact f _ _ _ c b
 .rename_i d g
  simp at h;obtain⟨p,e,rfl,rfl⟩:=h;have j:off<cs.size:=by have:=(aG.1 e).1;omega
  exact⟨_,pz d (cU j) w,.v (f _ _ _ (cU j) e)⟩
 .simp at h
def NZ{e:Operand->Value}{t f:Nat}(b:aS G ae w (e x) (ρ x))(h:plain P (.field t x f) an k ρ=some (a,l)):Plain P G ae w (do pure (.value (<-Instr.field t (e x) f))) a:=by
 simp only[plain]at h;generalize ρ x=A at b h;generalize e x=V at b⊢;split at h<;>try(simp at h;done)
 rename_i fields ps g;split at h<;>try(simp at h;done)
 rename_i n c;cases b with
 |agg j d=>
  obtain⟨v,i,m⟩:=PU (P:=P) (ae:=ae) j d h;exact .pure (bJ _ (by simp[Instr.field,run_underlying g,c,asAgg,i])) m
def N0{e:Operand->Value}{t:Nat}(d:aS G ae w (e x) (ρ x))(j:aS G ae w (e g) (ρ g))(h:plain P (.index t x g) an k ρ=some (a,l))(m:∀q∈l,q):Plain P G ae w (do pure (.value (<-Instr.index t (e x) (e g)))) a:=by
 simp only[plain]at h;split at h<;>try(simp at h;done)
 .rename_i kk i len K ps v n o
  rw[v]at j;rw[j.gz];rw[o]at d;generalize e x=V at d⊢;split at h<;>try(simp at h;done)
  rename_i p D f;simp only[ay,az]at h;obtain⟨rfl,rfl⟩:=h;have H:=m _ (aX ..);have z:ps[i.toNat]?=some p:=m _ (aW _ (aX ..));cases d with
  |agg u J=>
   have c:=(aG.1 z).1;rw[<-u]at c;have y:=cU c;exact .pure (bJ _ (by simp[Instr.index,asIntOf,run_underlying n,H,dK f,pz D y])) (.v (J _ _ _ y z))
 .rename_i kk i s v n o
  rw[v]at j;rw[j.gz];rw[o]at d;obtain⟨b,E,f⟩:=d.yU;rw[E];simp only[ay,az]at h;obtain⟨rfl,rfl⟩:=h;obtain⟨r,M⟩:=m _ (cJ.2 rfl);have c:i.toNat<b.data.toList.length:=by rw[f];omega
  have u:i.toNat<b.size:=by rw[mu]at c;exact c
  have I:s.getD i.toNat 0=b[i.toNat]:=by
   rw[bW,<-f,bo c];simp;rfl
  rw[I];refine .pure (bJ _ ?_) (.mkInt .u8 b[i.toNat].toNat);simp[Instr.index,asIntOf,run_underlying n,r,u]
def GD{e:Operand->Value}(b:aS G ae w (e x) (ρ x))(h:plain P (.extract x i) an k ρ=some (a,l)):Plain P G ae w (do pure (.value (<-Instr.extract (e x) i))) a:=by
 simp only[plain]at h;generalize ρ x=A at b h;generalize e x=V at b⊢;cases b with
 |@xZ g m j f=>
  simp at h;obtain⟨_,c,rfl,rfl⟩:=h;have d:i<g.size:=by have:=(aG.1 c).1;omega
  exact .pure (bJ _ (by simp[Instr.extract,cU d])) (f _ _ _ (cU d) c)
 |_=>simp at h
def Eu{first cap:Array Operand}(j:∀x∈first.toList,aS G ae w (e x) (ρ x))(k:∀x∈cap.toList,aS G ae w (e x) (ρ x)):
  Plain P G ae w (do pure (.value (<-Instr.makeFunc f (first.map e) (cap.map e)))) (.fn f (first.toList.map ρ) (cap.toList.map ρ)):=by
 refine .pure (v:=.func f (first.map e) (cap.map e)) (bJ _ (by simp[Instr.makeFunc])) (.fn (by simp) (by simp) (fun i v a c b=>?_) fun i v a c b=>?_)
 .simp[DU]at c b
  obtain⟨x,d,rfl⟩:=c;obtain⟨y,g,rfl⟩:=b;rw[d]at g;obtain rfl:=ax g;exact j _ (Array.mem_toList_iff.2 (D5 d))
 .simp[DU]at c b
  obtain⟨x,d,rfl⟩:=c;obtain⟨y,g,rfl⟩:=b;rw[d]at g;obtain rfl:=ax g;exact k _ (Array.mem_toList_iff.2 (D5 d))
def PW{e:Operand->Value}{ρ:Operand->AV}(d:aS G ae w (e c) (ρ c))(f:ρ c = .v (.bool B))(g:aS G ae w (if B then e a else e b) r):Plain P G ae w (do pure (.value (if<-asBool (e c)then e a else e b))) r:=by
 rw[f]at d;refine .pure ?_ g;rw[d.nU];simp[asBool]
def PX(h:PM op a b=some B)(w:World):(binOp op t (.int k a) (.int k b)).run P w = .ok (.bool B) w:=by
 cases op<;>simp[PM]at h<;>subst h<;>simp[binOp,Op.intCmp]
def oP(h:Gz op k a b=some n)(w:World):(Op.intBits op k a b).run P w = .ok (.int k n) w:=by
 cases op<;>simp[Gz]at h<;>subst h<;>simp[Op.intBits]
def qX(h:WH k n):k.wrap n=n:=by
 unfold WH at h;obtain⟨a,b⟩:=h;cases k<;>simp[IntKind.min,IntKind.max,IntKind.signed,IntKind.bits]at a b<;>simp[IntKind.wrap,IntKind.signed,IntKind.bits]<;>omega
def JO(g:PM op a b=none)(h:wa op k a b f=some (n,l))(d:∀q∈l,q)(i:op≠.shl)(j:op≠.shr)(w:World):
  (binOp op t (.int k a) (.int k b)).run P w = .ok (.int k n) w:=by
 have put:∀m:Int,(match f || !k.signed with|true=>some (k.wrap m,[])|false=>some (m,[WH k m]))=some (n,l)->k.wrap m=n:=by
  intro m c;cases hn:f || !k.signed with
  |false=>
   rw[hn]at c;simp at c;obtain⟨rfl,rfl⟩:=c;exact qX (d _ (by simp))
  |true=>
   rw[hn]at c;simp at c;exact c.1
 cases op<;>simp only[wa]at h
 case add=>have:=put _ h;simp[binOp,Op.intArith,this]
 case sub=>have:=put _ h;simp[binOp,Op.intArith,this]
 case mul=>have:=put _ h;simp[binOp,Op.intArith,this]
 case quo=>simp at h;obtain⟨rfl,rfl⟩:=h;have e:b≠0:=d _ (by simp);simp[binOp,Op.intDiv,e]
 case rem=>simp at h;obtain⟨rfl,rfl⟩:=h;have e:b≠0:=d _ (by simp);simp[binOp,Op.intDiv,e]
 case shl=>exact absurd rfl i
 case shr=>exact absurd rfl j
 case and=>simp at h;obtain⟨m,c,rfl,rfl⟩:=h;have:=oP (P:=P) c w;simp[binOp,this]
 case or=>simp at h;obtain⟨m,c,rfl,rfl⟩:=h;have:=oP (P:=P) c w;simp[binOp,this]
 case xor=>simp at h;obtain⟨m,c,rfl,rfl⟩:=h;have:=oP (P:=P) c w;simp[binOp,this]
 case andNot=>simp at h;obtain⟨m,c,rfl,rfl⟩:=h;have:=oP (P:=P) c w;simp[binOp,this]
 all_goals simp[PM]at g
def Cd(g:op = .shl\/op = .shr)(h:wa op k a b f=some (n,l))(c:∀q∈l,q)(w:World):
  (binOp op t (.int k a) (.int e b)).run P w = .ok (.int k n) w:=by
 rcases g with rfl|rfl<;>simp only[wa,ay,az]at h<;>obtain⟨rfl,rfl⟩:=h<;>have d:0<=b:=c _ (by simp)<;>simp[binOp,Op.shift,Int.not_lt.2 d]
def PY(h:Yk op a.data.toList b.data.toList=some B)(w:World):(binOp op t (.string a) (.string b)).run P w = .ok (.bool B) w:=by
 rw[<-ByteArray.toList_eq,<-ByteArray.toList_eq]at h;cases op<;>simp only[Yk]at h<;>first|(simp at h;done)|(simp only[ay]at h;subst h;simp[binOp,Op.stringOp])
def PZ(h:a.data.toList.length+b.data.toList.length<=9223372036854775807)(w:World):(binOp .add t (.string a) (.string b)).run P w = .ok (.string (a++b)) w:=by
 have d:a.size+b.size<=9223372036854775807:=by simpa using h
 have c:¬((a.size+b.size:Nat):Int)>IntKind.i64.max:=by simp[IntKind.max,IntKind.signed,IntKind.bits];omega
 simp only[binOp,Op.stringOp];rw[aN c];rfl
def P0(w:World):∃c w',(binOp .add t (.float k a) (.float k b)).run P w = .ok (.float k c) w'/\(w'=w\/w'=w.drew):=by
 simp only[binOp,Op.floatArith,ne_eq,not_true_eq_false,if_false];cases hr:k.format.add a b with
 |some r=>exact⟨r,w,by simp[hr],.inl rfl⟩
 |none=>
  by_cases d:(Question.nanBits k a b).forced=true
  .exact⟨0,w,by simp[hr,d],.inl rfl⟩
  .exact⟨_,w.drew,by simp[hr,d];rfl,.inr rfl⟩
def jz(w:World):(eqGuard op t x y (.int k a) (.int c b)).run P w = .ok () w:=by cases op<;>simp[eqGuard]
def qu(w:World):(eqGuard op t x y (.string a) (.string b)).run P w = .ok () w:=by cases op<;>simp[eqGuard]
def oQ(w:World):(eqGuard op t x y (.bool a) (.bool b)).run P w = .ok () w:=by cases op<;>simp[eqGuard]
def GF(h:P.underlying t=some (.struct a)):P.fieldsOf t=a:=by simp[Program.fieldsOf,h]
def Ce(d:Nat)(e:TypeId)(n:Nat)(X Y:Array Value):Nat->Nat->Sem Bool
 |0,_=>pure true
 |k+1,i=>do
  let a <-part e X (i*n)
  let b <-part e Y (i*n)
  let r <-Op.equalIn d e a b
  if(!r)=true then pure false else Ce d e n X Y k (i+1)
def run_equalIn_array(w:World)(d:Nat)(t:TypeId)(X Y:Array Value){len e n:Nat}(f:P.underlying t=some (.array len e))(c:cq P e=some n):
  (Op.equalIn (d+1) t (.agg X) (.agg Y)).run P w=(Ce d e n X Y len 0).run P w:=by
 have g:(Go.sizeOf e).run P w = .ok n w:=by
  unfold cq at c;obtain⟨i,m,rfl⟩:=bc.1 c;simp[Go.sizeOf,typeInfo,m]
 simp only[Op.equalIn,Sem.run_bind,run_underlying f,g,Result.andThen_ok,Std.Legacy.Range.forIn_eq_forIn_range',Std.Legacy.Range.size,Nat.sub_zero,Nat.add_sub_cancel,Nat.div_one];clear g f;generalize 0=i;induction len generalizing w i with
 |zero=>simp[Ce]
 |succ len o=>
  simp only[List.range'_succ,List.forIn_cons,Ce,Sem.run_bind,Sem.run_ite];generalize(part e X (i*n)).run P w=r1;cases r1 with
  |ok a j=>
   simp only[Result.andThen_ok];generalize(part e Y (i*n)).run P j=r2;cases r2 with
   |ok b k=>
    simp only[Result.andThen_ok];generalize(Op.equalIn d e a b).run P k=r3;cases r3 with
    |ok r l=>
     cases r
     .simp only[Result.andThen_ok,kh,if_true,Sem.run_pure]
     .simp only[Result.andThen_ok,ec,kj,if_false,Sem.run_pure]
      exact o l (i+1)
    |halt x l=>simp[Result.andThen]
   |halt x k=>simp[Result.andThen]
  |halt x j=>simp[Result.andThen]
def qv(agg:Bool)(X:Array Value):Value:=if agg then .agg X else X.getD 0 undef
def P1(a:JF P d t pre xs c=some A)(e:dn P t=some false):xs.length≠0/\c.length≠0:=by
 cases d with
 |zero=>simp[JF]at a
 |succ d=>
  simp only[JF]at a;split at a
  .simp
  .simp
  .simp
  .simp
  .rename_i b;simp[dn,b]at e
  .rename_i b;simp[dn,b]at e
  .simp at a
def LX:∀(d:Nat)(t:TypeId)(xs j:List PV)(B:Bool)(l:List Prop),JF P d t false xs j=some (B,l)->B=false:=by
 intro d;induction d with
 |zero=>intro t xs j B l h;simp[JF]at h
 |succ d o=>
  intro t xs j B l h;simp only[JF]at h;split at h
  .simp at h;exact h.1
  .split at h<;>simp at h;exact h.1
  .simp at h;exact h.1
  .split at h<;>simp at h;exact h.1
  .rename_i fields n
   split at h<;>try(simp at h;done)
   generalize fields.toList=k at h;induction k generalizing B l with
   |nil=>simp[eqFields]at h;exact h.1
   |cons f k p=>
    simp only[eqFields]at h;split at h
    .exact p _ _ h
    .split at h<;>try(simp at h;done)
     split at h<;>try(simp at h;done)
     rename_i a q c;obtain rfl:=o _ _ _ _ _ c;split at h<;>try(simp at h;done)
     rename_i b m g;simp at h;obtain⟨rfl,rfl⟩:=h;exact p _ _ g
  .rename_i len e n
   split at h<;>try(simp at h;done)
   clear n;generalize 0=i at h;induction len generalizing B l i with
   |zero=>simp[my]at h;exact h.1
   |succ len s=>
    simp only[my]at h;split at h<;>try(simp at h;done)
    rename_i a q c;obtain rfl:=o _ _ _ _ _ c;split at h<;>try(simp at h;done)
    rename_i b m g;simp at h;obtain⟨rfl,rfl⟩:=h;exact s _ _ _ g
  .simp at h
def Ev:∀(c:List Field)(B:Bool)(l:List Prop),eqFields P (JF P d) xs j c false=some (B,l)->B=false:=by
 intro c;induction c with
 |nil=>intro B l h;simp[eqFields]at h;exact h.1
 |cons f c e=>
  intro B l h;simp only[eqFields]at h;split at h
  .exact e _ _ h
  .split at h<;>try(simp at h;done)
   split at h<;>try(simp at h;done)
   rename_i a k g;obtain rfl:=LX _ _ _ _ _ _ g;split at h<;>try(simp at h;done)
   rename_i b m i;simp at h;obtain⟨rfl,rfl⟩:=h;exact e _ _ i
def GG:∀(len i:Nat)(B:Bool)(l:List Prop),my (JF P d e) n xs g len i false=some (B,l)->B=false:=by
 intro len;induction len with
 |zero=>intro i B l h;simp[my]at h;exact h.1
 |succ len j=>
  intro i B l h;simp only[my]at h;split at h<;>try(simp at h;done)
  rename_i a k c;obtain rfl:=LX _ _ _ _ _ _ c;split at h<;>try(simp at h;done)
  rename_i b m f;simp at h;obtain⟨rfl,rfl⟩:=h;exact j _ _ _ f
def uP{t o n:Nat}(c:dn P t=some a)(g:cq P t=some n)(b:a=false->(Z.extract o (o+n)).size≠0):(part t Z o).run P w = .ok (qv a (Z.extract o (o+n))) w:=by
 cases a with
 |true=>simp[qv,uO c g]
 |false=>
  have b:=b rfl;have d:o<Z.size:=by simp at b;omega
  have i:n≠0:=by intro f;apply b;rw[Array.size_extract,f];omega
  have e:qv false (Z.extract o (o+n))=Z[o]:=by
   simp only[qv,kj,if_false];rw[jE,D7,aJ (by omega)]
   simp[d]
  rw[e];exact pz c (cU d) w
def pA{Z:Array Value}{c:List PV}(f:Z.size=c.length)(e:∀(i:Nat)v p,Z[i]?=some v->c[i]?=some p->cf d w v p)(o n:Nat):
  (Z.extract o (o+n)).size=((c.drop o).take n).length/\(∀(i:Nat)v p,(Z.extract o (o+n))[i]?=some v->((c.drop o).take n)[i]?=some p->cf d w v p):=by
 refine⟨by simp;omega,fun i v p b a=>?_⟩
 rw[D7]at b;split at b<;>try(simp at b;done)
 rw[fv]at a;split at a<;>try(simp at a;done)
 rw[jx]at a;exact e _ _ _ b a
def UO:∀(d:Nat)(t:TypeId)(xs j:List PV)(B:Bool)(l:List Prop),JF P d t true xs j=some (B,l)->(∀q∈l,q)->∀(D:Nat),d<=D->∀(X Y:Array Value),
  X.size=xs.length->Y.size=j.length->(∀(i:Nat)v p,X[i]?=some v->xs[i]?=some p->cf G.bT w v p)->(∀(i:Nat)v p,Y[i]?=some v->j[i]?=some p->cf G.bT w v p)->
  ∃x,dn P t=some x/\(Op.equalIn D t (qv x X) (qv x Y)).run P w = .ok B w:=by
 intro d;induction d with
 |zero=>intro t xs j B l h;simp[JF]at h
 |succ d ih=>
  intro t xs j B l h T D hD X Y J K M Q;obtain⟨D,rfl⟩:∃m,D=m+1:=⟨D-1,by omega⟩
  have one:∀(Z:Array Value)(S:List PV)(p:PV),S=[p]->Z.size=S.length->(∀(i:Nat)v p,Z[i]?=some v->S[i]?=some p->cf G.bT w v p)->∃v,Z.getD 0 undef=v/\cf G.bT w v p:=by
   intro Z S p hz s hr;subst hz;have h0:0<Z.size:=by simp at s;omega
   exact⟨Z[0],by simp[h0],hr 0 _ p (cU h0) rfl⟩
  simp only[JF]at h;split at h
  .rename_i a b c
   simp at h;obtain⟨rfl,rfl⟩:=h;obtain⟨v,z,H⟩:=one X _ _ rfl J M;obtain⟨u,E,I⟩:=one Y _ _ rfl K Q;cases H;cases I;exact⟨false,by simp[dn,c],by simp[qv,z,E,run_equalIn_bool' w D t a b c]⟩
  .rename_i kk k a k' b c
   split at h<;>try(simp at h;done)
   rename_i V;subst V;simp at h;obtain⟨rfl,rfl⟩:=h;obtain⟨v,z,H⟩:=one X _ _ rfl J M;obtain⟨u,E,I⟩:=one Y _ _ rfl K Q;cases H;cases I;refine⟨false,by simp[dn,c],?_⟩
   simp[qv,z,E,Op.equalIn,run_underlying c]
  .rename_i a b c
   simp at h;obtain⟨rfl,rfl⟩:=h;obtain⟨v,z,H⟩:=one X _ _ rfl J M;obtain⟨u,E,I⟩:=one Y _ _ rfl K Q;cases H with
   |str s1=>
   cases I with
   |str s2=>
   refine⟨false,by simp[dn,c],?_⟩
   have e:(s1==s2)=(s1.data.toList==s2.data.toList):=by
    rw[beq_toListBytes,ByteArray.toList_eq,ByteArray.toList_eq]
   simp only[qv,kj,if_false,z,E,Op.equalIn,Sem.run_bind,run_underlying c,Result.andThen_ok,Sem.run_pure,e]
  .rename_i k ka a kb b c
   split at h<;>try(simp at h;done)
   rename_i V;obtain⟨rfl,rfl⟩:=V;simp only[ay,az]at h;obtain⟨rfl,rfl⟩:=h;obtain⟨ha,hb⟩:=T _ (cJ.2 rfl) (by trivial)
   obtain⟨v,z,H⟩:=one X _ _ rfl J M;obtain⟨u,E,I⟩:=one Y _ _ rfl K Q;refine⟨false,by simp[dn,c],?_⟩
   cases H with
   |GB=>simp at ha
   |nO _ r1 i1=>
    cases I with
    |GB=>simp at hb
    |nO _ r2 i2=>simp[qv,z,E,Op.equalIn,run_underlying c,eqC]
  .rename_i xs j x1 l1 l2 fields c
   split at h<;>try(simp at h;done)
   rename_i a3;refine⟨true,by simp[dn,c],?_⟩
   have U:=GF c;simp only[qv,if_true];rw[run_equalIn_struct w D t X Y (by rw[U];exact c) a3,U]
   clear U c;generalize fields.toList=fs at h;induction fs generalizing B l with
   |nil=>simp[eqFields]at h;obtain⟨rfl,rfl⟩:=h;simp[Op.eqFields]
   |cons f fs a2=>
    simp only[eqFields]at h;split at h
    .rename_i W
     have a0:f.name = "_" := by simpa using W
     simp only[Op.eqFields,a0,ne_eq,not_true_eq_false,if_false];exact a2 B l T h
    .rename_i W
     have a0:f.name ≠ "_" := by simpa using W
     split at h<;>try(simp at h;done)
     rename_i n s;split at h<;>try(simp at h;done)
     rename_i A lA F;split at h<;>try(simp at h;done)
     rename_i C lC R;simp at h;obtain⟨rfl,rfl⟩:=h;obtain⟨N,rX⟩:=pA J M f.offset n;obtain⟨O,rY⟩:=pA K Q f.offset n;obtain⟨x,r,a1⟩:=ih f.type _ _ A lA F (fun q y=>T q (ea _ y)) D (by omega) _ _ N O rX rY
     have L:x=false->((xs.drop f.offset).take n).length≠0/\((j.drop f.offset).take n).length≠0:=fun g=>P1 F (g▸r)
     have pX:=uP (w:=w) (Z:=X) (o:=f.offset) r s (fun g=>by rw[N];exact(L g).1)
     have pY:=uP (w:=w) (Z:=Y) (o:=f.offset) r s (fun g=>by rw[O];exact(L g).2)
     simp only[Op.eqFields,ne_eq,a0,not_false_eq_true,if_true,Sem.run_bind,pX,pY,Result.andThen_ok,a1];cases A with
     |true=>simp only[ec,kj,if_false];exact a2 C lC (fun q y=>T q (fw _ y)) R
     |false=>
      have:C=false:=Ev _ _ _ R;subst this;simp
  .rename_i xs j x1 l1 l2 len e c
   split at h<;>try(simp at h;done)
   rename_i n s;refine⟨true,by simp[dn,c],?_⟩
   simp only[qv,if_true];rw[run_equalIn_array w D t X Y c s];clear c;generalize 0=i at h⊢;induction len generalizing B l i with
   |zero=>simp only[my,ay,az]at h;obtain⟨rfl,rfl⟩:=h;simp[Ce]
   |succ len a4=>
    simp only[my]at h;split at h<;>try(simp at h;done)
    rename_i A lA F;split at h<;>try(simp at h;done)
    rename_i C lC R;simp only[ay,az]at h;obtain⟨rfl,rfl⟩:=h;obtain⟨N,rX⟩:=pA J M (i*n) n;obtain⟨O,rY⟩:=pA K Q (i*n) n;obtain⟨x,r,a1⟩:=ih e _ _ A lA F (fun q y=>T q (ea _ y)) D (by omega) _ _ N O rX rY
    have L:x=false->((xs.drop (i*n)).take n).length≠0/\((j.drop (i*n)).take n).length≠0:=fun g=>P1 F (g▸r)
    have pX:=uP (w:=w) (Z:=X) (o:=i*n) r s (fun g=>by rw[N];exact(L g).1)
    have pY:=uP (w:=w) (Z:=Y) (o:=i*n) r s (fun g=>by rw[O];exact(L g).2)
    simp only[Ce,Sem.run_bind,pX,pY,Result.andThen_ok,a1,Sem.run_ite];cases A with
    |true=>simp only[ec,kj,if_false];exact a4 C lC (fun q y=>T q (fw _ y)) _ R
    |false=>
     have:C=false:=GG _ _ _ _ R;subst this;simp
  .simp at h
def qw(w:World)(d:Nat)(a:P.underlying t=some (.interface ms)):(Op.equalIn (d+1) t .nilIface .nilIface).run P w = .ok true w:=by
 simp[Op.equalIn,run_underlying a]
def qx(w:World)(d:Nat)(a:P.underlying t=some (.interface ms)):(Op.equalIn (d+1) t (.iface b v) .nilIface).run P w = .ok false w:=by
 simp[Op.equalIn,run_underlying a]
def N1{e:Operand->Value}{t t':Nat}(d:aS G ae w (e x) (ρ x))(g:aS G ae w (e y) (ρ y))(h:plain P (.binOp op t x y t') an k ρ=some (a,l))(m:∀q∈l,q):Plain P G ae w (do pure (.value (<-(do eqGuard op t x y (e x) (e y);binOp op t (e x) (e y))))) a:=by
 simp only[plain]at h;generalize a3:ρ x=A at d h;generalize a4:ρ y=C at g h;generalize e x=V at d⊢;generalize e y=U at g⊢;have done:∀r:Value,(eqGuard op t x y V U).run P w = .ok () w->(binOp op t V U).run P w = .ok r w->aS G ae w r a->Plain P G ae w (do pure (.value (<-(do eqGuard op t x y V U;binOp op t V U)))) a:=by
  intro r Q T Z;exact .pure (bJ _ (by rw[Sem.run_bind,Q];exact T)) Z
 split at h
 .rename_i ka av kb bv
  have u:=d.gz;have v:=g.gz;subst u;subst v;split at h
  .obtain⟨⟨n,s⟩,p,f⟩:=bc.1 h
   simp only[ay,az]at f;obtain⟨rfl,rfl⟩:=f;exact done _ (jz w) (Cd (.inl rfl) p m w) (.mkInt _ _)
  .obtain⟨⟨n,s⟩,p,f⟩:=bc.1 h
   simp only[ay,az]at f;obtain⟨rfl,rfl⟩:=f;exact done _ (jz w) (Cd (.inr rfl) p m w) (.mkInt _ _)
  .rename_i a0 a1
   split at h<;>try(simp at h;done)
   rename_i D;subst D;split at h
   .rename_i B i
    simp at h;obtain⟨rfl,rfl⟩:=h;exact done _ (jz w) (PX i w) (.l4 _)
   .rename_i z
    obtain⟨⟨n,s⟩,p,f⟩:=bc.1 h;simp only[ay,az]at f;obtain⟨rfl,rfl⟩:=f;exact done _ (jz w) (JO z p m (fun e=>a0 e) (fun e=>a1 e) w) (.mkInt _ _)
 .obtain⟨s1,rfl,rfl⟩:=d.yU
  obtain⟨s2,rfl,rfl⟩:=g.yU;split at h
  .simp only[ay,az]at h
   obtain⟨rfl,rfl⟩:=h;exact done _ (qu w) (PZ (m _ (cJ.2 rfl)) w) (.mkStr _ _ (by simp))
  .obtain⟨B,i,f⟩:=bc.1 h
   simp only[ay,az]at f;obtain⟨rfl,rfl⟩:=f;exact done _ (qu w) (PY i w) (.l4 _)
 .have u:=d.nU
  have v:=g.nU;subst u;subst v;split at h<;>try(simp at h;done)
  .rename_i j
   simp at h;obtain⟨rfl,rfl⟩:=h;exact done _ (oQ w) (by simp[binOp,Op.equal,Op.maxDepth,run_equalIn_bool' w 9999 t _ _ j]) (.l4 _)
  .rename_i j
   simp at h;obtain⟨rfl,rfl⟩:=h;exact done _ (oQ w) (by simp[binOp,Op.equal,Op.maxDepth,run_equalIn_bool' w 9999 t _ _ j]) (.l4 _)
 .obtain⟨f1,rfl⟩:=d.Es
  obtain⟨f2,rfl⟩:=g.Es;split at h<;>try(simp at h;done)
  split at h<;>try(simp at h;done)
  rename_i D;subst D;simp only[ay,az]at h;obtain⟨rfl,rfl⟩:=h;obtain⟨c,w',S,W⟩:=P0 (P:=P) (t:=t) (a:=f1) (b:=f2) w;exact⟨_,w',bJ _ (by rw[Sem.run_bind,show(eqGuard .add t x y (.float _ f1) (.float _ f2)).run P w = .ok () w by simp[eqGuard]];exact S),W,.v (.WG _ c)⟩
 .rename_i xs J
  split at h<;>try(simp at h;done)
  rename_i E N;cases d with
  |@agg X _ R d=>
  cases g with
  |@agg Y _ L g=>
   have K:∀B l,JF P 20 t true xs J=some (B,l)->(∀q∈l,q)->(Op.equalIn 10000 t (.agg X) (.agg Y)).run P w = .ok B w:=by
    intro B l i O;obtain⟨ag,M,a2⟩:=UO (P:=P) 20 t xs J B l i O 10000 (by omega) X Y R L d g
    rw[N]at M;obtain rfl:=ax M;exact a2
   split at h<;>try(simp at h;done)
   .rename_i B s i
    simp only[ay,az]at h;obtain⟨rfl,rfl⟩:=h;exact .pure (bJ _ (by rw[Sem.run_bind,run_eqGuard_agg w .eql t x y X Y E,Result.andThen_ok,run_eql_struct,K B _ i m];rfl)) (.l4 _)
   .rename_i B s i
    simp only[ay,az]at h;obtain⟨rfl,rfl⟩:=h;exact .pure (bJ _ (by rw[Sem.run_bind,run_eqGuard_agg w .neq t x y X Y E,Result.andThen_ok,run_neq_struct,K B _ i m];rfl)) (.l4 _)
 .rename_i o
  obtain rfl:U = .nilIface:=by cases g;rfl
  have guard:∀c,y = .const c->(eqGuard op t x y V .nilIface).run P w = .ok () w:=by
   intro c z;subst z;have F:V = .nilIface\/∃t cs,V = .iface t cs:=by
    cases d with
    |qH=>exact .inl rfl
    |Cb I H=>exact .inr ⟨_,_,rfl⟩
   rcases F with rfl|⟨t,cs,rfl⟩<;>cases op<;>simp[eqGuard]
  split at h<;>try(simp at h;done)
  .rename_i c j
   simp only[ay,az]at h;obtain⟨rfl,rfl⟩:=h;refine done _ (guard _ rfl) ?_ (.l4 _);cases d with
   |qH=>simp[binOp,Op.equal,Op.maxDepth,qw w 9999 j]
   |Cb I H=>simp[binOp,Op.equal,Op.maxDepth,qx w 9999 j]
  .rename_i c j
   simp only[ay,az]at h;obtain⟨rfl,rfl⟩:=h;refine done _ (guard _ rfl) ?_ (.l4 _);cases d with
   |qH=>simp[binOp,Op.equal,Op.maxDepth,qw w 9999 j]
   |Cb I H=>simp[binOp,Op.equal,Op.maxDepth,qx w 9999 j]
 .simp at h
def P2{e:Operand->Value}{t:Nat}(c:aS G ae w (e x) (ρ x))(h:plain P (.unOp op t x) an k ρ=some (a,l)):Plain P G ae w (do pure (.value (<-Op.unary op (e x)))) a:=by
 simp only[plain]at h;generalize ρ x=A at c h;generalize e x=V at c⊢;split at h<;>try(simp at h;done)
 .have b:=c.nU
  subst b;simp only[ay,az]at h;obtain⟨rfl,rfl⟩:=h;exact .pure (bJ _ (by simp[Op.unary])) (.l4 _)
 .have b:=c.gz
  subst b;simp only[ay,az]at h;obtain⟨rfl,rfl⟩:=h;exact .pure (bJ _ (by simp[Op.unary,Op.intArith])) (.mkInt _ _)
 .have b:=c.gz
  subst b;obtain⟨m,f,d⟩:=bc.1 h;simp only[az]at d;obtain⟨rfl,rfl⟩:=d;exact .pure (bJ _ (by simp only[Op.unary];exact oP f w)) (.mkInt _ _)
def yV:∀(ak:List (List PV))(l:List UInt8),bytesOf ak=some l->∃a:List Int,ak=a.map (fun n=>[PV.int .u8 n])/\l=a.map fun n=>UInt8.ofNat n.toNat
 |[],l,h=>by simp[bytesOf]at h;subst h;exact⟨[],rfl,rfl⟩
 |r::d,l,h=>by
  unfold bytesOf at h;split at h
  .simp at*
  .rename_i n f e
   obtain⟨rfl,rfl⟩:=List.cons.inj e;obtain⟨m,c,b⟩:=bc.1 h;obtain⟨a,rfl,rfl⟩:=yV d m c;exact⟨n::a,rfl,b.symm⟩
  .simp at h
def foldl_push(a:List Int):∀(s:ByteArray),a.foldl (fun r n=>r.push (UInt8.ofNat n.toNat)) s=⟨s.data++(a.map fun n=>UInt8.ofNat n.toNat).toArray⟩:=by
 induction a with
 |nil=>intro s;simp
 |cons n a b=>
  intro s;simp only[List.foldl_cons,b,bH];congr 1
  simp[ByteArray.push]
def N2(g:cf G.bT w V (.sl 1 ak))(t:bytesOf ak=some l):
  (Conv.bytesToString V).run P w = .ok (.string ⟨l.toArray⟩) w:=by
 obtain⟨c,rfl,rfl⟩:=yV ak l t;generalize s:c.map (fun n=>[PV.int .u8 n])=R at g
 cases g with
 |mZ=>
  have:c=[]:=by cases c<;>simp_all
  subst this;simp[Conv.bytesToString];rfl
 |Jy a=>
  have:c=[]:=by cases c<;>simp_all
  subst this;have e:=run_loadCells (P:=P) w a 0 (fun _=>.int .u8 0) (fun j o=>by omega)
  rw[run_bytesToString w _ _ _ [] e];rfl
 |sl b off len cap n ak u hlen r D z v=>
  subst s;have h:len=c.length:=by rw[<-hlen];simp
  subst h;have x:∀i,i<c.length->w.cell? ⟨b,off+i,none⟩=some (.int .u8 (c.getD i 0)):=by
   intro i d;have p:j9 (c.map (fun n=>[PV.int .u8 n])) i 0=some (.int .u8 (c.getD i 0)):=by simp[j9,d]
   obtain⟨q,_⟩:=z i 0 _ p;have f:=v i 0 _ p;cases hpu:u i 0 with
   |int k m=>
    rw[hpu]at f q;cases f;simpa using q
   |_=>rw[hpu]at f;cases f
  have e:=run_loadCells (P:=P) w ⟨b,off,none⟩ c.length (fun i=>.int .u8 (c.getD i 0)) (fun j o=>by rw[nV];exact x j o)
  have y:(List.range c.length).map (fun i=>Value.int .u8 (c.getD i 0))=c.map (Value.int .u8):=by
   apply fu;intro i;by_cases d:i<c.length
   .simp[d]
   .simp[d,eE (Nat.le_of_not_lt d)]
  rw[y]at e;rw[run_bytesToString w _ _ _ c e,foldl_push];congr 2
  simp
def GH{e:Operand->Value}{s d:Nat}(i:aS G ae w (e x) (ρ x))(h:plain P (.convert s d x) an k ρ=some (a,l))(z:∀q∈l,q):Plain P G ae w (do pure (.value (<-convert s d (e x)))) a:=by
 simp only[plain]at h;generalize ρ x=A at i h;generalize e x=V at i⊢;split at h<;>try(simp at h;done)
 .rename_i f c
  have j:=i.gz;subst j;simp only[ay,az]at h;obtain⟨rfl,rfl⟩:=h;exact .pure (bJ _ (by simp[convert,run_underlying f,run_underlying c,Conv.intToInt])) (.mkInt _ _)
 .rename_i f c
  have j:=i.gz;subst j;simp only[ay,az]at h;obtain⟨rfl,rfl⟩:=h;exact .pure (v:=.float _ _) (bJ _ (by simp only[convert,Sem.run_bind,run_underlying f,run_underlying c,Result.andThen_ok,Conv.intToFloat,Sem.run_pure];rfl)) (.v (.WG _ _))
 .rename_i f c
  split at h<;>try(simp at h;done)
  rename_i ak n r;have y:∃g,bytesOf ak=some g/\a = .v (.str g):=by
   split at h
   .simp only[ay,az]at h
    obtain⟨rfl,rfl⟩:=h;exact⟨_,z _ (cJ.2 rfl),rfl⟩
   .obtain⟨g,o,t⟩:=bc.1 h
    simp only[az]at t;obtain⟨rfl,rfl⟩:=t;exact⟨g,o,rfl⟩
  obtain⟨g,o,rfl⟩:=y;have p:=i.ak r;refine .pure (bJ _ ?_) (.mkStr ⟨g.toArray⟩ g (by simp))
  have m:=N2 (P:=P) p o;cases p with
  |mZ=>rw[run_convert_bytes_string w s d _ none 0 0 f n c];exact m
  |Jy a=>rw[run_convert_bytes_string w s d _ _ 0 0 f n c];exact m
  |sl b off len cap I ak u hlen D H J E=>rw[run_convert_bytes_string w s d _ _ len cap f n c];exact m
def yW{lo l:Option Operand}(H:∀y∈lo,aS G ae w (e y) (ρ y))(D:∀y∈l,aS G ae w (e y) (ρ y)){len cap f a:Nat}(z:plain.bound (lo.map ρ) 0=some (f:Int))(h:plain.bound (l.map ρ) len=some (a:Int))(E:f<=a)(M:a<=len)(X:len<=cap):
  (Instr.sliceBounds b len cap (lo.map e) (l.map e) none).run P w = .ok (f,a,cap) w:=by
 have t:∀(o:Option Operand)(d:Nat)(v:Int),(∀y∈o,aS G ae w (e y) (ρ y))->plain.bound (o.map ρ) d=some v->(o=none/\v=d)\/∃k,o.map e=some (.int k v):=by
  intro o d v r g;cases o with
  |none=>simp[plain.bound]at g;exact .inl ⟨rfl,g.symm⟩
  |some y=>
   right
   simp only[cY,plain.bound]at g;split at g
   .simp at*
   .rename_i kk i u
    simp only[ay]at g u;subst g;have:=r y rfl;rw[u]at this;exact⟨kk,by simp[this.gz]⟩
   .simp at g
 have I:=t lo 0 f H z;have J:=t l len a D h;have j:∀(y:Nat)(k:IntKind)(v:Nat)(c:BoundsCode),v<=y->(Instr.sliceBound (.int k (v:Int)) y c).run P w = .ok v w:=by
  intro y k v c T;have:(v:Int)<=(y:Int):=by omega
  simp[Instr.sliceBound,asIntOf,this]
 rcases I with⟨rfl,Q⟩|⟨s,p⟩<;>rcases J with⟨rfl,K⟩|⟨q,x⟩
 .have m:f=0:=by omega
  have n:a=len:=by omega
  subst m;subst n;simp[Instr.sliceBounds]
 .have m:f=0:=by omega
  subst m;rw[x];simp[Instr.sliceBounds,j cap q a _ (by omega)]
 .have n:a=len:=by omega
  subst n;rw[p];simp[Instr.sliceBounds,j a s f _ (by omega)]
 .rw[p,x]
  simp[Instr.sliceBounds,j cap q a _ (by omega),j a s f _ E]
def uQ(f:a<=b)(e:b<=ak.length)(c:j9 ((ak.take b).drop a) i j=some p):i<b-a/\j9 ak (a+i) j=some p:=by
 have get:((ak.take b).drop a)[i]?=if i<b-a then ak[a+i]? else none:=by
  rw[jx,fv];by_cases d:i<b-a
  .rw[aJ d,aJ (by omega)]
  .rw[aN d,aN (by omega)]
 unfold j9 at c;rw[get]at c;split at c
 .rename_i d;exact⟨d,c⟩
 .simp at c
def N3{t:Nat}(K:aS G ae w (e x) (ρ x))(L:∀y∈lo,aS G ae w (e y) (ρ y))(C:∀y∈z,aS G ae w (e y) (ρ y))(h:plain P (.slice t x lo z R) an k ρ=some (a,l))(Z:∀q∈l,q):Plain P G ae w (do pure (.value (<-Instr.sliceAt t (e x) (lo.map e) (z.map e) (R.map e)))) a:=by
 simp only[plain]at h;split at h<;>try(simp at h;done)
 .rename_i e' J
  split at h<;>try(simp at h;done)
  rename_i n I;split at h<;>try(simp at h;done)
  rename_i ak a4;split at h<;>try(simp at h;done)
  rename_i W U M D;simp only[ay,az]at h;obtain⟨rfl,rfl⟩:=h;obtain⟨m,E,T⟩:=Z _ (cJ.2 rfl);have X:=K.ak a4;generalize e x=V at X⊢;obtain⟨c,rfl⟩:=iO m;obtain⟨d,rfl⟩:=iO (Int.le_trans m E);have o:c<=d:=by omega
  have g:d<=ak.length:=by omega
  have run:∀(A:Option Addr)(cap:Nat),ak.length<=cap->(Instr.sliceAt t (.slice A ak.length cap) (lo.map e) (z.map e) none).run P w = .ok (.slice (if cap=c then A else A.map (·.add (c*n))) (d-c) (cap-c)) w:=by
   intro A cap a2;have H:=yW (P:=P) (b:=true) L C M D o g a2;simp[Instr.sliceAt,Instr.slice,run_underlying J,H,dK I]
  simp only[uw,qQ];cases X with
  |mZ=>
   have r0:=run none 0 (by simp)
   refine .pure (bJ _ r0) (.v ?_);have:d=0:=by simpa using g
   subst this;have:c=0:=by omega
   subst this;exact .mZ _
  |Jy A=>
   have r0:=run (some A) 0 (by simp)
   refine .pure (bJ _ r0) (.v ?_);have:d=0:=by simpa using g
   subst this;have:c=0:=by omega
   subst this;exact .Jy _ _
  |sl b off len cap n ak u hlen N F a3 S=>
   subst hlen;have r0:=run (some ⟨b,off,none⟩) cap N;refine .pure (bJ _ r0) (.v ?_);have Y:((ak.take d).drop c).length=d-c:=by simp;omega
   by_cases B:cap=c
   .rw[aJ B]
    refine .sl b off _ _ n _ (fun _ _=>undef) Y (by omega) (fun r Q=>F r ?_) (fun i j p f=>?_) fun i j p f=>?_
    .exact sr (uA Q)
    .have:=(uQ o g f).1;omega
    .have:=(uQ o g f).1;omega
   .rw[aN B]
    simp only[cY,nV];refine .sl b (off+c*n) _ _ n _ (fun i j=>u (c+i) j) Y (by omega) (fun r Q=>F r ?_) (fun i j p f=>?_) fun i j p f=>S _ _ _ (uQ o g f).2
    .exact sr (uA Q)
    .obtain⟨a5,a1⟩:=uQ o g f
     have:=a3 _ _ _ a1;have O:off+c*n+i*n+j=off+(c+i)*n+j:=by rw[bZ];omega
     rw[O];exact this
 .rename_i J
  split at h<;>try(simp at h;done)
  rename_i s I;split at h<;>try(simp at h;done)
  rename_i W U M D;simp only[ay,az]at h;obtain⟨rfl,rfl⟩:=h;obtain⟨m,E,T⟩:=Z _ (cJ.2 rfl);rw[I]at K;obtain⟨b,H,rfl⟩:=K.yU;rw[H];obtain⟨c,rfl⟩:=iO m;obtain⟨d,rfl⟩:=iO (Int.le_trans m E);have hlen:b.data.toList.length=b.size:=by cases b;rfl
  rw[hlen]at D T;have a0:=yW (P:=P) (b:=false) (cap:=b.size) L C M D (by omega) (by omega) (ar _)
  simp only[uw,qQ];refine .pure (v:=.string (b.extract c d)) (bJ _ ?_) (.mkStr _ _ ?_)
  .simp[Instr.sliceAt,Instr.slice,run_underlying J,a0]
  .simp[ByteArray.data_extract,List.drop_take]
def UP(E:∀x∈args.toList,aS G ae w (e x) (ρ x))(H:o.op = .call {callee:=.builtin .len,args:=args,argTypes:=d})(h:plain P (.call {callee:=.builtin .len,args:=args,argTypes:=d}) an k ρ=some (a,l)):Plain P G ae w (execOp e o) a:=by
 simp only[plain]at h;split at h<;>try(simp at h;done)
 rename_i x t i r;have f:=E x (by rw[i];simp)
 have q:args = #[x]:=by rw[<-mX,i]
 have y:d = #[t]:=by rw[<-mX,r]
 subst q;subst y;have run:∀v,(Builtin.len_ #[t] o.type #[e x]).run P w = .ok v w->(execOp e o).run P w = .ok (.value v) w:=by
  intro v D;simp[execOp,H,resolve,invoke,builtin,D]
 split at h
 .rename_i c
  split at h<;>try(simp at h;done)
  rename_i n p;obtain⟨ak,m,j⟩:=bc.1 h;simp only[az]at j;obtain⟨rfl,rfl⟩:=j;have g:=f.ak m;refine .pure (run _ ?_) (.mkInt .i64 ak.length);generalize e x=V at g;cases g with
  |mZ=>simp[Builtin.len_,run_underlying c,goInt]
  |Jy a=>simp[Builtin.len_,run_underlying c,goInt]
  |sl b off len cap M ak u hlen J m Q K=>simp[Builtin.len_,run_underlying c,goInt,hlen]
 .rename_i n I c
  simp only[ay,az]at h;obtain⟨rfl,rfl⟩:=h;exact .pure (run _ (by simp[Builtin.len_,run_underlying c,goInt])) (.mkInt .i64 n)
 .rename_i s c p
  simp only[ay,az]at h;obtain⟨rfl,rfl⟩:=h;rw[p]at f;obtain⟨b,z,rfl⟩:=f.yU;exact .pure (run _ (by simp[Builtin.len_,run_underlying c,goInt,z])) (.mkInt .i64 _)
 .simp at h
def JP{ρ:Operand->AV}(h:args.toList.map ρ=[a]):∃x,args = #[x]/\ρ x=a:=by
 rcases hl:args.toList with _|⟨x,_|⟨y,l⟩⟩<;>rw[hl]at h<;>simp at h
 exact⟨x,by rw[<-mX,hl],h⟩
def Ew{ρ:Operand->AV}(h:args.toList.map ρ=[a,b]):∃x y,args = #[x,y]/\ρ x=a/\ρ y=b:=by
 rcases hl:args.toList with _|⟨x,_|⟨y,_|⟨z,l⟩⟩⟩<;>rw[hl]at h<;>simp at h
 exact⟨x,y,by rw[<-mX,hl],h.1,h.2⟩
def UQ(c:Array TypeId)(t:TypeId)(k:FloatKind)(a b:Nat):Builtin.real_ c t #[.complex k a b]=pure (.float k a):=rfl
def UR(c:Array TypeId)(t:TypeId)(k:FloatKind)(b a:Nat):Builtin.imag_ c t #[.complex k b a]=pure (.float k a):=rfl
def JQ(c:Array TypeId)(t:TypeId)(k:FloatKind)(b a:Nat):Builtin.complex_ c t #[.float k b,.float k a]=pure (.complex k b a):=by
 show(if k=k then pure (.complex k b a)else stuck "complex: parts of different kinds" : Sem Value)=_
 rw[aJ rfl]
def GI(c:∀x∈args.toList,aS G ae w (e x) (ρ x))(j:o.op = .call {callee:=.builtin f,args:=args,argTypes:=r})(h:plain P (.call {callee:=.builtin f,args:=args,argTypes:=r}) an k ρ=some (a,l))(Q:∀q∈l,q):Plain P G ae w (execOp e o) a:=by
 cases f<;>try(simp[plain]at h;done)
 case len=>exact UP c j h
 case real=>
  simp only[plain]at h;split at h<;>try(simp at h;done)
  rename_i kk J b;simp only[ay,az]at h;obtain⟨rfl,rfl⟩:=h;obtain⟨x,rfl,d⟩:=JP b;have:=c x (by simp)
  rw[d]at this;obtain⟨z,t,p⟩:=this.LW;exact .pure (v:=.float kk z) (by simp[execOp,j,resolve,invoke,builtin,UQ,p]) (.v (.WG _ _))
 case imag=>
  simp only[plain]at h;split at h<;>try(simp at h;done)
  rename_i kk J b;simp only[ay,az]at h;obtain⟨rfl,rfl⟩:=h;obtain⟨x,rfl,d⟩:=JP b;have:=c x (by simp)
  rw[d]at this;obtain⟨z,t,p⟩:=this.LW;exact .pure (v:=.float kk t) (by simp[execOp,j,resolve,invoke,builtin,UR,p]) (.v (.WG _ _))
 case complex=>
  simp only[plain]at h;split at h<;>try(simp at h;done)
  rename_i s u b;split at h<;>try(simp at h;done)
  rename_i m;subst m;simp only[ay,az]at h;obtain⟨rfl,rfl⟩:=h;obtain⟨x,y,rfl,d,n⟩:=Ew b;have g:=c x (by simp)
  have i:=c y (by simp)
  rw[d]at g;rw[n]at i;obtain⟨H,K⟩:=g.Es;obtain⟨I,M⟩:=i.Es;exact .pure (v:=.complex s H I) (by simp[execOp,j,resolve,invoke,builtin,JQ,K,M]) (.v (.GB _ _ _))
 case max=>
  simp only[plain]at h;split at h<;>try(simp at h;done)
  rename_i s D u E b;split at h<;>try(simp at h;done)
  rename_i m;subst m;simp only[ay,az]at h;obtain⟨rfl,rfl⟩:=h;obtain⟨x,y,rfl,d,n⟩:=Ew b;have g:=c x (by simp)
  have i:=c y (by simp)
  rw[d]at g;rw[n]at i;exact .pure (by simp[execOp,j,resolve,invoke,builtin,Builtin.max_,Builtin.max2,g.gz,i.gz]) (.mkInt _ _)
 case min=>
  simp only[plain]at h;split at h<;>try(simp at h;done)
  rename_i s D u E b;split at h<;>try(simp at h;done)
  rename_i m;subst m;simp only[ay,az]at h;obtain⟨rfl,rfl⟩:=h;obtain⟨x,y,rfl,d,n⟩:=Ew b;have g:=c x (by simp)
  have i:=c y (by simp)
  rw[d]at g;rw[n]at i;exact .pure (by simp[execOp,j,resolve,invoke,builtin,Builtin.min_,Builtin.min2,g.gz,i.gz]) (.mkInt _ _)
def mz(a:Nat->Nat)(w:World)(X:Array Value)(ps:List PV):Prop:=X.size=ps.length/\∀(i:Nat)v p,X[i]?=some v->ps[i]?=some p->cf a w v p
def nW(G:Gh)(ae:List (Option Nat))(w:World)(X:Array Value)(cs:List AV):Prop:=
 X.size=cs.length/\∀(i:Nat)v a,X[i]?=some v->cs[i]?=some a->v.oneCell'=true/\aS G ae w v a
def GJ(h:UL v=some p)(a:Nat->Nat)(w:World):cf a w v p:=by
 unfold UL at h;split at h<;>simp at h<;>subst h
 .exact .bool _
 .exact .int _ _
 .exact .str _
 .exact .nO _ _ _
 .exact .nil
def Cf:∀(d:List Value)(ps:List PV),Gx d=some ps->∀(a:Nat->Nat)(w:World),mz a w d.toArray ps
 |[],ps,h,a,w=>by simp[Gx]at h;subst h;exact⟨rfl,by simp⟩
 |v::d,ps,h,a,w=>by
  unfold Gx at h;split at h<;>try(simp at h;done)
  rename_i p k g j;simp at h;subst h;obtain⟨e,f⟩:=Cf d k j a w;refine⟨by simpa using e,fun i u q c b=>?_⟩
  cases i with
  |zero=>simp at c b;subst c;subst b;exact GJ g a w
  |succ i=>simp at c b;exact f i u q (by simpa using c) b
def lI(v:Value)(G:Gh)(ae:List (Option Nat))(w:World):aS G ae w v (mw v):=by
 unfold mw;split
 .split
  .rename_i h
   have:=Cf _ _ h G.bT w;exact .agg (by simpa using this.1) fun i v p a b=>this.2 i v p (by simpa using a) b
  .exact .none _
 .exact .qH
 .split
  .exact .v (GJ (by assumption) _ _)
  .exact .none _
def Ey(h:v.oneCell'=true):(mw v).xq=true:=by
 unfold mw;split
 .simp[Value.oneCell']at h
 .rfl
 .split<;>rfl
def yX(h:Ef P t=some z):∃v,(∀w,(zeroValue t).run P w = .ok v w)/\z.all AV.xq=true/\∀G ae w,nW G ae w v.cells z:=by
 unfold Ef at h;obtain⟨v,g,h⟩:=cQ.1 h;split at h<;>try(simp at h;done)
 rename_i l;simp only[ay]at h;subst h;obtain⟨i,f,k⟩:=cQ.1 g;have c:∀x∈v.cells.toList,x.oneCell'=true:=bf.1 l;refine⟨v,fun w=>by simp[zeroValue,typeInfo,f,k],?_,fun G ae w=>⟨by simp,fun j u a e d=>?_⟩⟩
 .simp only[List.all_map,bf]
  exact fun x b=>Ey (c x b)
 .simp only[bw]at d
  obtain⟨x,b,rfl⟩:=bc.1 d;have:x=u:=by rw[hQ]at b;rw[b]at e;exact(ax e)
  subst this;exact⟨c x (aM b),lI _ _ _ _⟩
def Cg(h:qS P t=some z):∃v,(∀w,(zeroValue t).run P w = .ok v w)/\z=mw v:=by
 unfold qS at h;obtain⟨v,b,rfl⟩:=bc.1 h;obtain⟨i,a,c⟩:=cQ.1 b;exact⟨v,fun w=>by simp[zeroValue,typeInfo,a,c],rfl⟩
def mz.one(h:cf c w v p):mz c w v.cells [p]:=by
 rw[h.cells];refine⟨rfl,fun i u q b a=>?_⟩
 cases i with
 |zero=>simp at b a;subst b;subst a;exact h
 |succ i=>simp at a
def aS.bits{v:Value}(h:aS G ae w v a)(b:a.bits=some r):mz G.bT w v.cells r:=by
 cases h with
 |agg c h=>simp[AV.bits]at b;subst b;exact⟨c,h⟩
 |v h=>simp[AV.bits,AV.pv]at b;subst b;exact .one h
 |own e f h d=>simp[AV.bits,AV.pv]at b;subst b;exact .one h
 |_=>simp[AV.bits,AV.pv]at b
def yY:∀(a:List CT)(ps:List PV)(i:Nat)(q:PV),(kT a ps)[i]?=some q->∃p c,ps[i]?=some p/\(q=p\/q=CT.norm c p)
 |[],ps,i,q,h=>⟨q,.other,by simpa[kT]using h,.inl rfl⟩
 |c::a,[],i,q,h=>by simp[kT]at h
 |c::a,p::ps,0,q,h=>by simp[kT]at h;exact⟨p,c,rfl,.inr h.symm⟩
 |c::a,p::ps,i+1,q,h=>by simp only[kT,sx]at h⊢; exact yY a ps i q h
def tf:∀(a:List CT)(ps:List PV),(kT a ps).length=ps.length
 |[],ps=>by simp[kT]
 |c::a,[]=>rfl
 |c::a,p::ps=>by simp[kT,tf]
def mz.norm(f:List CT)(h:mz d w X ps):mz d w X (kT f ps):=by
 refine⟨by rw[tf];exact h.1,fun i v q b e=>?_⟩
 obtain⟨p,c,a,rfl|rfl⟩:=yY _ _ _ _ e
 .exact h.2 _ _ _ b a
 .exact(h.2 _ _ _ b a).norm c
def aS.row{v:Value}(h:aS G ae w v a)(b:rowOf P t a=some r):mz G.bT w v.cells r:=by
 unfold rowOf at b;obtain⟨ps,c,rfl⟩:=bc.1 b;exact(h.bits c).norm _
def aS.norm{v:Value}(h:aS G ae w v a):aS G ae w v (yQ P t a):=by
 unfold yQ;split
 .cases h with
  |v h=>split<;>first|exact .v (h.norm _)|exact .v h
 .cases h with
  |agg b h=>
   have:=mz.norm (ko P t) (⟨b,h⟩:mz G.bT w _ _);exact .agg this.1 this.2
 .exact h
def gV:∀(xs:List α)(l:List α)(off k:Nat),off+xs.length<=l.length->(putAt l off xs)[k]?=if off<=k/\k<off+xs.length then xs[k-off]? else l[k]?
 |[],l,off,k,h=>by rw[aN (by simp only[cN];omega)];rfl
 |x::xs,l,off,k,h=>by
  simp only[aE]at h;rw[putAt,gV xs (l.set off x) (off+1) k (by simp;omega)]
  by_cases a:off+1<=k/\k<off+1+xs.length
  .rw[aJ a,aJ ⟨by omega,by simp only[aE];omega⟩]
   have:k-off=(k-(off+1))+1:=by omega
   rw[this,sx]
  .rw[aN a]
   by_cases b:k=off
   .subst b
    rw[aJ ⟨ar _,by simp only[aE];omega⟩,bQ (by omega),lG,yo]
   .rw[aN (by simp only[aE];omega),bP (by omega)]
def iS:∀(xs:List α)(l:List α)(off:Nat),(putAt l off xs).length=l.length
 |[],l,off=>rfl
 |x::xs,l,off=>by rw[putAt,iS xs];simp
def foldl_set(X:Array Value)(off:Nat):∀(l:List Value)(i:Nat),((l.zipIdx i).foldl (fun cs(c,j)=>cs.setIfInBounds (off+j) c) X).size=X.size /\
  ∀k,((l.zipIdx i).foldl (fun cs(c,j)=>cs.setIfInBounds (off+j) c) X)[k]?=if off+i<=k/\k<off+i+l.length/\k<X.size then l[k-(off+i)]? else X[k]?:=by
 intro l;induction l generalizing X with
 |nil=>intro i;refine⟨rfl,fun k=>?_⟩;rw[aN (by simp;omega)];rfl
 |cons x l g=>
  intro i;simp only[List.zipIdx_cons,List.foldl_cons];obtain⟨e,f⟩:=g (X.setIfInBounds (off+i) x) (i+1);refine⟨by rw[e];simp,fun k=>?_⟩
  rw[f];simp only[Array.size_setIfInBounds,aE];by_cases a:off+(i+1)<=k/\k<off+(i+1)+l.length/\k<X.size
  .rw[aJ a,aJ ⟨by omega,by omega,a.2.2⟩]
   have:k-(off+i)=(k-(off+(i+1)))+1:=by omega
   rw[this,sx]
  .rw[aN a,Array.getElem?_setIfInBounds]
   by_cases d:off+i=k
   .subst d
    by_cases b:off+i<X.size
    .rw[aJ rfl,aJ b,aJ ⟨by omega,by omega,b⟩];simp
    .rw[aJ rfl,aN b,aN (by omega)]
     exact(sw (by omega)).symm
   .rw[aN d,aN (by omega)]
def nW.put(h:nW G ae w X ps)(l:nW G ae w C r)(m:off+r.length<=ps.length):
  nW G ae w (C.zipIdx.foldl (fun cs(c,j)=>cs.setIfInBounds (off+j) c) X) (putAt ps off r):=by
 obtain⟨g,k⟩:=h;obtain⟨n,f⟩:=l;have e:C.zipIdx.foldl (fun cs(c,j)=>cs.setIfInBounds (off+j) c) X=(C.toList.zipIdx 0).foldl (fun cs(c,j)=>cs.setIfInBounds (off+j) c) X:=by
  rw[<-Array.foldl_toList];simp
 rw[e];obtain⟨f1,f2⟩:=foldl_set X off C.toList 0;refine⟨by rw[f1,iS,g],fun i v p a b=>?_⟩
 rw[f2]at a;rw[gV r ps off i m]at b;simp only[ik,mu]at a;by_cases d:off<=i/\i<off+r.length
 .rw[aJ d]at b
  rw[aJ ⟨d.1,by omega,by omega⟩]at a
  exact f _ _ _ (by simpa using a) b
 .rw[aN d]at b
  rw[aN (by omega)]at a
  exact k _ _ _ a b
def aS.soft{v:Value}(h:aS G ae w v a):aS G ae w v a.soft:=by
 cases h with
 |own o p h n=>exact .v h
 |none v=>exact .none _
 |v h=>exact .v h
 |agg e h=>exact .agg e h
 |Ee e c d h=>exact .Ee e c d h
 |aB b h=>exact .aB b h
 |jn b c h=>exact .jn b c h
 |fV b c h=>exact .fV b c h
 |kS u k l=>exact .kS u k l
 |bA b d=>exact .bA b d
 |mp b d=>exact .mp b d
 |fn f g i j=>exact .fn f g i j
 |xZ f g=>exact .xZ f g
 |qH=>exact .qH
 |Cb e h=>exact .Cb e h
 |opt h m=>exact .opt h m
def aS.JR{v:Value}(h:aS G ae w v a)(g:a.cells.all AV.inner=true):nW G ae w v.cells a.cells:=by
 have one:∀{v:Value}{a:AV},aS G ae w v a->v.oneCell'=true->nW G ae w v.cells [a]:=by
  intro v a h b;rw[ot b];refine⟨rfl,fun i u q d c=>?_⟩
  cases i with
  |zero=>simp at d c;subst d;subst c;exact⟨b,h⟩
  |succ i=>simp at c
 cases h with
 |none v=>simp[AV.cells,AV.inner]at g
 |v h=>exact one (.v h) h.fZ
 |agg f h=>
  refine⟨by simp[Value.cells,AV.cells,f],fun i u q d c=>?_⟩
  simp only[AV.cells,bw]at c;obtain⟨p,j,rfl⟩:=bc.1 c;have:=h i u p (by simpa[Value.cells]using d) j
  exact⟨this.fZ,.v this⟩
 |Ee f k b h=>exact⟨f,fun i u q d c=>⟨b i u (by simpa[Value.cells]using d),h i u q (by simpa[Value.cells]using d) c⟩⟩
 |aB e h=>exact one (.aB e h) rfl
 |bA e b=>exact one (.bA e b) b
 |mp e b=>exact one (.mp e b) b
 |_=>simp[AV.cells,AV.inner]at g
def GK{a:AV}(h:a.inner=true):a.xq=true:=by cases a<;>simp[AV.inner]at h<;>rfl
def Ci:∀(xs:List α)(l:List α)(off:Nat),x∈putAt l off xs->x∈l\/x∈xs
 |[],l,off,h=>.inl h
 |y::xs,l,off,h=>by
  rw[putAt]at h;rcases Ci xs _ _ h with h|h
  .rcases uF h with h|h
   .exact .inl h
   .exact .inr (by simp[h])
  .exact .inr (aW _ h)
def GL{e:Operand->Value}{ρ:Operand->AV}:∀(ps:List (Nat×Operand))(X:Array Value)(cs a:List AV),
  jS place ρ ps cs=some a->nW G ae w X cs->cs.all AV.xq=true->(∀p∈ps,aS G ae w (e p.2) (ρ p.2))->∃c,Instr.fill place X (ps.map fun p=>(p.1,e p.2))=some c/\nW G ae w c a/\a.all AV.xq=true
 |[],X,cs,a,h,d,f,_=>by simp[jS]at h;subst h;exact⟨X,rfl,d,f⟩
 |(i,x)::ps,X,cs,a,h,d,f,m=>by
  unfold jS at h;split at h<;>try(simp at h;done)
  rename_i off r z;split at h<;>try(simp at h;done)
  rename_i o;simp only[cb,beq_iff_eq,fF]at o;obtain⟨⟨u,D⟩,k⟩:=o;have l:=(m (i,x) (by simp)).soft.JR k
  have g:=d.put (off:=off) l (show off+(ρ x).soft.cells.length<=cs.length by omega)
  have v:(putAt cs off (ρ x).soft.cells).all AV.xq=true:=by
   rw[bf]at f k⊢;intro y b;rcases Ci _ _ _ b with b|b
   .exact f y b
   .exact GK (k y b)
  obtain⟨c,q,s,t⟩:=GL ps _ _ a h g v (fun p g=>m p (aW _ g))
  refine⟨c,?_,s,t⟩;have j:(e x).cells.size=r:=by rw[l.1,u]
  have n:¬(off+(e x).cells.size>X.size):=by rw[j,d.1];omega
  simp only[bH,Instr.fill,z,j,ne_eq,not_true_eq_false,decide_false,mS,fF];rw[j]at n;rw[aN n];exact q
def tp:∀(cs:List AV)(ps:List PV),sy cs=some ps->cs=ps.map .v
 |[],ps,h=>by simp[sy]at h;subst h;rfl
 |a::cs,ps,h=>by
  cases a<;>simp only[sy]at h<;>try(simp at h;done)
  obtain⟨c,b,rfl⟩:=bc.1 h;simp[<-tp cs c b]
def nW.Ca{X:Array Value}{cs:List AV}(h:nW G ae w X cs)(e:cs.all AV.xq=true):aS G ae w (.agg X) (Ca cs):=by
 unfold Go.Ac.Ca;split
 .rename_i ps c
  obtain rfl:=tp _ _ c;refine .agg (by simpa using h.1) fun i v p b c=>?_
  have:=(h.2 i v (.v p) b (by simp[c])).2
  cases this with|v h=>exact h
 .exact .Ee h.1 (bf.1 e) (fun i v b=>by
   have f:i<cs.length:=by rw[<-h.1];exact(gZ.1 b).1
   exact(h.2 i v _ b (bo f)).1) fun i v a b d=>(h.2 i v a b d).2
def x4{fields:Array Field}(h:fields.toList.all (fun f:Field=>(cq P f.type).isSome)=true)(w:World):
  ∃places:Array (Nat×Nat),(fields.mapM fun f:Field=>(do pure (f.offset,<-sizeOf f.type):Sem (Nat×Nat))).run P w = .ok places w /\
   ∀i:Nat,places[i]?=(match fields[i]? with|some f=>(cq P f.type).map fun n=>(f.offset,n)|none=>none):=by
 have key:∀(l:List Field),l.all (fun f=>(cq P f.type).isSome)=true->∃ps:List (Nat×Nat),(l.mapM fun f:Field=>(do pure (f.offset,<-sizeOf f.type):Sem (Nat×Nat))).run P w = .ok ps w /\
   ∀i:Nat,ps[i]?=(match l[i]? with|some f=>(cq P f.type).map fun n=>(f.offset,n)|none=>none):=by
  intro l;induction l with
  |nil=>intro _;exact⟨[],by simp,by simp⟩
  |cons f l e=>
   intro c;simp only[bG,cb]at c;obtain⟨ps,a,b⟩:=e c.2;obtain⟨n,d⟩:=uD.1 c.1;refine⟨(f.offset,n)::ps,by simp only[List.mapM_cons,Sem.run_bind,dK d,Result.andThen_ok,Sem.run_pure,a],fun i=>?_⟩
   cases i with
   |zero=>simp[d]
   |succ i=>simpa using b i
 obtain⟨ps,a,b⟩:=key fields.toList h;refine⟨ps.toArray,?_,fun i=>by simpa using b i⟩
 rw[Array.mapM_eq_mapM_toList,Sem.run_map,a];rfl
def N4{e:Operand->Value}{t:Nat}(J:∀p∈aT.toList,aS G ae w (e p.2) (ρ p.2))(h:plain P (.build t aT) an k ρ=some (a,l)):Plain P G ae w (do pure (.value (<-Instr.build t (aT.map fun(i,x)=>(i,e x))))) a:=by
 simp only[plain]at h;split at h<;>try(simp at h;done)
 rename_i z pl K b;obtain⟨M,D,g⟩:=bc.1 h;simp only[az]at g;obtain⟨rfl,rfl⟩:=g;obtain⟨o,y,T,r⟩:=yX K;obtain⟨c,j,q,s⟩:=GL (e:=e) aT.toList o.cells z M D (r _ _ _) T J;have u:(aT.map fun(i,x)=>(i,e x)).toList=aT.toList.map fun p=>(p.1,e p.2):=by simp
 unfold placesOf at b;split at b
 .rename_i fields d
  split at b<;>try(simp at b;done)
  rename_i X;simp only[ay]at b;subst b;obtain⟨places,E,H⟩:=x4 X w;have Y:(fun i:Nat=>places[i]?)=(fun i:Nat=>match fields[i]? with|some f=>(cq P f.type).map fun n=>(f.offset,n)|none=>none):=funext H
  have Q:Instr.fill (fun i:Nat=>places[i]?) o.cells (aT.toList.map fun p=>(p.1,e p.2))=some c:=by rw[Y];exact j
  refine .pure (bJ (v:=.agg c) _ ?_) (q.Ca s);simp only[Instr.build,Sem.run_bind,y,Result.andThen_ok,run_underlying d,E,u,Q];rfl
 .rename_i n elem d
  obtain⟨m,I,rfl⟩:=bc.1 b;refine .pure (bJ (v:=.agg c) _ ?_) (q.Ca s);simp only[Instr.build,Sem.run_bind,y,Result.andThen_ok,run_underlying d,dK I,u,j];rfl
 .simp at b
def uR{e:Operand->Value}{t:Nat}(f:aS G ae w (e x) (ρ x))(h:plain P (.makeInterface t x) an k ρ=some (a,l)):Plain P G ae w (do pure (.value (<-Instr.makeInterface t (e x)))) a:=by
 simp only[plain]at h;have run:∀d,P.underlying t=some d->(∀ms,d≠.interface ms)->(Instr.makeInterface t (e x)).run P w = .ok (.iface t (e x)) w:=by
  intro d b g;cases d<;>first|(exact absurd rfl (g _))|simp[Instr.makeInterface,run_underlying b]
 split at h<;>try(simp at h;done)
 .rename_i c
  split at h<;>try(simp at h;done)
  rename_i cs j;simp only[ay,az]at h;obtain⟨rfl,rfl⟩:=h;refine .pure (bJ _ (run _ c (by simp))) ?_
  rw[j]at f;generalize e x=V at f;cases f with
  |agg i h=>exact .Cb i h
 .rename_i d m n c
  simp only[ay,az]at h;obtain⟨rfl,rfl⟩:=h;exact .pure (bJ _ (run _ c (fun ms b=>m ms b))) (.none _)
def yZ{e:Operand->Value}{y t:Nat}(m:aS G ae w (e x) (ρ x))(h:plain P (.typeAssert x y t ok) an k ρ=some (a,l))(u:∀q∈l,q):Plain P G ae w (do pure (.value (<-Instr.typeAssert (e x) y t ok))) a:=by
 cases k<;>simp only[plain]at h<;>try(simp at h;done)
 rename_i o;generalize ρ x=A at m h;generalize e x=V at m⊢;split at h<;>try(simp at h;done)
 .rename_i i H g
  split at h<;>try(simp at h;done)
  .rename_i cs
   simp only[ay,az]at h;obtain⟨rfl,rfl⟩:=h;have f:i=some (t,cs):=u _ (by simp)
   subst f;cases m with
   |@Cb _ s _ p n=>
    refine .pure (v:=.tuple #[.agg s,.bool true]) (bJ _ ?_) (.xZ rfl fun j v b d c=>?_)
    .simp[Instr.typeAssert,run_underlying g]
    .match j with
     |0=>simp at d c;subst d;subst c;exact .agg p n
     |1=>simp at d c;subst d;subst c;exact .l4 _
     |j+2=>simp at c
  .rename_i z J
   simp only[ay,az]at h;obtain⟨rfl,rfl⟩:=h;have f:∀cs,i≠some (t,cs):=u _ (by simp)
   obtain⟨r,D,M⟩:=Cg J;have E:=lI r G ae w;rw[<-M]at E;refine .pure (v:=.tuple #[r,.bool false]) (bJ _ ?_) (.xZ rfl fun j v b d c=>?_)
   .cases m with
    |qH=>simp[Instr.typeAssert,run_underlying g,D]
    |@Cb K s ps p n=>
     have:K≠t:=fun I=>f ps (by rw[I])
     simp[Instr.typeAssert,run_underlying g,D,this]
   .match j with
    |0=>simp at d c;subst d;subst c;exact E
    |1=>simp at d c;subst d;subst c;exact .l4 _
    |j+2=>simp at c
 .rename_i i H g
  split at h<;>try(simp at h;done)
  rename_i cs;simp only[ay,az]at h;obtain⟨rfl,rfl⟩:=h;have f:i=some (t,cs):=u _ (by simp)
  subst f;cases m with
  |@Cb _ s _ p n=>exact .pure (v:=.agg s) (bJ _ (by simp[Instr.typeAssert,run_underlying g])) (.agg p n)
end
section
variable {P:Program} {w0:World} {aR:Nat->Nat} {O:Nat->Prop} {G:Gh} {ae:List (Option Nat)} {heap:List Bx} {w:World}
def Hd.on(b:Nat):Hd->Prop
 |.box b'=>b'=b
 |.cell b' _=>b'=b
 |.oq b' _=>b'=b
 |.tok _=>False
def ck.low(k:ck G ae w a bz w'):ck G [] w a [] w':=
 ⟨k.grow,k.bC,k.val,ar _,fun t n h _=>by simp at h⟩
def eI.bD(h:eI G w x v a)(k:ck G [] w b [] w')(d:∀n,G.h x=some n->b.h x=some n/\b.bT n=G.bT n/\w'.heap[n]?=w.heap[n]?):eI b w' x v a:=by
 refine⟨h.1,?_⟩;have c:=h.2;cases a with
 |j8 n ak=>
  obtain⟨A,len,cap,e,f,g⟩:=c;exact⟨A,len,cap,e,f.grow k.grow,g.bD d⟩
 |_=>exact aS.bD k c
def mH(h:∀ps,a≠.agg ps):oO G w x v a<->eI G w x v a:=by
 cases a<;>first|exact absurd rfl (h _)|exact Iff.rfl
def oO.bD(h:oO G w x v a)(k:ck G [] w b [] w')(e:∀n,G.h x=some n->b.h x=some n/\b.bT n=G.bT n/\w'.heap[n]?=w.heap[n]?):oO b w' x v a:=by
 by_cases c:∃ps,a = .agg ps
 .obtain⟨ps,rfl⟩:=c
  exact aS.bD k h
 .have d:∀ps,a≠.agg ps:=fun ps h=>c ⟨ps,h⟩
  exact(mH d).2 (((mH d).1 h).bD k e)
def gr.bD(h:gr P G w b bx)(k:ck G [] w m [] w')(J:bx = .free->¬m.bC b)(u:∀x n,x.on b->G.h x=some n->m.h x=some n/\m.bT n=G.bT n/\w'.heap[n]?=w.heap[n]?):gr P m w' b bx:=by
 cases bx with
 |cells cs=>
  obtain⟨g,X,elem,c,s,z,r,y,E,l⟩:=h;obtain⟨o,D,q⟩:=u (.box b) g rfl s;exact⟨g,X,elem,k.bC _ c,o,(k.val _ c).trans z,q.trans r,y,D.trans E,fun j v a d f=>(l j v a d f).bD k fun n H=>u _ n rfl H⟩
 |bk n ak=>
  obtain⟨c,I,h|⟨d,A,f⟩⟩:=h
  .obtain⟨g,X,elem,cap,s,z,Q,r,y,E,l⟩:=h
   obtain⟨o,D,q⟩:=u (.box b) g rfl s;exact⟨k.bC _ c,I,.inl ⟨g,X,elem,cap,o,(k.val _ c).trans z,Q,q.trans r,y,D.trans E,fun i j v p d f=>(l i j v p d f).grow k.grow⟩⟩
  .exact⟨k.bC _ c,I,.inr ⟨d,A,(k.val _ c).trans f⟩⟩
 |uH n ak=>exact⟨k.bC _ h.1,by rw[k.val _ h.1];exact h.2.grow k.grow⟩
 |map t Y=>
  obtain⟨g,T,clock,c,s,z,r,y,K,M,l⟩:=h;obtain⟨o,D,q⟩:=u (.box b) g rfl s;exact⟨g,T,clock,k.bC _ c,o,(k.val _ c).trans z,q.trans r,y,K,M,fun i e x d f=>⟨((l i e x d f).1).grow k.grow,(l i e x d f).2.bD k fun n H=>u _ n rfl H⟩⟩
 |dead=>exact k.bC _ h
 |free=>exact J rfl
def lJ(P:Program)(w0:World)(aR:Nat->Nat)(O:Nat->Prop)(G:Gh)(ae:List (Option Nat))(w:World)(a:AV)(bz:List (Option Nat))(c:List Bx)(v:Value)(b:Gh)(w':World):Prop:=
 aS b bz w' v a/\Inv P w0 aR O b c w'/\ck G ae w b bz w'
def Gh.dG(G:Gh)(σ:Hd->Option Hd):Gh:={G with h:=fun x=>(σ x).bind G.h}
def Inv.ghost(c:Inv P w0 aR O G heap w)(σ:Hd->Option Hd)(l:∀x y z,σ x=some z->σ y=some z->x=y){g:Nat->Value}{e:Nat->Prop}{a:List Bx}
  (m:∀b,e b->b<a.length)(p:∀(b:Nat)bx,a[b]?=some bx->gr P ⟨G.bT,(G.dG σ).h,g,e⟩ w b bx)
  (q:∀(b:Nat)n,a[b]?=some .free->(G.dG σ).h (.box b)≠some n):Inv P w0 aR O ⟨G.bT,(G.dG σ).h,g,e⟩ a w where
 frame:=c.frame
 nb:=m
 box:=p
 inj:=fun x y n i j=>by
  obtain⟨u,f,d⟩:=cQ.1 i;obtain⟨v,k,o⟩:=cQ.1 j;obtain rfl:=c.inj _ _ _ d o;exact l _ _ _ f k
 nN:=fun x n h=>by
  obtain⟨u,f,d⟩:=cQ.1 h;exact c.nN _ _ d
 dead:=q
def ck.ghost(σ:Hd->Option Hd){c:Nat->Value}{d:Nat->Prop}{bz:List (Option Nat)}(l:∀b,G.bC b->d b)(k:∀b,G.bC b->c b=G.val b)(hlen:ae.length<=bz.length)
  (j:∀(t:Nat)n,bz[t]?=some (some n)->t<ae.length->∃m,ae[t]?=some (some m)/\(m<n\/(m=n/\σ (.tok t)=some (.tok t)))):
  ck G ae w ⟨G.bT,(G.dG σ).h,c,d⟩ bz w where
 grow:=Grow.refl _ _
 bC:=l
 val:=k
 len:=hlen
 tok:=fun t n e f=>by
  obtain⟨m,a,h|⟨h,i⟩⟩:=j t n e f
  .exact⟨m,a,.inl h⟩
  .exact⟨m,a,.inr ⟨h,fun b g=>⟨by simp[Gh.dG,i,g],rfl,rfl⟩⟩⟩
def gr.dG(h:gr P G w b bx)(j:∀b,G.bC b->a b)(i:∀b,G.bC b->c b=G.val b)(d:bx = .free->¬a b)(f:∀x,x.on b->σ x=some x):gr P ⟨G.bT,(G.dG σ).h,c,a⟩ w b bx:=
 h.bD ⟨Grow.refl _ _,j,i,ar _,fun t n h _=>by simp at h⟩ d fun x n g e=>⟨by simp[Gh.dG,f x g,e],rfl,rfl⟩
def kQ(a:Nat->Nat)(b m:Nat):Nat->Nat:=fun x=>if x=b then m else a x
def fM(a:Nat->Nat)(b m:Nat):kQ a b m b=m:=by simp[kQ]
def qY(a:Nat->Nat)(m:Nat)(h:x≠b):kQ a b m x=a x:=by simp[kQ,h]
def y5(w:World)(o:Obj)(b x:Nat)(h:b<w.heap.size):(w.alloc o).cell? ⟨b,x,none⟩=w.cell? ⟨b,x,none⟩:=by
 simp only[World.cell?,heap_alloc_old w o b h]
def y6(w:World)(c:Array Value)(t:TypeId)(x:Nat):(w.alloc (.cells c t)).cell? ⟨w.heap.size,x,none⟩=c[x]?:=by
 simp only[World.cell?,heap_alloc_new];simp
def size_alloc(w:World)(o:Obj):(w.alloc o).heap.size=w.heap.size+1:=by show(w.heap.push o).size=_;simp
def Inv.JS(c:Inv P w0 aR O G heap w)(h:o<G.bT b):b<w.heap.size:=by
 rcases bU b w.heap.size with a|a
 .exact a
 .rw[c.frame.xr b a]at h;omega
def Inv.JT(c:Inv P w0 aR O G heap w)(o:Obj)(m:Nat):Grow G.bT w (kQ G.bT w.heap.size m) (w.alloc o):=by
 refine⟨fun b=>?_,fun b x h=>y5 w o b x (c.JS h)⟩
 by_cases a:b=w.heap.size
 .rw[a,c.frame.xr _ (ar _)];exact dP _
 .rw[qY _ _ a];exact ar _
def Inv.P3(a:Inv P w0 aR O G heap w)(o:Obj)(m:Nat)(e:Hd){bz:List (Option Nat)}:
  let c:Gh:=⟨kQ G.bT w.heap.size m,fun x=>open Classical in if x=e then some w.heap.size else G.h x,G.val,G.bC⟩
  (ae.length<=bz.length)->(∀(t:Nat)n,bz[t]?=some (some n)->t<ae.length->∃m,ae[t]?=some (some m)/\(m<n\/(m=n/\e≠.tok t)))->
  (∀b,e.on b->heap[b]?=some .free)->
  ck G ae w c bz (w.alloc o)/\(∀(b:Nat)bx,heap[b]?=some bx->gr P c (w.alloc o) b bx)/\m0 w0 aR O (w.alloc o) c.bT /\
   (∀x y n,c.h x=some n->c.h y=some n->x=y)/\(∀x n,c.h x=some n->n<(w.alloc o).heap.size/\(n<w0.heap.size->O n)):=by
 intro c hlen H I;have z:=a.JT o m;have same:∀x n,x≠e->G.h x=some n->c.h x=some n/\c.bT n=G.bT n/\(w.alloc o).heap[n]?=w.heap[n]?:=by
  intro x n v j;have u:=(a.nN _ _ j).1;exact⟨by simp[c,v,j],qY _ _ (by omega),heap_alloc_old w o n u⟩
 have k:ck G ae w c bz (w.alloc o):=by
  refine⟨z,fun _ h=>h,fun _ _=>rfl,hlen,fun t n h u=>?_⟩
  obtain⟨m,r,l|⟨l,v⟩⟩:=H t n h u
  .exact⟨m,r,.inl l⟩
  .exact⟨m,r,.inr ⟨l,fun b d=>same _ _ (fun s=>v s.symm) d⟩⟩
 refine⟨k,fun b bx d=>?_,⟨?_,a.frame.os,a.frame.tape,a.frame.output,fun b d E=>?_,a.frame.grow.trans z,fun b d=>?_,a.frame.laid⟩,fun x y n p q=>?_,fun x n h=>?_⟩
 .by_cases D:e.on b
  .have i:=I b D
   rw[i]at d;obtain rfl:=ax d;exact a.box b _ i
  .exact(a.box b bx d).bD k.low (fun i=>by subst i;exact a.box b _ d) fun x n J j=>same x n (fun s=>D (s▸J)) j
 .rw[size_alloc];have:=a.frame.size;omega
 .have K:=a.frame.size
  obtain⟨f,g⟩:=a.frame.Er b d E;exact⟨(heap_alloc_old w o b (by omega)).trans f,(qY _ _ (by omega)).trans g⟩
 .rw[size_alloc]at d
  show kQ _ _ _ _=0
  rw[qY _ _ (by omega)]
  exact a.frame.xr b (by omega)
 .by_cases f:x=e<;>by_cases g:y=e<;>simp[c,f,g]at p q
  .rw[f,g]
  .have:=(a.nN _ _ q).1;omega
  .have:=(a.nN _ _ p).1;omega
  .exact a.inj _ _ _ p q
 .rw[size_alloc]
  by_cases f:x=e<;>simp[c,f]at h
  .subst h
   have:=a.frame.size;exact⟨by omega,fun h=>by omega⟩
  .have:=a.nN _ _ h
   exact⟨by omega,this.2⟩
def Inv.JU(f:Inv P w0 aR O G heap w)(o:Obj)(m t:Nat){bz:List (Option Nat)}:
  let c:Gh:=⟨kQ G.bT w.heap.size m,fun x=>open Classical in if x = .tok t then some w.heap.size else G.h x,G.val,G.bC⟩
  (ae.length<=bz.length)->(∀(a:Nat)n,bz[a]?=some (some n)->a<ae.length->∃m,ae[a]?=some (some m)/\(m<n\/(m=n/\a≠t)))->
  Inv P w0 aR O c heap (w.alloc o)/\ck G ae w c bz (w.alloc o):=by
 intro c hlen u;obtain⟨p,i,f1,l,q⟩:=f.P3 (ae:=ae) (bz:=bz) o m (.tok t) hlen (fun a n j k=>by
  obtain⟨m,g,h|⟨h,s⟩⟩:=u a n j k
  .exact⟨m,g,.inl h⟩
  .exact⟨m,g,.inr ⟨h,fun e=>s (by simpa using e.symm)⟩⟩) (fun b d=>by simp[Hd.on]at d)
 exact⟨⟨f1,f.nb,i,l,q,fun b n d=>by simpa[c]using f.dead b n d⟩,p⟩
def Inv.write(c:Inv P w0 aR O G heap w)(s:G.h d=some n)(q:w'.heap.size=w.heap.size)(X:w'.os=w.os)(Y:w'.tape=w.tape)(Z:w'.output=w.output)(i:∀m,m≠n->w'.heap[m]?=w.heap[m]?/\gP m=G.bT m)(A:G.bT n<=gP n)(C:∀o,o<G.bT n->w'.cell? ⟨n,o,none⟩=w.cell? ⟨n,o,none⟩)(hlen:ae.length<=bz.length)(B:∀(t:Nat)m,bz[t]?=some (some m)->t<ae.length->∃f,ae[t]?=some (some f)/\(f<m\/(f=m/\d≠.tok t))):
  ck G ae w {G with bT:=gP} bz w'/\∀(j:List Bx),j.length=heap.length->(∀b,¬d.on b->j[b]?=heap[b]?)->(∀(b:Nat)bx,d.on b->j[b]?=some bx->bx≠.free/\gr P {G with bT:=gP} w' b bx)->
   Inv P w0 aR O {G with bT:=gP} j w':=by
 have y:Grow G.bT w gP w':=by
  refine⟨fun b=>?_,fun b o h=>?_⟩
  .by_cases a:b=n
   .rw[a];exact A
   .rw[(i b a).2];exact ar _
  .by_cases a:b=n
   .subst a;exact C o h
   .exact World.cell?_of_block (w:=w) (i b a).1
 have same:∀x m,x≠d->G.h x=some m->G.h x=some m/\gP m=G.bT m/\w'.heap[m]?=w.heap[m]?:=by
  intro x m u l;have:m≠n:=fun e=>u (c.inj _ _ _ l (e▸s))
  exact⟨l,(i m this).2,(i m this).1⟩
 have k:ck G ae w {G with bT:=gP} bz w':=by
  refine⟨y,fun _ h=>h,fun _ _=>rfl,hlen,fun t m h r=>?_⟩
  obtain⟨f,D,p|⟨p,u⟩⟩:=B t m h r
  .exact⟨f,D,.inl p⟩
  .exact⟨f,D,.inr ⟨p,fun b a=>same _ _ (fun e=>u e.symm) a⟩⟩
 refine⟨k,fun j T H E=>⟨⟨q▸c.frame.size,X.trans c.frame.os,Y.trans c.frame.tape,Z.trans c.frame.output,fun b a v=>?_,c.frame.grow.trans y,fun b a=>?_,c.frame.laid⟩,fun b a=>T▸c.nb b a,fun b bx a=>?_,c.inj,fun x m h=>q▸c.nN x m h,fun b m a=>?_⟩⟩
 .have F:b≠n:=fun e=>v ((c.nN _ _ s).2 (e▸a) |> fun h=>e▸h)
  obtain⟨I,J⟩:=c.frame.Er b a v;obtain⟨K,M⟩:=i b F;exact⟨K.trans I,M.trans J⟩
 .have r:=(c.nN _ _ s).1
  rw[q]at a;show gP b=0
  rw[(i b (by omega)).2]
  exact c.frame.xr b a
 .by_cases g:d.on b
  .exact(E b bx g a).2
  .have z:=H b g▸a
   exact(c.box b bx z).bD k.low (fun Q=>by subst Q;exact c.box b _ z) fun x m R l=>same x m (fun e=>g (e▸R)) l
 .by_cases g:d.on b
  .exact absurd rfl (E b _ g a).1
  .exact c.dead b m (H b g▸a)
def Inv.drew(a:Inv P w0 aR O G heap w):Inv P w0 aR O G heap w.drew/\ck G ae w G ae w.drew:=by
 have k:ck G ae w G ae w.drew:=⟨⟨fun _=>ar _,fun _ _ _=>rfl⟩,fun _ h=>h,fun _ _=>rfl,ar _,fun t n h _=>⟨n,h,.inr ⟨rfl,fun b c=>⟨c,rfl,rfl⟩⟩⟩⟩
 exact⟨⟨⟨a.frame.size,a.frame.os,a.frame.tape,a.frame.output,a.frame.Er,a.frame.grow.trans k.grow,a.frame.xr,a.frame.laid⟩,a.nb,fun b bx c=>(a.box b bx c).bD k.low (fun d=>by subst d;exact a.box b _ c) fun x n _ e=>⟨e,rfl,rfl⟩,a.inj,a.nN,a.dead⟩,k⟩
def Plain.after(b:Inv P w0 aR O G heap w)(h:Plain P G ae w x a):∃v w',x.run P w = .ok (.value v) w'/\∃e,lJ P w0 aR O G ae w a ae heap v e w':=by
 obtain⟨v,w',c,rfl|rfl,d⟩:=h
 .exact⟨v,_,c,G,d,b,ck.refl _ _ _⟩
 .exact⟨v,_,c,G,d,(b.drew (ae:=ae)).1,b.drew.2⟩
def aS.bare{v:Value}(h:aS G ae w v a)(j:a.simple=true):aS G bz w v a:=by
 cases h with
 |none v=>exact .none _
 |v h=>exact .v h
 |agg e h=>exact .agg e h
 |aB b h=>exact .aB b h
 |bA b d=>exact .bA b d
 |mp b d=>exact .mp b d
 |qH=>exact .qH
 |Cb e h=>exact .Cb e h
 |@fn f fi o first cap k l m n=>
  have one:∀v a,a∈first++cap->aS G ae w v a->aS G bz w v a:=by
   intro v a c h;have:=bf.1 (by simpa[AV.simple]using j) a c
   cases h with
   |v h=>exact .v h
   |aB b h=>exact .aB b h
   |mp b d=>exact .mp b d
   |_=>simp at this
  exact .fn k l (fun i v a g c=>one v a (ea _ (aM c)) (m i v a g c)) fun i v a g c=>one v a (fw _ (aM c)) (n i v a g c)
 |_=>simp[AV.simple]at j
def BV{a:AV}(h:a.qT=true):a.simple=true:=by
 cases a<;>simp[AV.qT]at h<;>first|rfl|exact h
def aS.US{v:Value}(h:aS G ae w v a)(d:a.qT=true):v.oneCell'=true:=by
 cases h with
 |aB c h=>rfl
 |bA c b=>exact b
 |mp c b=>exact b
 |qH=>rfl
 |Cb j h=>rfl
 |fn e f g i=>rfl
 |_=>simp[AV.qT]at d
def kq(h:kV c a T=some (b,e)):
  (∃t d n ak,a = .own t d n ak/\T[t]?=some (some d)/\b = .j8 n ak/\e=T.set t none/\kV c a []=some (.v (.sl n ak),[])) \/
  (e=T/\kV c a []=some (b,[])):=by
 unfold kV at h⊢;split at h
 .rename_i t d n ak
  split at h
  .rename_i f
   simp only[ay,az]at h;obtain⟨rfl,rfl⟩:=h;exact .inl ⟨t,d,n,ak,rfl,aV f,rfl,rfl,by simp⟩
  .simp only[ay,az]at h
   obtain⟨rfl,rfl⟩:=h;exact .inr ⟨rfl,by simp⟩
 .right
  rename_i p;cases c<;>simp only at h⊢ <;> (try(simp only[ay,az]at h;obtain⟨rfl,rfl⟩:=h;exact⟨rfl,rfl⟩))
  split at h<;>simp only[ay,az]at h<;>obtain⟨rfl,rfl⟩:=h<;>simp
 .right
  split at h<;>try(simp at h;done)
  rename_i g;simp only[ay,az]at h;obtain⟨rfl,rfl⟩:=h;exact⟨rfl,by simp⟩
def lK(h:kV c a T=some (b,g))(l:T=[])(e:aS G ae w v a):v.oneCell'=true/\eI G w x v b/\g=[]:=by
 subst l;unfold kV at h;split at h
 .rename_i t o n ak
  simp only[List.getElem?_nil,reduceCtorEq,decide_false,ay,az]at h;obtain⟨rfl,rfl⟩:=h;have:=e.pv (p:=.sl n ak) rfl;exact⟨this.fZ,⟨this.fZ,.v this⟩,rfl⟩
 .rename_i p
  have d:cf G.bT w v p:=e.pv rfl;have k:∀q,cf G.bT w v q->eI G w x v (.v q):=fun q j=>⟨j.fZ,.v j⟩
  cases c<;>simp only at h<;>try(simp only[ay,az]at h;obtain⟨rfl,rfl⟩:=h;exact⟨d.fZ,k _ d,rfl⟩)
  split at h<;>simp only[ay,az]at h<;>obtain⟨rfl,rfl⟩:=h
  .refine⟨d.fZ,⟨d.fZ,?_⟩,rfl⟩
   cases d;exact⟨none,0,0,rfl,.mZ _,fun m=>by omega⟩
  .exact⟨d.fZ,k _ d,rfl⟩
 .split at h<;>try(simp at h;done)
  rename_i f;simp only[ay,az]at h;obtain⟨rfl,rfl⟩:=h;have i:=e.US f;refine⟨i,⟨i,?_⟩,rfl⟩;have:=e.bare (bz:=[]) (BV f);cases a<;>simp[AV.qT]at f<;>exact this
def nX:∀(g:List AV)(e:List CT)(T:List (Option Nat))(d:List AV)(f:List (Option Nat)),cellsIn e g T=some (d,f)->∃c,cellsIn e g []=some (c,[])/\c.length=d.length/\(T=[]->c=d/\f=[])
 |[],e,T,d,f,h=>by simp[cellsIn]at h;obtain⟨rfl,rfl⟩:=h;exact⟨[],by simp[cellsIn],rfl,fun h=>⟨rfl,h⟩⟩
 |a::g,e,T,d,f,h=>by
  simp only[cellsIn]at h;split at h<;>try(simp at h;done)
  rename_i b m p;split at h<;>try(simp at h;done)
  rename_i s T2 u;simp only[ay,az]at h;obtain⟨rfl,rfl⟩:=h;obtain⟨c,k,l,o⟩:=nX g e.tail m s T2 u;rcases kq p with⟨t,v,n,ak,rfl,q,rfl,rfl,i⟩|⟨rfl,i⟩
  .refine⟨.v (.sl n ak)::c,by simp only[cellsIn,i,k],by simp[l],fun j=>?_⟩
   subst j;simp at q
  .refine⟨b::c,by simp only[cellsIn,i,k],by simp[l],fun j=>?_⟩
   obtain⟨rfl,rfl⟩:=o j;exact⟨rfl,rfl⟩
def kr:∀(d:List AV)(f:List CT)(e:List AV),cellsIn f d []=some (e,[])->e.length=d.length/\∀(i:Nat)(b:AV),e[i]?=some b->∃a c,d[i]?=some a/\kV c a []=some (b,[])
 |[],f,e,h=>by simp[cellsIn]at h;subst h;simp
 |a::d,f,e,h=>by
  simp only[cellsIn]at h;split at h<;>try(simp at h;done)
  rename_i b k j;have q:k=[]:=by
   rcases kq j with⟨t,u,n,ak,rfl,o,_⟩|⟨rfl,_⟩
   .simp at o
   .rfl
  subst q;split at h<;>try(simp at h;done)
  rename_i p T2 s;simp only[ay,az]at h;obtain⟨rfl,rfl⟩:=h;obtain⟨l,m⟩:=kr d f.tail p s;refine⟨by simp[l],fun i b' g=>?_⟩
  cases i with
  |zero=>simp at g;subst g;exact⟨a,_,rfl,j⟩
  |succ i=>simp at g;simpa using m i b' g
def aS.aT{v:Value}(h:aS G ae w v a)(j:cellsIn t a.cells []=some (g,[])):nW G ae w v.cells a.cells:=by
 obtain⟨_,n⟩:=kr _ _ _ j;have one:∀{v:Value}{a:AV},aS G ae w v a->v.oneCell'=true->nW G ae w v.cells [a]:=by
  intro v a h f;rw[ot f];refine⟨rfl,fun i u q e d=>?_⟩
  cases i with
  |zero=>simp at e d;subst e;subst d;exact⟨f,h⟩
  |succ i=>simp at d
 by_cases l:(∃ps,a = .agg ps)\/∃cs,a = .Ee cs
 .rcases l with⟨ps,rfl⟩|⟨cs,rfl⟩
  .cases h with
   |agg k h=>
    refine⟨by simp[Value.cells,AV.cells,k],fun i u q e d=>?_⟩
    simp only[AV.cells,bw]at d;obtain⟨p,s,rfl⟩:=bc.1 d;have:=h i u p (by simpa[Value.cells]using e) s
    exact⟨this.fZ,.v this⟩
  .cases h with
   |Ee k D f h=>exact⟨k,fun i u q e d=>⟨f i u (by simpa[Value.cells]using e),h i u q (by simpa[Value.cells]using e) d⟩⟩
 .have z:a.cells=[a]:=by
   cases a<;>first|rfl|exact absurd (.inl ⟨_,rfl⟩) l|exact absurd (.inr ⟨_,rfl⟩) l
  rw[z]at j n⊢;have r:g.length=1:=by rw[(kr _ _ _ j).1];rfl
  obtain⟨b,o⟩:∃b,g[0]?=some b:=⟨_,bo (by omega)⟩
  obtain⟨a',c,m,y⟩:=n 0 b o;simp at m;subst m;exact one h (lK (x:=.tok 0) y rfl h).1
def toCell(b j t:Nat):Hd->Option Hd
 |.cell b' a=>if b'=b/\a=j then some (.tok t)else some (.cell b' a)
 |.tok c=>if c=t then none else some (.tok c)
 |x=>some x
def JV(b j t:Nat):∀x y z,toCell b j t x=some z->toCell b j t y=some z->x=y:=by
 intro x y z a c;cases x<;>cases y<;>simp only[toCell]at a c<;>(try split at a)<;>(try split at c)<;>(try cases a)<;>(try cases c)<;>simp_all
def Inv.UT(f:Inv P w0 aR O G heap w)(p:heap[b]?=some (.cells cs))(H:∀l X elem,G.h (.box b)=some l->w.heap[l]?=some (.cells X elem (0,0))->X[j]?=some u)(z:ae[t]?=some (some E))(F:aS G ae w u (.own t E n ak))(M:j<cs.length):
  ∃o,Inv P w0 aR O o (heap.set b (.cells (cs.set j (.j8 n ak)))) w/\ck G ae w o (ae.set t none) w/\o.h (.box b)=G.h (.box b):=by
 have U:=(aG.1 z).1;have y:ck G ae w ⟨G.bT,(G.dG (toCell b j t)).h,G.val,G.bC⟩ (ae.set t none) w:=by
  refine .ghost _ (fun _ h=>h) (fun _ _=>rfl) (by simp) fun N m d k=>?_
  rw[iN]at d;split at d
  .simp at d
  .rename_i C
   exact⟨m,d,.inr ⟨rfl,by simp only[toCell];rw[aN (fun e=>C e.symm)]⟩⟩
 refine⟨_,f.ghost (toCell b j t) (JV b j t) (fun b' h=>by rw[fc];exact f.nb b' h) (fun b' bx c=>?_) (fun b' m c=>?_),y,by simp[Gh.dG,toCell]⟩
 .by_cases g:b'=b
  .subst g
   rw[bQ (aG.1 p).1]at c;obtain rfl:=ax c;obtain⟨l,X,elem,J,D,R,r,Z,Q,I⟩:=f.box _ _ p;refine⟨l,X,elem,J,by simp[Gh.dG,toCell,D],R,r,by simp[Z],Q,fun i v a d k=>?_⟩
   by_cases s:j=i
   .subst s
    rw[bQ M]at k;obtain rfl:=ax k;have L:v=u:=by have:=H _ _ _ D r;rw[d]at this;exact ax this
    subst L;cases F with
    |@own _ _ _ _ A len cap V S T Y=>
     refine⟨rfl,A,len,cap,rfl,T,?_⟩;exact(Y z).bD fun m q=>⟨by simp[Gh.dG,toCell,q],rfl,rfl⟩
   .rw[bP s]at k
    refine(I i v a d k).bD y.low fun m q=>⟨?_,rfl,rfl⟩
    simp only[Gh.dG,toCell,true_and];rw[aN (fun e=>s e.symm)]
    exact q
  .rw[bP (fun e=>g e.symm)]at c
   refine(f.box b' bx c).dG (fun _ h=>h) (fun _ _=>rfl) (fun K=>by subst K;exact f.box _ _ c) fun x B=>?_
   cases x<;>simp only[Hd.on]at B<;>subst_vars<;>simp[toCell,g]
 .by_cases g:b'=b
  .subst g
   rw[bQ (aG.1 p).1]at c;simp at c
  .rw[bP (fun e=>g e.symm)]at c
   have:=f.dead b' m c;simpa[Gh.dG,toCell]using this
def Inv.uS:∀(j:List AV)(k:List CT)(v p:List AV)(off:Nat)(G:Gh)(ae bz:List (Option Nat))(heap:List Bx)(cs:List AV){b:Nat},
  Inv P w0 aR O G heap w->heap[b]?=some (.cells cs)->cellsIn k j []=some (v,[])->cellsIn k j ae=some (p,bz)->(∀(i:Nat)y,v[i]?=some y->cs[off+i]?=some y)->
  (∀I X elem,G.h (.box b)=some I->w.heap[I]?=some (.cells X elem (0,0))->∀(i:Nat)a,j[i]?=some a->∃u,X[off+i]?=some u/\aS G ae w u a)->
  ∃x,Inv P w0 aR O x (heap.set b (.cells (putAt cs off p))) w/\ck G ae w x bz w/\x.h (.box b)=G.h (.box b)
 |[],k,v,p,off,G,ae,bz,heap,cs,b,l,f,c,h,o,q=>by
  simp[cellsIn]at h;obtain⟨rfl,rfl⟩:=h;refine⟨G,?_,ck.refl _ _ _,rfl⟩;have:heap.set b (.cells (putAt cs off []))=heap:=by
   apply fu;intro i;rw[iN];split
   .subst_vars;rw[f];simp[putAt,(aG.1 f).1]
   .rfl
  rw[this];exact l
 |a::j,k,v,p,off,G,ae,bz,heap,cs,b,l,f,c,h,o,q=>by
  simp only[cellsIn]at h c;split at h<;>try(simp at h;done)
  rename_i y T1 m;split at h<;>try(simp at h;done)
  rename_i F T2 C;simp only[ay,az]at h;obtain⟨rfl,rfl⟩:=h;split at c<;>try(simp at c;done)
  rename_i Z T3 B;split at c<;>try(simp at c;done)
  rename_i L T4 U;simp only[ay,az]at c;obtain⟨rfl,rfl⟩:=c;have a0:=(aG.1 f).1;rcases kq m with⟨t,a3,n,ak,rfl,ht,rfl,rfl,g⟩|⟨rfl,g⟩
  .rw[B]at g
   simp only[ay,az]at g;obtain⟨rfl,rfl⟩:=g;have S:=o 0 _ rfl;simp only[ik]at S;have hj:=(aG.1 S).1;obtain⟨I,X,elem,_,A,_,T,_⟩:=l.box _ _ f;obtain⟨u,R,a1⟩:=q _ _ _ A T 0 _ rfl;simp only[ik]at R;obtain⟨W,i1,Y,Q⟩:=l.UT f (fun N M V d e=>by
    rw[A]at d;obtain rfl:=ax d;rw[T]at e;simp only[ay,Obj.cells.injEq]at e;obtain⟨rfl,_⟩:=e;exact R) ht a1 hj
   obtain⟨z,s,E,r⟩:=Inv.uS j k.tail L F (off+1) W (ae.set t none) T2 _ (cs.set off (.j8 n ak)) (b:=b) i1 (bQ a0) U C
    (fun i y m=>by
     have:=o (i+1) y (by simpa using m)
     rw[bP (by omega),show off+1+i=off+(i+1) by omega]
     exact this)
    fun N M V d e i a D=>by
     rw[Q]at d;obtain⟨H,J,K⟩:=q _ _ _ d e (i+1) a (by simpa using D)
     exact⟨H,by rw[show off+1+i=off+(i+1) by omega];exact J,K.bD Y⟩
   rw[qO]at s;exact⟨z,s,Y.trans E,r.trans Q⟩
  .rw[B]at g
   simp only[ay,az]at g;obtain⟨rfl,rfl⟩:=g;have a2:cs.set off Z=cs:=by
    apply fu;intro i;rw[iN];split
    .subst_vars
     have:=o 0 Z rfl;simp only[ik]at this;rw[this];simp[(aG.1 this).1]
    .rfl
   obtain⟨z,s,E,r⟩:=Inv.uS j k.tail L F (off+1) G T1 T2 heap cs (b:=b) l f U C
    (fun i y m=>by
     have:=o (i+1) y (by simpa using m)
     rw[show off+1+i=off+(i+1) by omega]
     exact this)
    fun N M V d e i a D=>by
     obtain⟨H,J,K⟩:=q _ _ _ d e (i+1) a (by simpa using D)
     exact⟨H,by rw[show off+1+i=off+(i+1) by omega];exact J,K⟩
   refine⟨z,?_,E,r⟩;rw[putAt,a2];exact s
def iy(a:cr nb [x] heap=some h):heap[nb]?=some .free/\h=heap.set nb x:=by
 simp only[cr]at a;split at a<;>try(simp at a;done)
 rename_i b;simp only[ay]at a;exact⟨b,a.symm⟩
def Inv.wj(g:Inv P w0 aR O G heap w)(o:Obj)(m:Nat)(j:Value)(bx:Bx){nb:Nat}(f:heap[nb]?=some .free)(v:bx≠.free):
  let c:Gh:=⟨kQ G.bT w.heap.size m,fun x=>open Classical in if x = .box nb then some w.heap.size else G.h x,fun b=>if b=nb then j else G.val b,fun b=>G.bC b\/b=nb⟩
  (ck G ae w c ae (w.alloc o)->gr P c (w.alloc o) nb bx)->
  Inv P w0 aR O c (heap.set nb bx) (w.alloc o)/\ck G ae w c ae (w.alloc o):=by
 intro c z;have r:¬G.bC nb:=g.box _ _ f;obtain⟨s,l,f1,q,u⟩:=g.P3 (ae:=ae) (bz:=ae) o m (.box nb) (ar _) (fun t n h _=>⟨n,h,.inr ⟨rfl,by simp⟩⟩) (fun b a=>by simp only[Hd.on]at a;subst a;exact f)
 have i:∀T:List (Option Nat),ck ⟨kQ G.bT w.heap.size m,fun x=>open Classical in if x = .box nb then some w.heap.size else G.h x,G.val,G.bC⟩ T (w.alloc o) c T (w.alloc o):=by
  intro T;refine⟨Grow.refl _ _,fun b h=>.inl h,fun b h=>?_,ar _,fun t n h _=>⟨n,h,.inr ⟨rfl,fun b a=>⟨a,rfl,rfl⟩⟩⟩⟩
  have a:b≠nb:=fun e=>r (e▸h)
  show(if b=nb then j else G.val b)=G.val b
  rw[aN a]
 have k:=s.trans (i ae);refine⟨⟨f1,fun b a=>?_,fun b uM a=>?_,q,u,fun b n a=>?_⟩,k⟩
 .rw[fc]
  rcases a with a|rfl
  .exact g.nb b a
  .exact(aG.1 f).1
 .by_cases d:b=nb
  .subst d
   rw[bQ (aG.1 f).1]at a;obtain rfl:=ax a;exact z k
  .rw[bP (fun e=>d e.symm)]at a
   refine(l b uM a).bD (i []) (fun y=>?_) fun x n _ p=>⟨p,rfl,rfl⟩
   subst y;have:=g.box _ _ a;rintro(h|h)
   .exact this h
   .exact d h
 .by_cases d:b=nb
  .subst d
   rw[bQ (aG.1 f).1]at a;exact absurd (ax a) v
  .rw[bP (fun e=>d e.symm)]at a
   have:=g.dead b n a;simpa[c,d]using this
def Inv.GM(r:Inv P w0 aR O G heap w){nb:Nat}(g:nW G ae w X n)(h:cellsIn I n T=some (o,t))(p:(T=ae/\bz=t)\/(T=[]/\bz=ae))(Q:cr nb [.cells o] heap=some u):
  ∃m,aS m bz (w.alloc (.cells X elem)) (.pointer (some ⟨w.heap.size,0,none⟩)) (.aB nb 0)/\Inv P w0 aR O m u (w.alloc (.cells X elem))/\ck G ae w m bz (w.alloc (.cells X elem)):=by
 obtain⟨K,rfl⟩:=iy Q;obtain⟨d,x,B,Z⟩:=nX _ _ _ _ _ h;obtain⟨D,R⟩:=kr _ _ _ x;have C:=(aG.1 K).1;obtain⟨E,q⟩:=r.wj (ae:=ae) (.cells X elem) 0 (.pointer (some ⟨w.heap.size,0,none⟩)) (.cells d) K (by simp) (fun k=>by
  refine⟨w.heap.size,X,elem,.inr rfl,by simp,by simp,heap_alloc_new w _,by rw[g.1,D],fM _ _ _,fun j v a f e=>?_⟩
  obtain⟨a',c,F,A⟩:=R j a e;exact(lK A rfl ((g.2 j v a' f F).2.bD k)).2.1)
 rcases p with⟨rfl,rfl⟩|⟨p,rfl⟩;rotate_left
 .obtain⟨rfl,_⟩:=Z p
  refine⟨_,?_,E,q⟩;exact .aB (.inr rfl) (aJ rfl)
 obtain⟨M,H,s,S⟩:=Inv.uS n I d o 0 _ T bz _ d (b:=nb) E (bQ C) x h (fun i y Y=>by simpa using Y) (fun U N V f e i a z=>by
  simp only[if_true]at f;obtain rfl:=ax f;rw[heap_alloc_new]at e;simp only[ay,Obj.cells.injEq]at e;obtain⟨rfl,_⟩:=e;have J:i<X.size:=by rw[g.1];exact(aG.1 z).1
  exact⟨X[i],by simp[J],((g.2 i _ a (cU J) z).2.bD q)⟩)
 have L:∀(l:List AV)(d:List AV),d.length=l.length->putAt d 0 l=l:=by
  intro l d D;apply fu;intro i;rw[gV _ _ _ _ (by omega)]
  by_cases r:i<l.length
  .rw[aJ ⟨dP _,by omega⟩];simp
  .rw[aN (by omega),eE (by omega),eE (by omega)]
 rw[qO,L _ _ B]at H;refine⟨M,?_,H,q.trans s⟩;exact .aB (s.bC _ (.inr rfl)) ((s.val nb (.inr rfl)).trans (by simp))
def aS.ofNil{v:Value}(h:aS G T w v a):T=[]->aS G ae w v a:=by
 intro j;subst j;induction h with
 |none v=>exact .none _
 |v h=>exact .v h
 |agg e h=>exact .agg e h
 |Ee e c d h f=>exact .Ee e c d f
 |own m x h t=>exact absurd m (by simp)
 |aB b h=>exact .aB b h
 |jn b c h=>exact .jn b c h
 |fV b c h=>exact .fV b c h
 |kS u k l=>exact .kS u k l
 |bA b d=>exact .bA b d
 |mp b d=>exact .mp b d
 |fn g i q s o p=>exact .fn g i o p
 |xZ g i f=>exact .xZ g f
 |qH=>exact .qH
 |Cb e h=>exact .Cb e h
 |opt h n f=>exact .opt f n
def eI.view(h:eI G w x v a):aS G ae w v a.view:=by
 obtain⟨d,b⟩:=h;cases a with
 |j8 n ak=>
  obtain⟨A,len,cap,rfl,c,_⟩:=b;exact .v c
 |_=>exact aS.ofNil b rfl
def dz(h:w.heap[a]?=some (.cells X elem b)):w.cell? ⟨a,j,none⟩=X[j]?:=by
 simp[World.cell?,h]
def Cj{t b s off:Nat}(g:w.heap[s]?=some (.cells X elem (0,0)))(H:X.size=cs.length)(k:∀(j:Nat)v a,X[j]?=some v->cs[j]?=some a->eI G w (.cell b j) v a)(h:varOf P t cs off=some a):
  ∃v,(loadVar t ⟨s,off,none⟩).run P w = .ok v w/\aS G ae w v a:=by
 unfold varOf at h;split at h
 .rename_i n e q
  split at h<;>try(simp at h;done)
  rename_i J;obtain⟨ps,E,rfl⟩:=bc.1 h;have y:=tp _ _ E;have hlen:ps.length=n:=by
   have:=congrArg List.length y;simp at this;omega
  refine⟨_,l6 e q (u:=fun j=>X.getD (off+j) undef) fun j I=>?_,.PT hlen fun i p o=>?_⟩
  .rw[dz g]
   have:off+j<X.size:=by omega
   simp[this]
  .have D:i<n:=by have:=(aG.1 o).1;omega
   have x:=congrArg (fun l=>l[i]?) y
   simp only[bw,fv,jx,aJ D,o,cY]at x;obtain⟨a,r,z⟩:=bc.1 x;have f:off+i<X.size:=by omega
   have d:X[off+i]?=some X[off+i]:=cU f;have:=(k _ _ _ d r).view (ae:=ae);rw[z]at this;have:=this.pv rfl;simpa[jE,d]using this
 .rename_i e q
  obtain⟨c,m,rfl⟩:=bc.1 h;have f:off<X.size:=by have:=(aG.1 m).1;omega
  have d:X[off]?=some X[off]:=cU f;exact⟨_,gQ e (by rw[dz g];exact d),(k _ _ _ d m).view⟩
 .simp at h
def Inv.qZ(m:Inv P w0 aR O G heap w)(n:aS G ae w V (.aB b off))(l:heap[b]?=some (.cells cs)):
  ∃c X elem,V = .pointer (some ⟨c,off,none⟩)/\G.h (.box b)=some c/\w.heap[c]?=some (.cells X elem (0,0))/\X.size=cs.length/\G.bT c=0/\∀(j:Nat)v a,X[j]?=some v->cs[j]?=some a->eI G w (.cell b j) v a:=by
 cases n with
 |@aB _ _ c o h=>
  obtain⟨p,X,elem,_,e,d,f,g,i,k⟩:=m.box _ _ l;rw[h]at d;simp only[Value.pointer.injEq,ay,Addr.mk.injEq,and_true]at d;subst d;exact⟨c,X,elem,rfl,e,f,g,i,k⟩
def GN{t b off:Nat}(g:Inv P w0 aR O G heap w)(k:aS G ae w V (.aB b off))(f:heap[b]?=some (.cells cs))(h:varOf P t cs off=some a):
  Plain P G ae w (do pure (.value (<-Instr.loadAt t V))) a:=by
 obtain⟨n,X,elem,rfl,l,c,d,m,e⟩:=g.qZ k f;obtain⟨v,j,i⟩:=Cj (P:=P) (ae:=ae) c d e h;exact .pure (jH j) i
open Classical in
noncomputable def mv(x y:Hd):Hd->Option Hd:=fun z=>if z=y then some x else if z=x then none else some z
def Ez(x y:Hd):∀u v z,mv x y u=some z->mv x y v=some z->u=v:=by
 intro u v z a b;simp only[mv]at a b;by_cases c:u=y<;>by_cases d:v=y<;>simp only[c,d,if_true,if_false]at a b⊢
 .exfalso
  split at b
  .simp at b
  .rename_i f;rw[<-a]at b;exact f (ax b)
 .exfalso
  split at a
  .simp at a
  .rename_i e;rw[<-b]at a;exact e (ax a)
 .split at a<;>split at b<;>simp at a b
  rw[a,b]
def sB(x y:Hd):mv x y y=some x:=by simp[mv]
def ee(a:z≠y)(b:z≠x):mv x y z=some z:=by simp[mv,a,b]
def Inv.P4(g:Inv P w0 aR O G heap w)(s:heap[b]?=some (.cells cs))(r:cs[off]?=some (.j8 n ak))(D:G.h (.box b)=some l)(I:w.heap[l]?=some (.cells X elem (0,0)))(q:X[off]?=some v):
  ∃T,lJ P w0 aR O G ae w (.own ae.length 0 n ak) (ae++[some 0]) (heap.set b (.cells (cs.set off (.v (.sl n ak))))) v T w:=by
 have K:=(aG.1 s).1;obtain⟨V,S,W,Y,Q,C,p,B,F,M⟩:=g.box _ _ s;rw[D]at Q;obtain rfl:=ax Q;rw[I]at p;simp only[ay,Obj.cells.injEq]at p;obtain⟨rfl,rfl,-⟩:=p;have N:=M off v _ q r;obtain⟨A,len,cap,rfl,H,R⟩:=N.2;have U:(Hd.cell b off)≠.tok ae.length:=by simp
 have E:ck G ae w ⟨G.bT,(G.dG (mv (.cell b off) (.tok ae.length))).h,G.val,G.bC⟩ (ae++[some 0]) w:=by
  refine .ghost _ (fun _ h=>h) (fun _ _=>rfl) (by simp) fun t m d f=>?_
  rw[ch f]at d;refine⟨m,d,.inr ⟨rfl,ee (fun e=>?_) (by simp)⟩⟩
  simp only[Hd.tok.injEq]at e;omega
 have L:eI ⟨G.bT,(G.dG (mv (.cell b off) (.tok ae.length))).h,G.val,G.bC⟩ w (.cell b off) (.slice A len cap) (.v (.sl n ak)):=⟨rfl,.v H⟩;refine⟨⟨G.bT,(G.dG (mv (.cell b off) (.tok ae.length))).h,G.val,G.bC⟩,.own (by simp) (fun m k=>by simp at k;omega) H fun _=>R.bD fun m k=>⟨?_,rfl,rfl⟩,g.ghost (mv (.cell b off) (.tok ae.length)) (Ez _ _) (fun b' h=>by rw[fc];exact g.nb b' h) (fun b' bx c=>?_) (fun b' m c=>?_),E⟩
 .simp[Gh.dG,sB,k]
 .by_cases j:b'=b
  .subst j
   rw[bQ K]at c;obtain rfl:=ax c;refine⟨l,X,elem,Y,?_,C,I,by simp[B],F,fun i u a d f=>?_⟩
   .simp[Gh.dG,ee (x:=.cell b' off) (y:=.tok ae.length) (z:=.box b') (by simp) (by simp),D]
   .by_cases o:off=i
    .subst o
     rw[q]at d;obtain rfl:=ax d;rw[bQ (aG.1 r).1]at f;obtain rfl:=ax f;exact L
    .rw[bP o]at f
     refine(M i u a d f).bD E.low fun m k=>⟨?_,rfl,rfl⟩
     simp[Gh.dG,ee (x:=.cell b' off) (y:=.tok ae.length) (z:=.cell b' i) (by simp) (by simp;exact fun e=>o e.symm),k]
  .rw[bP (fun e=>j e.symm)]at c
   refine(g.box b' bx c).dG (fun _ h=>h) (fun _ _=>rfl) (fun Z=>by subst Z;exact g.box _ _ c) fun x J=>ee (fun e=>?_) fun e=>?_
   .subst e;exact J
   .subst e;exact j J.symm
 .by_cases j:b'=b
  .subst j
   rw[bQ K]at c;simp at c
  .rw[bP (fun e=>j e.symm)]at c
   have:=g.dead b' m c;simpa[Gh.dG,ee (x:=.cell b off) (y:=.tok ae.length) (z:=.box b') (by simp) (by simp)]using this
def fG(w:World)(g b:Nat)(X:Array Value)(h:b≠g):(w.setRow g X).heap[b]?=w.heap[b]?:=by
 simp only[World.setRow,yn];rw[aN (fun e=>h e.symm)]
def Inv.EA(j:Inv P w0 aR O G heap w)(f:heap[b]?=some bx)(i:G.h (.box b)=some a)(q:G.bT a=0)(g:uM≠.free)(p:ck G [] w G [] (w.setRow a X)->gr P G (w.setRow a X) b uM):Inv P w0 aR O G (heap.set b uM) (w.setRow a X)/\ck G ae w G ae (w.setRow a X):=by
 obtain⟨k,h⟩:=j.write (ae:=ae) (bz:=ae) (gP:=G.bT) i (w':=w.setRow a X) (by rw[size_setRow]) rfl rfl rfl (fun m l=>⟨fG w a m X l,rfl⟩) (ar _) (fun o s=>by omega) (ar _)
  fun t m h _=>⟨m,h,.inr ⟨rfl,by simp⟩⟩
 refine⟨h _ (by simp) (fun b' n=>bP fun e=>n e) fun b' u d c=>?_,k⟩
 simp only[Hd.on]at d;subst d;rw[bQ (aG.1 f).1]at c;obtain rfl:=ax c;exact⟨g,p k.low⟩
def ou{t a off:Nat}(b:w.heap[a]?=some (.cells X elem (0,0)))(c:cq P t=some v.cells.size)(d:off+v.cells.size<=X.size)(e:∀u∈v.cells.toList,u.oneCell'=true):
  (storeVar t ⟨a,off,none⟩ v).run P w = .ok () (w.setRow a (X.toList.take off++v.cells.toList++X.toList.drop (off+v.cells.size)).toArray):=by
 have:=run_storeCells_at (P:=P) a off elem v.cells.toList 0 X w b (by simpa using d) e
 simp only[ik,mu]at this;simp[storeVar,dK c,this]
def pB{X C:Array Value}(d:off+C.size<=X.size):
  ((X.toList.take off++C.toList++X.toList.drop (off+C.size)).toArray)[j]?=if off<=j/\j<off+C.size then C[j-off]? else X[j]?:=by
 simp only[uC];have c:(X.toList.take off).length=off:=by simp;omega
 by_cases a:off<=j/\j<off+C.size
 .rw[aJ a,ch (by simp;omega),eH (by omega),c]
  simp
 .rw[aN a]
  rcases bU j off with b|b
  .rw[ch (by simp;omega),ch (by omega),fv,aJ b]
   simp
  .rw[eH (by simp;omega),jx]
   simp only[dw,c,mu];rw[show off+C.size+(j-(off+C.size))=j from by omega]
   simp
def q8{X C:Array Value}(a:off+C.size<=X.size):((X.toList.take off++C.toList++X.toList.drop (off+C.size)).toArray).size=X.size:=by
 simp;omega
def N5{t b off:Nat}(o:Inv P w0 aR O G heap w)(hx:aS G ae w V (.aB b off))(D:aS G ae w U a)(p:heap[b]?=some (.cells cs))(h:Eg P t cs off a T=some (a0,Z))(M:(T=ae/\F=Z)\/(T=[]/\F=ae)):
  ∃w',(do Instr.storeAt t V U;pure .skip:Sem Next).run P w = .ok .skip w'/\∃G',lJ P w0 aR O G ae w .none F (heap.set b (.cells a0)) undef G' w':=by
 obtain⟨s,X,elem,rfl,g,K,h4,C,h6⟩:=o.qZ hx p;have a5:=(aG.1 p).1;unfold Eg at h;split at h<;>try(simp at h;done)
 rename_i n r T1 hs L;split at h<;>try(simp at h;done)
 rename_i a3;simp only[cb,beq_iff_eq,fF]at a3;obtain⟨hlen,b4⟩:=a3;simp only[ay,az]at h;obtain⟨rfl,rfl⟩:=h;obtain⟨E,J,b3,hz⟩:=nX _ _ _ _ _ L;obtain⟨hl,a7⟩:=kr _ _ _ J;have l:=D.aT J;have a9:∀u∈U.cells.toList,u.oneCell'=true:=by
  intro u hu;obtain⟨j,N⟩:=su.1 hu;have H:j<a.cells.length:=by have:=(aG.1 N).1;rw[<-l.1];simpa using this
  exact(l.2 j u _ (by simpa using N) (bo H)).1
 have hn:U.cells.size=n:=by rw[l.1];omega
 have b1:=ou (P:=P) K (by rw[hs,hn]:cq P t=some U.cells.size) (by omega:off+U.cells.size<=X.size) a9
 have Y:off+U.cells.size<=X.size:=by omega
 obtain⟨S,Q⟩:=o.EA (ae:=ae) (uM:=.cells (putAt cs off E)) (X:=(X.toList.take off++U.cells.toList++X.toList.drop (off+U.cells.size)).toArray) p g C (by simp) (fun k=>by
  obtain⟨_,_,_,he,_,hv,_⟩:=o.box _ _ p;refine⟨s,_,elem,he,g,?_,setRow_heap w s X _ elem (0,0) K,by rw[q8 Y,iS,h4],C,fun j v a' z f=>?_⟩
  .obtain⟨a8,X',b2,_,A,R,_⟩:=o.box _ _ p
   rw[g]at A;obtain rfl:=ax A;exact R
  .rw[pB Y]at z
   rw[gV _ _ _ _ (by omega)]at f
   by_cases d:off<=j/\j<off+U.cells.size
   .rw[aJ d]at z
    rw[aJ ⟨d.1,by omega⟩]at f
    obtain⟨a2,c,a4,a6⟩:=a7 _ _ f;exact((lK (x:=.cell b j) a6 rfl (l.2 _ _ _ z a4).2).2.1).bD k fun m q=>⟨q,rfl,by
     rw[fG];intro e;subst e;have:=o.inj _ _ _ q g;simp at this⟩
   .rw[aN d]at z
    rw[aN (by omega)]at f
    exact(h6 _ _ _ z f).bD k fun m q=>⟨q,rfl,by
     rw[fG];intro e;subst e;have:=o.inj _ _ _ q g;simp at this⟩)
 have a1:(do Instr.storeAt t (.pointer (some ⟨s,off,none⟩)) U;pure .skip:Sem Next).run P w = .ok .skip (w.setRow s (X.toList.take off++U.cells.toList++X.toList.drop (off+U.cells.size)).toArray):=by
  simp only[Instr.storeAt,Instr.sureAddr,Sem.run_bind,Sem.run_pure,Result.andThen_ok,b1]
 rcases M with⟨rfl,rfl⟩|⟨M,rfl⟩;rotate_left
 .obtain⟨rfl,_⟩:=hz M
  exact⟨_,a1,G,.none _,S,Q⟩
 obtain⟨G2,W,k2,R⟩:=Inv.uS a.cells _ E r off _ T F _ (putAt cs off E) (b:=b) S (bQ a5) J L (fun i y D=>by
  have:=(aG.1 D).1;rw[gV _ _ _ _ (by omega),aJ ⟨by omega,by omega⟩,show off+i-off=i by omega]
  exact D) (fun a8 X' b2 B I i a' f=>by
  rw[g]at B;obtain rfl:=ax B;rw[setRow_heap w s X _ elem (0,0) K]at I;simp only[ay,Obj.cells.injEq]at I;obtain⟨rfl,_⟩:=I;have H:i<U.cells.size:=by rw[l.1];exact(aG.1 f).1
  refine⟨U.cells[i],?_,(l.2 i _ a' (cU H) f).2.bD Q⟩;rw[pB Y,aJ ⟨by omega,by omega⟩,show off+i-off=i by omega]
  exact cU H)
 have b0:putAt (putAt cs off E) off r=putAt cs off r:=by
  apply fu;intro i;rw[gV _ _ _ _ (by rw[iS];omega),gV _ cs _ _ (by omega),gV _ cs _ _ (by omega)]
  by_cases d:off<=i/\i<off+r.length
  .rw[aJ d,aJ d]
  .rw[aN d,aN d,aN (by omega)]
 rw[qO,b0]at W;exact⟨_,a1,G2,.none _,W,Q.trans k2⟩
def JW{t b s n l j:Nat}(o:Inv P w0 aR O G heap w)(F:aS G ae w V (.jn b s n l i j))(A:aS G ae w U (.v p))(E:heap[b]?=some (.cells cs))(Z:cq P t=some 1)(S:s+l*n<=cs.length)(N:j<n):
  ∃w',(do Instr.storeAt t V U;pure .skip:Sem Next).run P w = .ok .skip w'/\∃M,lJ P w0 aR O G ae w .none ae (heap.set b (.cells (putAt cs (s+i.toNat*n+j) [.v p]))) undef M w':=by
 have Y:∃d,V = .pointer (some ⟨d,s+i.toNat*n+j,none⟩)/\G.val b = .pointer (some ⟨d,0,none⟩)/\G.bC b/\i.toNat<l:=by
  cases F with
  |@jn _ _ _ _ _ d _ g o h=>exact⟨d,rfl,h,g,by omega⟩
 obtain⟨d,rfl,J,g,C⟩:=Y;obtain⟨W,X,elem,rfl',y,r,Q,D,T⟩:=o.qZ (ae:=ae) (.aB g J) E (off:=s+i.toNat*n+j);simp only[Value.pointer.injEq,ay,Addr.mk.injEq,and_true]at rfl';subst rfl';have a0:s+i.toNat*n+j<cs.length:=by
  have:(i.toNat+1)*n<=l*n:=dx _ C;rw[bZ,cM]at this;omega
 have x:cf G.bT w U p:=A.pv rfl;have f:U.cells = #[U]:=x.cells;have L:=ou (P:=P) (v:=U) r (by rw[Z,f];rfl) (by rw[f];simp;omega:s+i.toNat*n+j+U.cells.size<=X.size) (fun u z=>by rw[f]at z;simp at z;subst z;exact x.fZ)
 have K:s+i.toNat*n+j+U.cells.size<=X.size:=by rw[f];simp;omega
 obtain⟨R,B⟩:=o.EA (ae:=ae) (uM:=.cells (putAt cs (s+i.toNat*n+j) [.v p])) (X:=(X.toList.take (s+i.toNat*n+j)++U.cells.toList++X.toList.drop (s+i.toNat*n+j+U.cells.size)).toArray) E y D (by simp) (fun k=>by
  refine⟨d,_,elem,g,y,J,setRow_heap w d X _ elem (0,0) r,by rw[q8 K,iS,Q],D,fun q v a' c a=>?_⟩
  rw[pB K]at c;rw[gV _ _ _ _ (by simp;omega)]at a
  simp only[f,sn,aE,cN,cy]at c a;by_cases H:s+i.toNat*n+j<=q/\q<s+i.toNat*n+j+1
  .rw[aJ H]at c a
   have:q-(s+i.toNat*n+j)=0:=by omega
   rw[this]at c a;simp at c a;subst c;subst a;exact⟨x.fZ,.v (x.grow k.grow)⟩
  .rw[aN H]at c a
   exact(T _ _ _ c a).bD k fun m I=>⟨I,rfl,by
    rw[fG];intro e;subst e;have:=o.inj _ _ _ I y;simp at this⟩)
 refine⟨_,?_,G,.none _,R,B⟩;simp only[Instr.storeAt,Instr.sureAddr,Sem.run_bind,Sem.run_pure,Result.andThen_ok,L]
def JX(g:∀r∈ak,r.length=n)(o:j+ps.length<=n)(h:j9 (setRow ak i j ps) d a=some p):
  (d=i/\j<=a/\a<j+ps.length/\ps[a-j]?=some p)\/(¬(d=i/\j<=a/\a<j+ps.length)/\j9 ak d a=some p):=by
 unfold j9 setRow at h;rw[D3]at h;obtain⟨m,k,b⟩:=cQ.1 h;obtain⟨r,f,rfl⟩:=bc.1 k;by_cases e:i=d
 .subst e
  simp only[if_true]at b;have l:=g r (aM f);rw[gV _ _ _ _ (by omega)]at b
  by_cases c:j<=a/\a<j+ps.length
  .rw[aJ c]at b
   exact .inl ⟨rfl,c.1,c.2,b⟩
  .rw[aN c]at b
   exact .inr ⟨fun h=>c h.2,by simp[j9,f,b]⟩
 .rw[aN e]at b
  exact .inr ⟨fun h=>e h.1.symm,by simp only[j9,f];exact b⟩
def GO(b:∀r∈ak,r.length=n):(∀r∈setRow ak i j ps,r.length=n)/\(setRow ak i j ps).length=ak.length:=by
 refine⟨fun r h=>?_,by simp[setRow]⟩
 obtain⟨q,a⟩:=su.1 h;unfold setRow at a;rw[D3]at a;obtain⟨r0,c,rfl⟩:=bc.1 a;have:=b r0 (aM c);split
 .rw[iS];exact this
 .exact this
def Yq{n a b a' b' c:Nat}(f:b+c<=n)(g:b'<n):(a*n+b<=a'*n+b'/\a'*n+b'<a*n+b+c)<->(a'=a/\b<=b'/\b'<b+c):=by
 constructor
 .rintro⟨d,e⟩
  have:a'=a:=by
   rcases Nat.lt_trichotomy a' a with h|h|h
   .have:(a'+1)*n<=a*n:=dx _ h
    rw[bZ,cM]at this;omega
   .exact h
   .have:(a+1)*n<=a'*n:=dx _ h
    rw[bZ,cM]at this;omega
  subst this;exact⟨rfl,by omega,by omega⟩
 .rintro⟨rfl,d,e⟩
  omega
def Inv.P5(q:Inv P w0 aR O G heap w)(t:aS G ae w V (.fV b n i j))(m:heap[b]?=some (.bk n ak)):
  ∃a X elem cap,V = .pointer (some ⟨a,i.toNat*n+j,none⟩)/\G.bC b/\G.h (.box b)=some a/\G.val b = .slice (some ⟨a,0,none⟩) ak.length cap/\ak.length<=cap/\w.heap[a]?=some (.cells X elem (0,0))/\cap*n<=X.size/\G.bT a=0/\i.toNat<ak.length /\
   (∀r∈ak,r.length=n)/\∀(i j:Nat)v p,X[i*n+j]?=some v->j9 ak i j=some p->cf G.bT w v p:=by
 cases t with
 |@fV _ _ _ a off len cap _ o u h=>
  obtain⟨_,s,⟨x,X,elem,y,d,c,e,f,g,k,l⟩|⟨d,A,c⟩⟩:=q.box _ _ m
  .rw[h]at c
   simp only[Value.slice.injEq,ay,Addr.mk.injEq,and_true]at c;obtain⟨⟨rfl,rfl⟩,rfl,rfl⟩:=c;exact⟨a,X,elem,cap,by rw[cy],o,d,h,e,f,g,k,u.2,s,l⟩
  .rw[h]at c
   simp only[Value.slice.injEq]at c;omega
def JY{t b n j c:Nat}(z:Inv P w0 aR O G heap w)(W:aS G ae w V (.fV b n i j))(hy:aS G ae w U a)(y:heap[b]?=some (.bk n ak))(N:cq P t=some c)(L:rowOf P t a=some ps)(hc:ps.length=c)(a6:j+c<=n):
  ∃w',(do Instr.storeAt t V U;pure .skip:Sem Next).run P w = .ok .skip w'/\∃M,lJ P w0 aR O G ae w .none ae (heap.set b (.bk n (setRow ak i.toNat j ps))) undef M w':=by
 obtain⟨I,X,elem,cap,rfl,A,o,T,Y,s,Z,x,h7,D,F⟩:=z.P5 W y;have f:=hy.row L;have a3:∀u∈U.cells.toList,u.oneCell'=true:=by
  intro u S;obtain⟨q,h⟩:=su.1 S;have a1:q<ps.length:=by have:=(aG.1 h).1;rw[<-f.1];simpa using this
  exact(f.2 q u _ (by simpa using h) (bo a1)).fZ
 have C:U.cells.size=c:=by rw[f.1];omega
 have a5:i.toNat*n+n<=cap*n:=by
  have:(i.toNat+1)*n<=cap*n:=dx _ (by omega)
  rwa [bZ,cM]at this
 have m:i.toNat*n+j+U.cells.size<=X.size:=by omega
 have a4:=ou (P:=P) s (by rw[N,C]:cq P t=some U.cells.size) m a3
 obtain⟨E,H⟩:=GO (i:=i.toNat) (j:=j) (ps:=ps) D;obtain⟨i1,k1⟩:=z.EA (ae:=ae) (uM:=.bk n (setRow ak i.toNat j ps)) (X:=(X.toList.take (i.toNat*n+j)++U.cells.toList++X.toList.drop (i.toNat*n+j+U.cells.size)).toArray) y o x (by simp) (fun k=>by
  refine⟨A,E,.inl ⟨I,_,elem,cap,o,by rw[H];exact T,by rw[H];exact Y,setRow_heap w I X _ elem (0,0) s,by rw[q8 m];exact Z,x,fun i' g v p d K=>?_⟩⟩
  rw[pB m]at d;have a0:g<n:=by
   obtain⟨r,a2,B⟩:=cQ.1 K;rw[<-E r (aM a2)];exact(aG.1 B).1
  have J:=Yq (a:=i.toNat) (b:=j) (a':=i') (b':=g) (c:=U.cells.size) (by omega) a0
  rcases JX D (by omega) K with⟨e,l,e3,Q⟩|⟨e,l⟩
  .rw[aJ (J.2 ⟨e,l,by omega⟩)]at d
   subst e;rw[show i.toNat*n+g-(i.toNat*n+j)=g-j by omega]at d
   exact(f.2 _ _ _ d Q).grow k.grow
  .rw[aN (fun R=>e (by have:=J.1 R;exact⟨this.1,this.2.1,by omega⟩))]at d
   exact(F _ _ _ _ d l).grow k.grow)
 refine⟨_,?_,G,.none _,i1,k1⟩;simp only[Instr.storeAt,Instr.sureAddr,Sem.run_bind,Sem.run_pure,Result.andThen_ok,a4]
def Inv.elemOf(g:Inv P w0 aR O G heap w)(q:aS G ae w V (.fV b n i j))(d:heap[b]?=some (.bk n ak)\/heap[b]?=some (.uH n ak)):
  ∃c o,V = .pointer (some ⟨c,o,none⟩)/\∀l p,j9 ak i.toNat (j+l)=some p->∃u,w.cell? ⟨c,o+l,none⟩=some u/\cf G.bT w u p:=by
 rcases d with d|d
 .obtain⟨c,X,elem,cap,rfl,x,E,H,I,t,J,K,M,m,v⟩:=g.P5 q d
  refine⟨c,_,rfl,fun l p e=>?_⟩
  have Z:j+l<n:=by
   obtain⟨r,z,y⟩:=cQ.1 e;rw[<-m r (aM z)];exact(aG.1 y).1
  have F:i.toNat*n+n<=cap*n:=by
   have:(i.toNat+1)*n<=cap*n:=dx _ (by omega)
   rwa [bZ,cM]at this
  have s:i.toNat*n+(j+l)<X.size:=by omega
  rw[dz t,gI];exact⟨_,cU s,v _ _ _ _ (cU s) e⟩
 .cases q with
  |@fV _ _ _ c off len cap _ x Y h=>
   obtain⟨_,f⟩:=g.box _ _ d;rw[h]at f;cases f with
   |Jy a=>omega
   |sl b' off len cap n ak u T Q m D e=>
    refine⟨c,_,rfl,fun l p k=>?_⟩
    have:=D _ _ _ k;rw[<-gI]at this;exact⟨_,this.1,e _ _ _ k⟩
def N6{t b n j c:Nat}(s:Inv P w0 aR O G heap w)(z:aS G ae w V (.fV b n i j))(q:heap[b]?=some (.bk n ak)\/heap[b]?=some (.uH n ak))(m:dn P t=some true)(y:cq P t=some c)(x:ak[i.toNat]?=some r)(E:j+c<=r.length):Plain P G ae w (do pure (.value (<-Instr.loadAt t V))) (.agg ((r.drop j).take c)):=by
 obtain⟨f,o,rfl,h⟩:=s.elemOf z q;have D:∀l,l<c->∃p,r[j+l]?=some p:=fun l d=>⟨_,bo (by omega)⟩
 have e:∃u:Nat->Value,∀l p,l<c->r[j+l]?=some p->w.cell? ⟨f,o+l,none⟩=some (u l)/\cf G.bT w (u l) p:=by
  refine⟨fun l=>(w.cell? ⟨f,o+l,none⟩).getD undef,fun l p d a=>?_⟩
  obtain⟨v,g,k⟩:=h l p (JN x a);simp only[g,mW];exact⟨by trivial,k⟩
 obtain⟨u,e⟩:=e;refine .pure (jH (l6 m y (u:=u) fun l d=>?_)) (.PT (by simp;omega) fun l p a=>?_)
 .obtain⟨p,a⟩:=D l d
  exact(e l p d a).1
 .rw[fv]at a
  split at a<;>try(simp at a;done)
  rw[jx]at a;exact(e l p (by assumption) a).2
def JZ{t b n j:Nat}(f:Inv P w0 aR O G heap w)(k:aS G ae w V (.fV b n i j))(e:heap[b]?=some (.bk n ak)\/heap[b]?=some (.uH n ak))(d:dn P t=some false)(g:j9 ak i.toNat j=some p):Plain P G ae w (do pure (.value (<-Instr.loadAt t V))) (.v p):=by
 obtain⟨l,o,rfl,h⟩:=f.elemOf k e;obtain⟨u,a,c⟩:=h 0 p (by simpa using g)
 exact .pure (jH (gQ d (by simpa using a))) (.v c)
def N7{t b s n l j:Nat}(m:Inv P w0 aR O G heap w)(a:aS G ae w V (.jn b s n l i j))(g:heap[b]?=some (.cells cs))(f:dn P t=some false)(c:cs[s+i.toNat*n+j]?=some (.v p)):Plain P G ae w (do pure (.value (<-Instr.loadAt t V))) (.v p):=by
 cases a with
 |@jn _ _ _ _ _ x _ k y h=>
  obtain⟨z,X,elem,rfl',q,d,u,v,e⟩:=m.qZ (ae:=ae) (.aB k h) g (off:=s+i.toNat*n+j);simp only[Value.pointer.injEq,ay,Addr.mk.injEq,and_true]at rfl';subst rfl';have o:s+i.toNat*n+j<X.size:=by have:=(aG.1 c).1;omega
  have a:X[s+i.toNat*n+j]?=some X[s+i.toNat*n+j]:=cU o;exact .pure (jH (gQ f (by rw[dz d];exact a))) ((e _ _ _ a c).view (ae:=ae))
def Flat(a:Nat->Nat)(w:World)(n:Nat)(X:Array Value)(ak:List (List PV)):Prop:=
 X.size=ak.length*n/\(∀r∈ak,r.length=n)/\∀i j p,j9 ak i j=some p->∃v,X[i*n+j]?=some v/\cf a w v p
def Ck(n:Nat):∀(ak:List (List PV))(i:Nat)(x:List PV)(a:List (List PV)),NW n ak i x=some a->a=ak.set i x/\i<ak.length/\x.length=n
 |[],i,x,a,h=>by simp[NW]at h
 |r::b,0,x,a,h=>by
  simp only[NW]at h;split at h<;>try(simp at h;done)
  simp at h;exact⟨by simp[h],by simp,by assumption⟩
 |r::b,i+1,x,a,h=>by
  simp only[NW]at h;obtain⟨m,f,rfl⟩:=bc.1 h;obtain⟨c,d,e⟩:=Ck n b i x m f;exact⟨by simp[c],by simpa using d,e⟩
def Flat.put(h:Flat l w n X ak)(H:mz l w C r)(q:i<ak.length)(s:r.length=n):
  Flat l w n (C.zipIdx.foldl (fun cs(c,j)=>cs.setIfInBounds (i*n+j) c) X) (ak.set i r):=by
 obtain⟨D,m,E⟩:=h;obtain⟨x,y⟩:=H;have e:C.zipIdx.foldl (fun cs(c,j)=>cs.setIfInBounds (i*n+j) c) X=(C.toList.zipIdx 0).foldl (fun cs(c,j)=>cs.setIfInBounds (i*n+j) c) X:=by
  rw[<-Array.foldl_toList];simp
 rw[e];obtain⟨f1,f2⟩:=foldl_set X (i*n) C.toList 0;have T:i*n+n<=ak.length*n:=by
  have:(i+1)*n<=ak.length*n:=dx _ q;rwa [bZ,cM]at this
 refine⟨by rw[f1,D];simp,fun t k=>?_,fun a b p d=>?_⟩
 .rcases uF k with h|h
  .exact m _ h
  .rw[h,s]
 .rw[f2]
  simp only[ik,mu];unfold j9 at d;by_cases f:a=i
  .subst f
   rw[bQ q]at d;simp only[gi]at d;have o:=(aG.1 d).1;rw[aJ ⟨by omega,by omega,by omega⟩]
   have u:b<C.size:=by omega
   refine⟨C[b],?_,y b _ p (cU u) d⟩;rw[show a*n+b-a*n=b from by omega]
   simp[u]
  .rw[bP (fun h=>f h.symm)]at d
   obtain⟨v,J,I⟩:=E a b p d;refine⟨v,?_,I⟩;have M:b<n:=by
    obtain⟨t,k,o⟩:=cQ.1 d;rw[<-m t (aM k)];exact(aG.1 o).1
   rw[aN ?_]
   .exact J
   .rintro⟨K,z,_⟩
    rw[x,s]at z;apply f;rcases bU a i with g|Q
    .have:(a+1)*n<=i*n:=dx _ g
     rw[bZ,cM]at this;omega
    .rcases bU i a with g|Y
     .have:(i+1)*n<=a*n:=dx _ g
      rw[bZ,cM]at this;omega
     .omega
def uT{k n:Nat}{e:Operand->Value}{ρ:Operand->AV}:∀(ps:List (Nat×Operand))(X:Array Value)(ak a:List (List PV)),
  lH P k n ρ ps ak=some a->Flat G.bT w n X ak->(∀p∈ps,aS G ae w (e p.2) (ρ p.2))->∃b,Instr.fill (fun i=>some (i*n,n)) X (ps.map fun p=>(p.1,e p.2))=some b/\Flat G.bT w n b a/\a.length=ak.length
 |[],X,ak,a,h,c,_=>by simp[lH]at h;subst h;exact⟨X,rfl,c,rfl⟩
 |(i,x)::ps,X,ak,a,h,c,g=>by
  unfold lH at h;split at h<;>try(simp at h;done)
  rename_i r q;split at h<;>try(simp at h;done)
  rename_i u d;obtain⟨rfl,j,hlen⟩:=Ck n ak i r u d;have f:=(g (i,x) (by simp)).row q
  obtain⟨b,l,m,o⟩:=uT ps _ _ a h (c.put f j hlen) (fun p d=>g p (aW _ d))
  refine⟨b,?_,m,by simpa using o⟩
  have s:(e x).cells.size=n:=by rw[f.1,hlen]
  have t:¬(i*n+n>X.size):=by
   rw[c.1];have:(i+1)*n<=ak.length*n:=dx _ j;rw[bZ,cM]at this;omega
  simp only[bH,Instr.fill,s,ne_eq,not_true_eq_false,decide_false,mS,fF];rw[aN t];exact l
def Cm(c:mz G.bT w Z z)(f:z.length=n)(q:n≠0):
  Flat G.bT w n ((Array.range (len*n)).map (Z[· % Z.size]!)) (List.replicate len z):=by
 refine⟨by simp,fun r a=>by rw[(List.mem_replicate.1 a).2,f],fun i j p e=>?_⟩
 unfold j9 at e;obtain⟨r,a,d⟩:=cQ.1 e;have b:=(aG.1 a).1;simp only[List.length_replicate]at b;have m:r=z:=by rw[Ea,aJ b]at a;exact(ax a).symm
 subst m;have s:=(aG.1 d).1;have l:i*n+j<len*n:=by
  have:(i+1)*n<=len*n:=dx _ b;rw[bZ,cM]at this;omega
 have k:Z.size=n:=by rw[c.1,f]
 have o:(i*n+j)%Z.size=j:=by rw[k,lF,Nat.mul_add_mod,mV (by omega)]
 have g:j<Z.size:=by omega
 refine⟨Z[j],?_,c.2 j _ p (cU g) d⟩;rw[DU,Array.getElem?_range,aJ l];simp only[cY,o];rw[getElem!_pos Z j g]
def y7(h:(qS P t).bind (rowOf P t)=some z):∃i a,P.info? t=some i/\i.zero=some a/\(∀w,(zeroValue t).run P w = .ok a w)/\∀b w,mz b w a.cells z:=by
 obtain⟨k,g,j⟩:=cQ.1 h;have e:=g;unfold qS at e;obtain⟨a,f,rfl⟩:=bc.1 e;obtain⟨i,c,d⟩:=cQ.1 f;exact⟨i,a,c,d,fun w=>by simp[zeroValue,typeInfo,c,d],fun b w=>(lI a ⟨b,fun _=>none,fun _=>undef,fun _=>False⟩ [] w).row j⟩
def P6(c:∀r∈ak,r.length=n)(h:j9 ak i j=some p):i<ak.length/\j<n:=by
 obtain⟨r,a,b⟩:=cQ.1 h;have:=(aG.1 b).1;rw[c r (aM a)]at this;exact⟨(aG.1 a).1,this⟩
def tq(a:∀r∈ak,r.length=n)(h:j9 ak i j=some p):i*n+j<ak.length*n:=by
 obtain⟨b,c⟩:=P6 a h;have:(i+1)*n<=ak.length*n:=dx _ b;rw[bZ,cM]at this;omega
def Flat.rep(h:Flat k w n X ak)(g:Grow k w gP w')(o:w'.heap[c]?=some (.cells X elem (0,0)))(l:ak.length*n<=gP c):
  cf gP w' (.slice (some ⟨c,0,none⟩) ak.length ak.length) (.sl n ak):=by
 obtain⟨q,d,f⟩:=h;refine .sl c 0 _ _ n ak (fun i j=>X.getD (i*n+j) undef) rfl (ar _) d (fun i j p a=>?_) fun i j p a=>?_
 .obtain⟨v,b,_⟩:=f i j p a
  rw[cy,dz o];exact⟨by rw[b];simp[jE,b],gy (tq d a) l⟩
 .obtain⟨v,b,m⟩:=f i j p a
  have e:X.getD (i*n+j) undef=v:=by simp[jE,b]
  rw[e];exact m.grow g
def Flat.box(h:Flat G.bT w n X ak)(g:Grow G.bT w a.bT w')(k:a.bC b)(l:a.h (.box b)=some c)(s:a.val b = .slice (some ⟨c,0,none⟩) ak.length ak.length)(t:w'.heap[c]?=some (.cells X elem (0,0)))(m:a.bT c=0):gr P a w' b (.bk n ak):=by
 obtain⟨x,e,f⟩:=h;refine⟨k,e,.inl ⟨c,X,elem,ak.length,l,s,ar _,t,by omega,m,fun i j v p u q=>?_⟩⟩
 obtain⟨y,d,o⟩:=f i j p q;rw[u]at d;obtain rfl:=ax d;exact o.grow g
def run_buildSlice{e:Operand->Value}{t len:Nat}(M:∀p∈aT.toList,aS G ae w (e p.2) (ρ p.2))(h:plain P (.buildSlice t len aT) an k ρ=some (a,l)):
  ∃X elem n ak,a = .v (.sl n ak)/\(do pure (.value (<-Instr.buildSlice t len (aT.map fun(i,x)=>(i,e x)))):Sem Next).run P w = .ok (.value (.slice (some ⟨w.heap.size,0,none⟩) ak.length ak.length)) (w.alloc (.cells X elem))/\Flat G.bT w n X ak:=by
 simp only[plain]at h;split at h<;>try(simp at h;done)
 rename_i E o;split at h<;>try(simp at h;done)
 rename_i n z m Q;split at h<;>try(simp at h;done)
 rename_i v;simp only[cb,fF,ne_eq]at v;obtain⟨⟨Y,K⟩,A⟩:=v;obtain⟨g,J,j⟩:=bc.1 h;simp only[az]at j;obtain⟨rfl,rfl⟩:=j;obtain⟨i,q,R,F,Z,c⟩:=y7 Q;have c:=c G.bT w;obtain⟨y,b,H,I⟩:=uT (e:=e) aT.toList _ _ g J (Cm (len:=len) c Y K) M;refine⟨y,E,n,g,rfl,?_,H⟩;have s:(aT.map fun(i,x)=>(i,e x)).toList=aT.toList.map fun p=>(p.1,e p.2):=by simp
 have hlen:g.length=len:=by rw[I];simp
 rw[hlen];apply bJ;have u:¬(len*n>2^24):=by omega
 by_cases d:len*n=0
 .have T:len=0:=by rcases Nat.mul_eq_zero.1 d with h|h<;>omega
  subst T;have r:((Array.range (0*n)).map (q.cells[· % q.cells.size]!))= #[]:=by simp
  rw[r]at b;have D:∀f:Nat->Value,((Array.range (0*n)).map f)= #[]:=by intro f;simp
  simp only[Instr.buildSlice,Sem.run_bind,run_underlying o,Result.andThen_ok,dK m,aN u,aJ d,Sem.run_pure,s,D,b];simp[newRow]
 .simp only[Instr.buildSlice,Sem.run_bind,run_underlying o,Result.andThen_ok,dK m,d,if_false,Z,u,Sem.run_pure,s,b]
  simp[newRow]
def m2{e:Operand->Value}{t len:Nat}(o:Inv P w0 aR O G heap w)(y:∀p∈aT.toList,aS G ae w (e p.2) (ρ p.2))(h:plain P (.buildSlice t len aT) an k ρ=some (a,l)):
  ∃n ak,a = .v (.sl n ak)/\∃v w',(do pure (.value (<-Instr.buildSlice t len (aT.map fun(i,x)=>(i,e x)))):Sem Next).run P w = .ok (.value v) w' /\
   (∃d,lJ P w0 aR O G ae w (.v (.sl n ak)) ae heap v d w')/\(∃d,lJ P w0 aR O G ae w (.own ae.length 0 n ak) (ae++[some 0]) heap v d w')/\
   ∀nb j,cr nb [.bk n ak] heap=some j->∃d,lJ P w0 aR O G ae w (.bA nb) ae j v d w':=by
 obtain⟨X,elem,n,ak,rfl,z,f⟩:=run_buildSlice y h;refine⟨n,ak,rfl,_,_,z,?_,?_,fun nb j s=>?_⟩
 .obtain⟨g,c⟩:=o.JU (ae:=ae) (bz:=ae) (.cells X elem) X.size ae.length (ar _) fun t n h q=>⟨n,h,.inr ⟨rfl,by omega⟩⟩
  exact⟨_,.v (f.rep c.grow (heap_alloc_new w _) (by show _<=kQ _ _ _ _;rw[fM,f.1];exact ar _)),g,c⟩
 .obtain⟨g,c⟩:=o.JU (ae:=ae) (bz:=ae++[some 0]) (.cells X elem) X.size ae.length (by simp) fun t n h q=>by
   rw[ch q]at h;exact⟨n,h,.inr ⟨rfl,by omega⟩⟩
  exact⟨_,.own (by simp) (fun m u=>by simp at u;omega) (f.rep c.grow (heap_alloc_new w _) (by show _<=kQ _ _ _ _;rw[fM,f.1];exact ar _)) fun _ D=>by omega,g,c⟩
 .obtain⟨r,rfl⟩:=iy s
  obtain⟨g,c⟩:=o.wj (ae:=ae) (.cells X elem) 0 (.slice (some ⟨w.heap.size,0,none⟩) ak.length ak.length) (.bk n ak) r (by simp) fun k=>
   f.box k.grow (.inr rfl) (by simp) (by simp) (heap_alloc_new w _) (fM _ _ _)
  have E:(if nb=nb then Value.slice (some ⟨w.heap.size,0,none⟩) ak.length ak.length else G.val nb)=.slice (some ⟨w.heap.size,0,none⟩) ak.length ak.length:=aJ rfl
  refine⟨_,?_,g,c⟩;have:=aS.bA (G:=⟨kQ G.bT w.heap.size 0,fun x=>open Classical in if x = .box nb then some w.heap.size else G.h x,fun b=>if b=nb then .slice (some ⟨w.heap.size,0,none⟩) ak.length ak.length else G.val b,fun b=>G.bC b\/b=nb⟩) (ae:=ae) (w:=w.alloc (.cells X elem)) (b:=nb) (.inr rfl) (by simp[Value.oneCell'])
  simpa using this
def BW{t a n c nb:Nat}(h:Inv P w0 aR O G heap w)(D:aS G ae w V (.v (.int k m)))(E:aS G ae w U (.v (.int p m)))(r:P.underlying t=some (.slice a))(f:cq P a=some n)(e:yP P a=some c)(H:(qS P a).bind (rowOf P a)=some z)(M:z.length=n)(Y:0<n)(Z:0<c)(o:0<=m)(F:m*c<=2^47)(y:cr nb [.bk n (List.replicate m.toNat z)] heap=some l):
  ∃v w',(do pure (.value (<-Instr.makeSlice t V U)):Sem Next).run P w = .ok (.value v) w'/\∃s,lJ P w0 aR O G ae w (.bA nb) ae l v s w':=by
 rw[D.gz,E.gz];obtain⟨i,g,j,K,R,d⟩:=y7 H;have d:=d G.bT w;have u:=Cm (len:=m.toNat) d M (by omega)
 have T:i.size=n:=by
  unfold cq at f;rw[j]at f;simpa using f
 have Q:i.bytes=c:=by
  unfold yP at e;rw[j]at e;simpa using e
 have A:m<=m*c:=by
  have:m*1<=m*c:=Int.mul_le_mul_of_nonneg_left (by omega) o
  rwa [Int.mul_one]at this
 have q:=run_make (P:=P) w t a i g r j K k p m m o (ez _) (by rw[Q,Int.mul_comm];omega) (by omega)
 rw[T]at q;obtain⟨X,rfl⟩:=iy y;have hlen:(List.replicate m.toNat z).length=m.toNat:=by simp
 obtain⟨I,J⟩:=h.wj (ae:=ae) (.cells (madeCells g.cells (m.toNat*n)) a) 0 (.slice (some ⟨w.heap.size,0,none⟩) m.toNat m.toNat) (.bk n (List.replicate m.toNat z)) X (by simp) fun k=>
  u.box k.grow (.inr rfl) (by simp) (by simp[hlen]) (heap_alloc_new w _) (fM _ _ _)
 refine⟨_,_,bJ _ q,_,?_,I,J⟩;have:=aS.bA (G:=⟨kQ G.bT w.heap.size 0,fun x=>open Classical in if x = .box nb then some w.heap.size else G.h x,fun b=>if b=nb then .slice (some ⟨w.heap.size,0,none⟩) m.toNat m.toNat else G.val b,fun b=>G.bC b\/b=nb⟩) (ae:=ae) (w:=w.alloc (.cells (madeCells g.cells (m.toNat*n)) a)) (b:=nb) (.inr rfl) (by simp[Value.oneCell'])
 simpa using this
def J0(h:j9 (a++b) i j=some p):(i<a.length/\j9 a i j=some p)\/(a.length<=i/\j9 b (i-a.length) j=some p):=by
 unfold j9 at*;rcases bU i a.length with c|c
 .rw[ch c]at h;exact .inl ⟨c,h⟩
 .rw[eH c]at h;exact .inr ⟨c,h⟩
structure iz (bT:Nat->Nat) (w:World) (n:Nat) (l:List Value) (ak:List (List PV)):Prop where
 len:l.length=ak.length*n
 row:∀r∈ak,r.length=n
 get:∀i j p,j9 ak i j=some p->∃v,l[i*n+j]?=some v/\cf bT w v p
def LY(d:∀r∈ak,r.length=n)(b:j<ak.length*n):∃p,j9 ak (j/n) (j%n)=some p/\j/n*n+j%n=j:=by
 have e:0<n:=by
  rcases DT n with h|h
  .subst h;simp at b
  .exact h
 have a:j/n<ak.length:=Nat.div_lt_of_lt_mul (by rwa [lF]at b)
 have c:j%n<(ak[j/n]).length:=by rw[d _ (gL a)];exact Nat.mod_lt _ e
 exact⟨_,by simp only[j9,bo a,gi];exact bo c,Nat.div_add_mod' j n⟩
def iz.one(h:iz i w n l ak):∀u∈l,u.oneCell'=true:=by
 intro u g;obtain⟨j,a⟩:=su.1 g;have c:=(aG.1 a).1;rw[h.len]at c;obtain⟨p,e,d⟩:=LY h.row c;obtain⟨v,b,f⟩:=h.get _ _ _ e;rw[d,a]at b;obtain rfl:=ax b;exact f.fZ
def iz.grow(h:iz a w n l ak)(g:Grow a w gP w'):iz gP w' n l ak:=
 ⟨h.len,h.row,fun i j p b=>by obtain⟨v,d,c⟩:=h.get i j p b;exact⟨v,d,c.grow g⟩⟩
def iz.append(h:iz d w n l ak)(k:iz d w n m f):iz d w n (l++m) (ak++f):=by
 refine⟨by simp[h.len,k.len,bZ],fun r o=>(bn.1 o).elim (h.row r) (k.row r),fun i j p g=>?_⟩
 rcases J0 g with⟨e,b⟩|⟨e,b⟩
 .obtain⟨v,a,c⟩:=h.get i j p b
  exact⟨v,by rw[ch (aG.1 a).1];exact a,c⟩
 .obtain⟨v,a,c⟩:=k.get _ j p b
  refine⟨v,?_,c⟩;have q:ak.length*n<=i*n:=dx _ e;rw[eH (by rw[h.len];omega),h.len]
  have:i*n+j-ak.length*n=(i-ak.length)*n+j:=by
   rw[Nat.sub_mul];omega
  rw[this];exact a
def cf.flat(h:cf k w (.slice A len cap) (.sl n ak)):
  ak.length=len/\len<=cap/\∃l:List Value,iz k w n l ak/\((len=0/\cap=0)\/∃b off,A=some ⟨b,off,none⟩/\∀(j:Nat)u,l[j]?=some u->w.cell? ⟨b,off+j,none⟩=some u/\off+j<k b):=by
 cases h with
 |mZ=>exact⟨rfl,ar _,[],⟨by simp,by simp,fun i j p c=>by simp[j9]at c⟩,.inl ⟨rfl,rfl⟩⟩
 |Jy a=>exact⟨rfl,ar _,[],⟨by simp,by simp,fun i j p c=>by simp[j9]at c⟩,.inl ⟨rfl,rfl⟩⟩
 |sl b off len cap n ak u d x e r z=>
  refine⟨d,x,(List.range (len*n)).map (fun j=>u (j/n) (j%n)),⟨by simp[d],e,fun i j p c=>?_⟩,.inr ⟨b,off,rfl,fun j v o=>?_⟩⟩
  .obtain⟨D,m⟩:=P6 e c
   have q:=tq e c;rw[d]at q;refine⟨u i j,?_,z i j p c⟩;rw[bw,mr q];simp only[cY];have s:(i*n+j)/n=i:=by
    rw[lF,Nat.mul_add_div (by omega),Nat.div_eq_of_lt m];omega
   have t:(i*n+j)%n=j:=by rw[lF,Nat.mul_add_mod,mV m]
   rw[s,t]
  .rw[bw]at o
   obtain⟨E,f,rfl⟩:=bc.1 o;have g:=(aG.1 f).1;simp at g;rw[mr g]at f;obtain rfl:=ax f;obtain⟨p,c,y⟩:=LY e (by rw[d];exact g)
   have:=r _ _ _ c;rw[gI,y]at this;exact this
def uU(h:cf d w x (.sl n b)):∃A m c,x = .slice A m c:=by
 cases h with
 |mZ=>exact⟨_,_,_,rfl⟩
 |Jy a=>exact⟨_,_,_,rfl⟩
 |sl=>exact⟨_,_,_,rfl⟩
def EB(f:P.underlying tx=some (.slice i))(h:iz k w n l ak)(g:ak.length=m)(d:(m=0/\c=0)\/∃b off,A=some ⟨b,off,none⟩/\∀(j:Nat)u,l[j]?=some u->w.cell? ⟨b,off+j,none⟩=some u):Src P n tx (.slice A m c) m l w:=by
 rcases d with⟨rfl,rfl⟩|⟨b,off,rfl,d⟩
 .have:l=[]:=by have:=h.len;rw[g]at this;simpa using this
  subst this;cases A with
  |none=>exact Src.ofNil w f 0
  |some a=>exact Src.ofSlice w f _ _ _ [] (by simp) (fun j u e=>by simp at e) (by simp)
 .exact Src.ofSlice w f _ _ _ l (by rw[h.len,g]) (fun j u e=>by rw[nV];exact d j u e) h.one
def y8(v:P.underlying t=some (.slice a))(Q:P.underlying tx=some (.slice K))(F:P.info? a=some i)(I:i.zero=some z)(D:i.size=n)(T:z.cells.size=n)(g:iz G.bT w n ov ak)(hlen:ak.length=len)(hold:(len=0/\cap=0)\/∃b off,A=some ⟨b,off,none⟩/\∀(j:Nat)u,ov[j]?=some u->w.cell? ⟨b,off+j,none⟩=some u)(y:cf G.bT w x (.sl n d))(M:0<i.bytes)(e:(ak++d).length*i.bytes<=2^47)(C:cap<len+d.length):
  ∃X q,(Builtin.append_ #[t,tx] ty #[.slice A len cap,x]).run P w = .ok (.slice (some ⟨w.heap.size,0,none⟩) (ak++d).length q) (w.drew.alloc (.cells X a))/\
   (ak++d).length<=q/\q*n<=X.size/\∃l,iz G.bT w n l (ak++d)/\∀j:Nat,j<l.length->X[j]?=l[j]?:=by
 obtain⟨B,m,c,rfl⟩:=uU y;obtain⟨o,L,news,p,J⟩:=y.flat;have Z:Src P i.size tx (.slice B m c) m news w:=by
  rw[D];exact EB Q p o (J.imp id fun⟨b,off,H,h⟩=>⟨b,off,H,fun j u k=>(h j u k).1⟩)
 have R:(Builtin.firstCells i.size len (.slice A len cap)).run P w.drew = .ok ov.toArray w.drew:=by
  have:Src P i.size t (.slice A len cap) len ov w:=by
   rw[D];exact EB v g hlen hold
  exact this.cellsD
 have f:(ak++d).length=len+m:=by simp[hlen,o]
 have N:(len+m)<=2^47:=by
  rw[f]at e;exact dR (Nat.le_mul_of_pos_right _ M) e
 have r:cap<len+m:=by omega
 have E:=run_append_grow_src (P:=P) w t tx ty a i z v F I A len cap ov R (.slice B m c) m news Z r (by omega) (growslice_fits r (by rw[f]at e;exact e))
 have Y:=grownCap_ge w (len+m) cap a;generalize s:((ov++news).toArray++Builtin.zeroCells z.cells (grownCap w (len+m) cap a-(len+m)))=X at E;refine⟨X,grownCap w (len+m) cap a,by rw[f];exact E,by rw[f];exact Y,?_,ov++news,g.append p,fun j k=>?_⟩
 .rw[<-s]
  simp[Builtin.zeroCells,T,g.len,p.len,hlen,o];rw[<-bZ,<-bZ];have:len+m+(grownCap w (len+m) cap a-(len+m))=grownCap w (len+m) cap a:=by omega
  rw[this];exact ar _
 .rw[<-s,Array.getElem?_append_left (by simpa using k)]
  simp
def iz.rep(h:iz d w' n l ak)(k:∀j:Nat,j<l.length->X[j]?=l[j]?)(q:w'.heap[c]?=some (.cells X elem (0,0)))(o:ak.length*n<=d c)(m:ak.length<=g):cf d w' (.slice (some ⟨c,0,none⟩) ak.length g) (.sl n ak):=by
 have key:∀i j p,j9 ak i j=some p->∃v,X[i*n+j]?=some v/\cf d w' v p:=fun i j p b=>by
  obtain⟨v,a,f⟩:=h.get i j p b;exact⟨v,by rw[k _ (aG.1 a).1];exact a,f⟩
 refine .sl c 0 _ _ n _ (fun i j=>X.getD (i*n+j) undef) rfl m h.row (fun i j p b=>?_) fun i j p b=>?_
 .obtain⟨v,a,_⟩:=key i j p b
  rw[cy,dz q,a];exact⟨by simp[jE,a],gy (tq h.row b) o⟩
 .obtain⟨v,a,f⟩:=key i j p b
  have e:X.getD (i*n+j) undef=v:=by simp[jE,a]
  rw[e];exact f
def World.EC(h:w.heap[b]?=some (.cells X elem (0,0)))(f:off+d.length<=X.size)(e:∀v∈d,v.oneCell'=true):
  w.setCells b off d=w.setRow b (X.toList.take off++d++X.toList.drop (off+d.length)).toArray:=by
 have a:=run_storeCells_at (P:=(default:Program)) b off elem d 0 X w h (by simpa using f) e
 have c:=run_storeCells_cells (P:=(default:Program)) b off d 0 w (fun j g=>by
  rw[ik,dz h];simp;omega) (fun j g=>by simp[World.frozen?,h]) e
 rw[a]at c;injection c with _ c
 simp only[ik]at c;exact c.symm
def GP(s:P.underlying t=some (.slice g))(D:P.underlying tx=some (.slice z))(I:P.info? g=some i)(l:i.size=n)(o:cf G.bT w x (.sl n a))(J:len+a.length<=cap)(k:w.heap[b]?=some (.cells X elem (0,0)))(M:off+cap*n<=X.size):
  ∃news e,(Builtin.append_ #[t,tx] ty #[.slice (some ⟨b,off,none⟩) len cap,x]).run P w = .ok (.slice (some ⟨b,off,none⟩) (len+a.length) cap) (w.setRow b e)/\iz G.bT w n news a/\e.size=X.size /\
   (∀j,j<off+len*n->e[j]?=X[j]?)/\∀j,j<news.length->e[off+len*n+j]?=news[j]?:=by
 obtain⟨B,m,c,rfl⟩:=uU o;obtain⟨v,K,news,f,y⟩:=o.flat;subst v;have H:Src P i.size tx (.slice B a.length c) a.length news w:=by
  rw[l];exact EB D f rfl (y.imp id fun⟨b,off,q,h⟩=>⟨b,off,q,fun j u d=>(h j u d).1⟩)
 have E:off+len*n+news.length<=X.size:=by
  rw[f.len];have:(len+a.length)*n<=cap*n:=dx _ (by omega)
  rw[bZ]at this;omega
 have p:=run_append_room_src (P:=P) w t tx ty g i s I b off len cap (.slice B a.length c) a.length news H (by omega) (fun j d=>by
  rw[l,dz k];simp;omega) (fun j d=>by simp[World.frozen?,k])
 rw[l,World.EC k E f.one]at p;refine⟨news,_,p,f,by simp;omega,fun j d=>?_,fun j d=>?_⟩
 .simp only[uC]
  rw[ch (by simp;omega),ch (by simp;omega),fv,aJ d]
  simp
 .simp only[uC]
  have r:(X.toList.take (off+len*n)).length=off+len*n:=by simp;omega
  rw[ch (by simp;omega),eH (by omega),r]
  congr 1
  omega
def ra(k:P.underlying t=some (.slice f))(e:P.underlying tx=some (.slice r))(q:P.info? f=some i)(D:i.size=n)(g:len<=cap)(l:cf E w x (.sl n [])):(Builtin.append_ #[t,tx] ty #[.slice A len cap,x]).run P w = .ok (.slice A len cap) w:=by
 obtain⟨B,m,c,rfl⟩:=uU l;obtain⟨o,H,news,p,z⟩:=l.flat;simp at o;subst o;have d:Src P i.size tx (.slice B 0 c) 0 news w:=by
  rw[D];exact EB e p (by simp) (z.imp id fun⟨b,off,s,h⟩=>⟨b,off,s,fun j u v=>(h j u v).1⟩)
 have y:news=[]:=by have:=p.len;simpa using this
 subst y;cases A with
 |none=>simp[Builtin.append_,run_underlying k,run_underlying e,sizeOf,typeInfo,q,d.len,g,d.cells]
 |some a=>simp[Builtin.append_,run_underlying k,run_underlying e,sizeOf,typeInfo,q,d.len,g,d.cells,storeCells]
def tg(K:Inv P w0 aR O G heap w)(T:P.underlying t=some (.slice q))(C:P.underlying tx=some (.slice a7))(V:P.info? q=some i)(hz:i.zero=some z)(R:i.size=n)(b5:z.cells.size=n)(a9:0<i.bytes)(hV:cf G.bT w (.slice A len cap) (.sl n ak))(Y:cf G.bT w x (.sl n a))(b8:(ak++a).length*i.bytes<=2^47)(a3:bz[tk]?=some (some N8))(hlen:ae.length<=bz.length)(S:∀(t:Nat)n,bz[t]?=some (some n)->t<ae.length->∃m,ae[t]?=some (some m)/\(m<n\/(m=n/\t≠tk)))(a6:len<cap->Room G (.tok tk) w A len cap n):
  ∃v w',(Builtin.append_ #[t,tx] ty #[.slice A len cap,x]).run P w = .ok v w'/\∃G',lJ P w0 aR O G ae w (.own tk N8 n (ak++a)) bz heap v G' w':=by
 obtain⟨H,l2,ov,I,o2⟩:=hV.flat;have B:tk<bz.length:=(aG.1 a3).1;have U:∀m:Nat,bz[tk]?=some (some m)->N8<=m:=fun m f=>by rw[a3]at f;simp at f;omega
 by_cases a4:a=[]
 .subst a4
  rw[fa];have k:ck G ae w G bz w:=⟨Grow.refl _ _,fun _ h=>h,fun _ _=>rfl,hlen,fun t n h s=>by
   obtain⟨m,f,g|⟨g,_⟩⟩:=S t n h s
   .exact⟨m,f,.inl g⟩
   .exact⟨m,f,.inr ⟨g,fun b E=>⟨E,rfl,rfl⟩⟩⟩⟩
  exact⟨_,_,ra T C V R l2 Y,G,.own B U hV fun _ y=>a6 y y,K,k⟩
 .have c1:0<a.length:=DX.2 a4
  rcases bU cap (len+a.length)with J|J
  .obtain⟨X,nc,N,b7,F,l,s,a8⟩:=y8 (ty:=ty) (x:=x) T C V hz R b5 I H (o2.imp id fun⟨b,off,r,h⟩=>⟨b,off,r,fun j u hj=>(h j u hj).1⟩) Y a9 b8 J
   obtain⟨i0,k0⟩:=K.drew (ae:=ae);obtain⟨Z,k1⟩:=i0.JU (ae:=ae) (bz:=bz) (.cells X q) ((ak++a).length*n) tk hlen S;have hw:(w.drew.alloc (.cells X q)).heap[w.heap.size]?=some (.cells X q (0,0)):=heap_alloc_new w.drew _;refine⟨_,_,N,_,.own B U ?_ fun _ y=>?_,Z,k0.trans k1⟩
   .exact(s.grow (k0.trans k1).grow).rep a8 hw (by show _<=kQ _ _ _ _;rw[show w.drew.heap.size=w.heap.size from rfl,fM];exact ar _) b7
   .exact⟨w.heap.size,0,X,q,rfl,aJ rfl,by show kQ _ _ _ _=_;rw[show w.drew.heap.size=w.heap.size from rfl,fM,cy],hw,by omega⟩
  .obtain⟨b,off,X,elem,rfl,E,s,D,F⟩:=a6 (by omega) (by omega)
   obtain⟨news,c,N,n1,b4,a1,b0⟩:=GP (ty:=ty) T C V R Y J D F;rcases o2 with⟨_,h⟩|⟨b',c2,r,c0⟩
   .omega
   simp only[ay,Addr.mk.injEq,and_true]at r;obtain⟨rfl,rfl⟩:=r;have a0:(w.setRow b c).heap[b]?=some (.cells c elem (0,0)):=setRow_heap w b X c elem (0,0) D;let gP:Nat->Nat:=fun x=>if x=b then off+(len+a.length)*n else G.bT x
   have W:gP b=off+(len+a.length)*n:=by simp[gP]
   have hmul:(len+a.length)*n=len*n+a.length*n:=bZ _ _ _;obtain⟨k,b6⟩:=K.write (ae:=ae) (bz:=bz) (gP:=gP) E (w':=w.setRow b c) (by rw[size_setRow]) rfl rfl rfl (fun m f=>⟨fG w b m c f,by simp[gP,f]⟩) (by rw[W,s];omega)
    (fun o ho=>by rw[dz a0,dz D];exact a1 o (by rw[s]at ho;exact ho)) hlen (fun t m h b1=>by
     obtain⟨m',a2,g|⟨g,b2⟩⟩:=S t m h b1
     .exact⟨m',a2,.inl g⟩
     .exact⟨m',a2,.inr ⟨g,fun e=>b2 (by simpa using e.symm)⟩⟩)
   have Z:=b6 heap rfl (fun b' _=>rfl) (fun b' bx b3=>by simp[Hd.on]at b3)
   have a5:(ak++a).length=len+a.length:=by simp[H]
   refine⟨_,_,N,_,.own B U ?_ fun _ _=>?_,Z,k⟩
   .have L:=(I.grow k.grow).append (n1.grow k.grow)
    refine .sl b off _ _ n _ (fun i j=>c.getD (off+i*n+j) undef) a5 (by omega) L.row (fun i j p Q=>?_) fun i j p Q=>?_
    all_goals
     have y:=tq L.row Q;rw[a5]at y;have b9:∃v,c[off+i*n+j]?=some v/\cf gP (w.setRow b c) v p:=by
      obtain⟨v,d,M⟩:=L.get i j p Q;refine⟨v,?_,M⟩;rcases bU (i*n+j) ov.length with h|h
      .rw[ch h]at d
       have hc:=(c0 _ _ d).1;rw[dz D]at hc;have:=I.len;rw[a1 _ (by rw[H]at this;omega),gI]
       exact hc
      .rw[eH h]at d
       have h2:=(aG.1 d).1;have:=I.len;rw[H]at this;rw[<-b0 _ h2]at d;rw[show off+i*n+j=off+len*n+(i*n+j-ov.length) by omega]
       exact d
     obtain⟨v,d,M⟩:=b9
    .rw[dz a0,d]
     exact⟨by simp[jE,d],by show _<gP b;rw[W];omega⟩
    .have e:c.getD (off+i*n+j) undef=v:=by simp[jE,d]
     rw[e];exact M
   .exact⟨b,off,c,elem,rfl,E,W,a0,by rw[b4];exact F⟩
def Inv.kill(c:Inv P w0 aR O G heap w)(d:G.bC b):Inv P w0 aR O G (heap.set b .dead) w:=by
 refine⟨c.frame,fun b' h=>by rw[fc];exact c.nb b' h,fun b' bx a=>?_,c.inj,c.nN,fun b' n a=>?_⟩
 .by_cases h:b'=b
  .subst h
   rw[bQ (c.nb _ d)]at a;obtain rfl:=ax a;exact d
  .rw[bP (fun e=>h e.symm)]at a
   exact c.box _ _ a
 .by_cases h:b'=b
  .subst h
   rw[bQ (c.nb _ d)]at a;simp at a
  .rw[bP (fun e=>h e.symm)]at a
   exact c.dead _ _ a
def Inv.ED(d:Inv P w0 aR O G heap w){b nb:Nat}{V:Value}{bx:Bx}(i:G.bC b)(k:heap[nb]?=some .free)(q:bx≠.free):
  let g:Gh:=⟨G.bT,(G.dG (mv (.box b) (.box nb))).h,fun b'=>if b'=nb then V else G.val b',fun b'=>G.bC b'\/b'=nb⟩
  gr P g w nb bx->Inv P w0 aR O g ((heap.set b .dead).set nb bx) w/\ck G ae w g ae w:=by
 intro g u;have o:¬G.bC nb:=d.box _ _ k;have v:b≠nb:=fun e=>o (e▸i)
 have j:=(aG.1 k).1;have n:∀b',G.bC b'->(fun b'=>if b'=nb then V else G.val b') b'=G.val b':=fun b' h=>by
  have:b'≠nb:=fun e=>o (e▸h)
  simp[this]
 have p:ck G ae w g ae w:=.ghost _ (fun _ h=>.inl h) n (ar _) fun t m h _=>⟨m,h,.inr ⟨rfl,ee (by simp) (by simp)⟩⟩
 refine⟨d.ghost _ (Ez _ _) (fun b' h=>?_) (fun b' uM a=>?_) (fun b' m a=>?_),p⟩
 .rw[fc,fc]
  rcases h with h|rfl
  .exact d.nb b' h
  .exact j
 .by_cases c:b'=nb
  .subst c
   rw[bQ (by simpa using j)]at a
   obtain rfl:=ax a;exact u
  .rw[bP (fun e=>c e.symm)]at a
   by_cases f:b'=b
   .subst f
    rw[bQ (d.nb _ i)]at a;obtain rfl:=ax a;exact .inl i
   .rw[bP (fun e=>f e.symm)]at a
    refine(d.box b' uM a).dG (fun _ h=>.inl h) n (fun s=>?_) fun x l=>ee (fun e=>?_) fun e=>?_
    .subst s
     have:=d.box _ _ a;rintro(h|h)
     .exact this h
     .exact c h
    .subst e;exact c l.symm
    .subst e;exact f l.symm
 .by_cases c:b'=nb
  .subst c
   rw[bQ (by simpa using j)]at a
   exact absurd (ax a) q
  .rw[bP (fun e=>c e.symm)]at a
   by_cases f:b'=b
   .subst f
    rw[bQ (d.nb _ i)]at a;simp at a
   .rw[bP (fun e=>f e.symm)]at a
    have:=d.dead b' m a;simpa[Gh.dG,ee (x:=.box b) (y:=.box nb) (z:=.box b') (by simpa using c) (by simpa using f)]using this
def aS.N9{v:Value}(a:G.bC b)(d:G.val b=v)(c:v.oneCell'=true):aS G ae w v (.bA b):=by
 subst d;exact .bA a c
def Inv.EE(v:Inv P w0 aR O G heap w)(f:aS G ae w V (.bA b))(u:heap[b]?=some (.bk n ak)):
  V=G.val b/\G.bC b/\(∀r∈ak,r.length=n)/\∃A cap ov,V = .slice A ak.length cap/\ak.length<=cap/\iz G.bT w n ov ak /\
   ((ak.length=0/\cap=0)\/∃a X elem,A=some ⟨a,0,none⟩/\G.h (.box b)=some a/\w.heap[a]?=some (.cells X elem (0,0))/\cap*n<=X.size/\G.bT a=0/\ov=X.toList.take (ak.length*n)):=by
 have t:V=G.val b/\G.bC b:=by
  cases f with
  |bA c y=>exact⟨rfl,c⟩
 obtain⟨rfl,c⟩:=t;obtain⟨_,e,⟨a,X,elem,cap,m,g,k,o,l,q,s⟩|⟨rfl,A,g⟩⟩:=v.box _ _ u
 .have z:ak.length*n<=X.size:=dR (dx _ k) l
  refine⟨rfl,c,e,_,cap,X.toList.take (ak.length*n),g,k,⟨by simp;omega,e,fun i j p d=>?_⟩,.inr ⟨a,X,elem,rfl,m,o,l,q,rfl⟩⟩
  have x:=tq e d;have f:X[i*n+j]?=some X[i*n+j]:=cU (by omega)
  exact⟨_,by rw[fv,aJ x];simpa using f,s _ _ _ _ f d⟩
 .exact⟨rfl,c,e,A,0,[],g,ar _,⟨by simp,by simp,fun i j p d=>by simp[j9]at d⟩,.inl ⟨rfl,rfl⟩⟩
def iz.box(h:iz G.bT w n l ak)(g:G.bC b)(k:G.h (.box b)=some a)(t:G.val b = .slice (some ⟨a,0,none⟩) ak.length cap)(u:w.heap[a]?=some (.cells X elem (0,0)))(f:ak.length<=cap)(s:cap*n<=X.size)(m:G.bT a=0)(e:∀j:Nat,j<l.length->X[j]?=l[j]?):gr P G w b (.bk n ak):=by
 refine⟨g,h.row,.inl ⟨a,X,elem,cap,k,t,f,u,s,m,fun i j v p c q=>?_⟩⟩
 obtain⟨x,d,o⟩:=h.get i j p q;rw[e _ (aG.1 d).1,d]at c;obtain rfl:=ax c;exact o
def BX(c:Inv P w0 aR O G heap w)(E:P.underlying t=some (.slice g))(J:P.underlying tx=some (.slice U))(Y:P.info? g=some i)(B:i.zero=some z)(I:i.size=n)(a2:z.cells.size=n)(a0:0<i.bytes)(o:cf G.bT w x (.sl n d))(a3:d.length*i.bytes<=2^47)(Z:cr nb [.bk n d] heap=some u):
  ∃v w',(Builtin.append_ #[t,tx] ty #[.slice none 0 0,x]).run P w = .ok v w'/\∃f,lJ P w0 aR O G ae w (.bA nb) ae u v f w':=by
 obtain⟨s,rfl⟩:=iy Z;have a4:¬G.bC nb:=c.box _ _ s;have q:=(aG.1 s).1;by_cases K:d=[]
 .subst K
  let f:Gh:=⟨G.bT,(G.dG some).h,fun b'=>if b'=nb then .slice none 0 0 else G.val b',fun b'=>G.bC b'\/b'=nb⟩
  have T:∀b',G.bC b'->(fun b'=>if b'=nb then Value.slice none 0 0 else G.val b') b'=G.val b':=fun b' h=>by
   have:b'≠nb:=fun e=>a4 (e▸h)
   simp[this]
  have F:ck G ae w f ae w:=.ghost _ (fun _ h=>.inl h) T (ar _) fun t m h _=>⟨m,h,.inr ⟨rfl,rfl⟩⟩
  refine⟨_,_,ra E J Y I (ar _) o,f,.N9 (.inr rfl) (by simp[f]) rfl,c.ghost some (fun x y z b r=>by simp at b r;rw[b,r]) (fun b' h=>?_) (fun b' bx a=>?_) (fun b' m a=>?_),F⟩
  .rw[fc]
   rcases h with h|rfl
   .exact c.nb b' h
   .exact q
  .by_cases b:b'=nb
   .subst b
    rw[bQ q]at a;obtain rfl:=ax a;exact⟨.inr rfl,by simp,.inr ⟨rfl,none,by simp⟩⟩
   .rw[bP (fun e=>b e.symm)]at a
    refine(c.box b' bx a).dG (fun _ h=>.inl h) T (fun a1=>?_) fun x o=>rfl
    subst a1;have:=c.box _ _ a;rintro(h|h)
    .exact this h
    .exact b h
  .by_cases b:b'=nb
   .subst b
    rw[bQ q]at a;simp at a
   .rw[bP (fun e=>b e.symm)]at a
    have:=c.dead b' m a;simpa[Gh.dG]using this
 .have a5:0<d.length:=DX.2 K
  obtain⟨X,S,Q,M,W,l,D,V⟩:=y8 (ty:=ty) (x:=x) (A:=none) (len:=0) (cap:=0) (ak:=[]) (ov:=[]) (G:=G) E J Y B I a2 ⟨by simp,by simp,fun i j p R=>by simp[j9]at R⟩ rfl (.inl ⟨rfl,rfl⟩) o a0 (by simpa using a3) (by omega)
  simp only[dT]at Q M D;obtain⟨C,H⟩:=c.drew (ae:=ae);obtain⟨L,N⟩:=C.wj (ae:=ae) (.cells X g) 0 (.slice (some ⟨w.heap.size,0,none⟩) d.length S) (.bk n d) s (by simp) fun k=>
   iz.box (D.grow (H.trans k).grow) (.inr rfl) (aJ rfl) (aJ rfl) (heap_alloc_new w.drew _) M W (fM _ _ _) V
  refine⟨_,_,Q,_,?_,L,H.trans N⟩;exact .N9 (.inr rfl) (aJ rfl) rfl
def BY(K:Inv P w0 aR O G heap w)(F:P.underlying t=some (.slice Y))(L:P.underlying tx=some (.slice a5))(U:P.info? Y=some i)(hz:i.zero=some z)(C:i.size=n)(b0:z.cells.size=n)(a9:0<i.bytes)(hs:aS G ae w s (.bA b))(H:heap[b]?=some (.bk n ak))(R:cf G.bT w x (.sl n a))(b2:(ak++a).length*i.bytes<=2^47)(hf:cr nb [.bk n (ak++a)] (heap.set b .dead)=some h'):
  ∃v w',(Builtin.append_ #[t,tx] ty #[s,x]).run P w = .ok v w'/\∃G',lJ P w0 aR O G ae w (.bA nb) ae h' v G' w':=by
 obtain⟨W,rfl⟩:=iy hf;have a8:=(aG.1 H).1;obtain⟨hV,I,hr,A,cap,ov,rfl,B,o,D⟩:=K.EE hs H;have a0:b≠nb:=fun e=>by
  subst e;rw[bQ a8]at W;simp at W
 have S:heap[nb]?=some .free:=by rwa [bP a0]at W
 have b4:(heap.set b .dead).set nb (.bk n (ak++a))=(heap.set nb (.bk n (ak++a))).set b .dead:=by
  rw[List.set_comm _ _ a0]
 by_cases a3:a=[]
 .subst a3
  rw[fa];obtain⟨y,g⟩:=K.ED (ae:=ae) (nb:=nb) (V:=.slice A ak.length cap) (bx:=.bk n ak) I S (by simp) (by
   refine⟨.inr rfl,hr,?_⟩;rcases D with⟨d,c⟩|⟨m,X,elem,rfl,d,c,Z,q,r⟩
   .have:ak=[]:=hX.1 d
    subst this;subst c;exact .inr ⟨rfl,A,by simp⟩
   .refine .inl ⟨m,X,elem,cap,by simp[Gh.dG,sB,d],by simp,B,c,Z,q,fun i j v p hv hq=>?_⟩
    obtain⟨v',T,hp⟩:=o.get i j p hq;have Q:=tq hr hq;rw[r,fv,aJ Q]at T;simp at T;rw[hv]at T;obtain rfl:=ax T;exact hp)
  refine⟨_,_,ra F L U C B R,_,?_,y,g⟩;exact .N9 (.inr rfl) (aJ rfl) rfl
 .have b6:0<a.length:=DX.2 a3
  rcases bU cap (ak.length+a.length)with J|J
  .obtain⟨X,nc,N,b1,a7,l,hl,a6⟩:=y8 (ty:=ty) (x:=x) (G:=G) F L U hz C b0 o rfl (D.imp id fun⟨m,X,elem,D,d,c,Z,q,r⟩=>⟨m,0,D,fun j u f=>by
    rw[r,fv]at f;split at f<;>try(simp at f;done)
    rw[cy,dz c];simpa using f⟩) R a9 b2 J
   obtain⟨i0,k0⟩:=K.drew (ae:=ae);obtain⟨y,g⟩:=i0.wj (ae:=ae) (.cells X Y) 0 (.slice (some ⟨w.heap.size,0,none⟩) (ak++a).length nc) (.bk n (ak++a)) S (by simp) fun k=>
    iz.box (hl.grow (k0.trans k).grow) (.inr rfl) (aJ rfl) (aJ rfl) (heap_alloc_new w.drew _) b1 a7 (fM _ _ _) a6
   have M:=y.kill (b:=b) (.inl I);rw[<-b4]at M;refine⟨_,_,N,_,?_,M,k0.trans g⟩;exact .N9 (.inr rfl) (aJ rfl) rfl
  .rcases D with⟨d,c⟩|⟨m,X,elem,rfl,d,c,Z,q,r⟩
   .omega
   obtain⟨news,E,N,n1,b5,a2,a1⟩:=GP (ty:=ty) (off:=0) F L U C R J c (by omega)
   simp only[cy]at a2 a1;have a4:∀j,j<ov.length->E[j]?=ov[j]?:=fun j f=>by
    have Q:j<ak.length*n:=by rw[<-o.len];exact f
    rw[a2 j Q,r,fv,aJ Q];simp
   obtain⟨y,g⟩:=K.EA (ae:=ae) (uM:=.bk n ak) (X:=E) H d q (by simp) fun k=>
    iz.box (o.grow k.grow) I d hV.symm (setRow_heap w m X E elem (0,0) c) B (by omega) q a4
   have b3:heap.set b (.bk n ak)=heap:=by
    apply fu;intro j;rw[iN];split
    .subst_vars;exact H.symm
    .rfl
   rw[b3]at y;obtain⟨M,k2⟩:=y.ED (ae:=ae) (nb:=nb) (V:=.slice (some ⟨m,0,none⟩) (ak.length+a.length) cap) (bx:=.bk n (ak++a)) I S (by simp) (by
    refine iz.box (l:=ov++news) (cap:=cap) ((o.grow g.grow).append (n1.grow g.grow)) (.inr rfl) (by simp[Gh.dG,sB,d]) (by simp) (setRow_heap w m X E elem (0,0) c) (by rw[dw];exact J) (by omega) q fun j f=>?_
    rcases bU j ov.length with h|h
    .rw[ch h];exact a4 j h
    .rw[eH h,<-a1 _ (by simp at f;omega),o.len]
     congr 1
     rw[o.len]at h;omega)
   refine⟨_,_,N,_,?_,M,g.trans k2⟩;exact .N9 (.inr rfl) (aJ rfl) rfl
def EF(u:Inv P w0 aR O G heap w)(F:P.underlying t=some (.slice m))(Z:cq P m=some k)(B:aS G ae w V (.bA b))(s:heap[b]?=some (.bk n ak))(z:a<=ak.length)(T:cr nb [.bk n (ak.take a)] (heap.set b .dead)=some o):
  ∃v w',(do pure (.value (<-Instr.sliceAt t V none (some (.int kk (a:Int))) none)):Sem Next).run P w = .ok (.value v) w'/\∃H,lJ P w0 aR O G ae w (.bA nb) ae o v H w':=by
 obtain⟨l,rfl⟩:=iy T;have S:=(aG.1 s).1;obtain⟨hV,Q,x,A,cap,ov,rfl,a2,a0,q⟩:=u.EE B s;have U:b≠nb:=fun e=>by
  subst e;rw[bQ S]at l;simp at l
 have a1:heap[nb]?=some .free:=by rwa [bP U]at l
 have I:(Instr.sliceBound (.int kk (a:Int)) cap .sliceAcap).run P w = .ok a w:=by
  have:(a:Int)<=(cap:Int):=by omega
  simp[Instr.sliceBound,asIntOf,this]
 have E:(Instr.sliceAt t (.slice A ak.length cap) none (some (.int kk (a:Int))) none).run P w = .ok (.slice (if cap=0 then A else A.map (·.add (0*k))) (a-0) (cap-0)) w:=by
  simp[Instr.sliceAt,Instr.slice,run_underlying F,Instr.sliceBounds,I,dK Z]
 have N:(if cap=0 then A else A.map (·.add (0*k)))=A:=by
  split
  .rfl
  .rcases q with⟨_,h⟩|⟨y,X,elem,rfl,_⟩
   .omega
   .simp[nV]
 rw[N,Nat.sub_zero,Nat.sub_zero]at E;obtain⟨C,L⟩:=u.ED (ae:=ae) (nb:=nb) (V:=.slice A a cap) (bx:=.bk n (ak.take a)) Q a1 (by simp) (by
  refine⟨.inr rfl,fun r h=>x r (sr h),?_⟩
  rcases q with⟨f,g⟩|⟨y,X,elem,rfl,f,g,J,K,M⟩
  .have:ak=[]:=hX.1 f
   subst this;subst g;have:a=0:=by simpa using z
   subst this;exact .inr ⟨by simp,A,by simp⟩
  .refine .inl ⟨y,X,elem,cap,by simp[Gh.dG,sB,f],by simp[z],by simp;omega,g,J,K,fun i j v p R c=>?_⟩
   have D:j9 ak i j=some p:=by
    unfold j9 at c⊢;rw[fv]at c;split at c
    .exact c
    .simp at c
   obtain⟨v',d,Y⟩:=a0.get i j p D;have W:=tq x D;rw[M,fv,aJ W]at d;simp at d;rw[R]at d;obtain rfl:=ax d;exact Y)
 refine⟨_,_,bJ _ E,_,?_,C,L⟩;exact .N9 (.inr rfl) (aJ rfl) rfl
def EG{t f n b:Nat}{i:Int}(k:Inv P w0 aR O G heap w)(o:aS G ae w V (.bA b))(c:heap[b]?=some (.bk n ak)\/heap[b]?=some (.uH n ak))(m:P.underlying t=some (.slice f))(l:cq P f=some n)(h:0<=i/\i<ak.length):Plain P G ae w (do pure (.value (<-Instr.indexAt t V (.int kk i)))) (.fV b n i 0):=by
 rcases c with c|c
 .obtain⟨d,e,y,A,cap,ov,rfl,K,M,q⟩:=k.EE o c
  rcases q with⟨p,_⟩|⟨J,X,elem,rfl,p,z,r,D,E⟩
  .omega
  .refine .pure (bJ _ (m1 m l h _)) ?_
   have:=aS.fV (G:=G) (ae:=ae) (w:=w) (b:=b) (n:=n) (j:=0) (i:=i) e ⟨h.1,by omega⟩ d.symm
   simpa using this
 .obtain⟨e,g⟩:=k.box _ _ c
  have d:V=G.val b:=by cases o;rfl
  subst d;generalize s:G.val b=v at g;cases g with
  |mZ=>simp at h;omega
  |Jy a=>simp at h;omega
  |sl b' off len cap n ak u x H y Q I=>
   subst x;refine .pure (bJ _ (m1 m l h _)) ?_;have:=aS.fV (G:=G) (ae:=ae) (w:=w) (b:=b) (n:=n) (j:=0) (i:=i) e ⟨h.1,by omega⟩ s
   simpa using this
def J1(a:kO P c p=true)(h:cf e w v p):∃d,P.underlying c=some d/\MapKept.IsKey d v:=by
 unfold kO at a;split at a
 .rename_i k f n b
  cases h;exact⟨_,b,by have:=aV a;simp[MapKept.IsKey,this]⟩
 .rename_i b
  cases h;exact⟨_,b,by simp[MapKept.IsKey]⟩
 .simp at a
def key_eq(z:P.underlying g=some d)(c:kO P g p=true)(b:kO P g f=true)(h:cf o w v p)(m:cf o w j f):
  Instr.sameNow d v j=some (l0 p f)/\(l0 p f=true->f=p/\j=v):=by
 unfold kO at c b;rw[z]at c b;split at c
 .rename_i k r n l
  obtain rfl:=ax l;split at b
  .rename_i D E H q
   simp only[ay,TypeDesc.int.injEq]at q;subst q;have t:=aV c;have u:=aV b;subst t;subst u;cases h;cases m;refine⟨by simp[Instr.sameNow,l0],fun a=>?_⟩
   simp[l0]at a;subst a;exact⟨rfl,rfl⟩
  .simp_all
  .simp at b
 .rename_i l
  obtain rfl:=ax l;split at b
  .simp_all
  .cases h with
   |str s=>
    cases m with
    |str i=>
     have e:(s==i)=(s.data.toList==i.data.toList):=by
      rw[beq_toListBytes,ByteArray.toList_eq,ByteArray.toList_eq]
     refine⟨by simp only[Instr.sameNow,l0,e],fun a=>?_⟩
     simp only[l0,beq_iff_eq]at a;refine⟨by rw[a],?_⟩
     obtain⟨⟨x⟩⟩:=s;obtain⟨⟨y⟩⟩:=i;simp at a;rw[a]
  .simp at b
 .simp at c
def Co(h:kO P a p=true):l0 p p=true:=by
 unfold kO at h;split at h<;>simp[l0]at*
def Oa(p q:PV):l0 p q=l0 q p:=by
 cases p<;>cases q<;>simp[l0,Bool.beq_comm,BEq.comm]
def uV(u:P.underlying t=some d)(v:kO P t key=true)(r:cf D w j key):∀(l:List MapEntry)(b:List (PV×AV))(c:Nat),l.length=b.length ->
  (∀(i:Nat)e x,l[i]?=some e->b[i]?=some x->cf D w e.key x.1)->(∀x∈b,kO P t x.1=true)->
  (cE b key=none/\Instr.findNow d j l c=some none/\(∀a,cw b key a=b++[(key,a)])/\kW b key=b/\∀x∈b,l0 key x.1=false) \/
  (∃i e x,l[i]?=some e/\b[i]?=some x/\x.1=key/\e.key=j/\cE b key=some x.2/\Instr.findNow d j l c=some (some (c+i,e.val))/\(∀a,cw b key a=b.set i (key,a))/\kW b key=b.eraseIdx i)
 |[],[],c,_,_,_=>.inl ⟨rfl,rfl,fun _=>rfl,rfl,by simp⟩
 |e::l,x::b,c,g,z,h=>by
  obtain⟨f,q⟩:=key_eq u v (h x (aX ..)) r (z 0 e x rfl rfl);cases hb:l0 key x.1 with
  |true=>
   obtain⟨H,I⟩:=q hb;rw[hb]at f;exact .inr ⟨0,e,x,rfl,rfl,H,I,by simp[cE,hb],by simp[Instr.findNow,f],fun a=>by simp[cw,hb],by simp[kW,hb]⟩
  |false=>
   rw[hb]at f;rcases uV u v r l b (c+1) (by simpa using g) (fun i e x f q=>z (i+1) e x (by simpa using f) (by simpa using q)) (fun x Q=>h x (aW _ Q))with⟨k,m,n,o,p⟩|⟨i,E,T,k,m,n,o,p,J,K,M⟩
   .exact .inl ⟨by simp[cE,hb,k],by simp[Instr.findNow,f,m],fun a=>by simp[cw,hb,n],by simp[kW,hb,o],fun y s=>by
     rcases aZ.1 s with rfl|s
     .exact hb
     .exact p y s⟩
   .exact .inr ⟨i+1,E,T,by simpa using k,by simpa using m,n,o,by simp[cE,hb,p],by simp[Instr.findNow,f,J];omega,fun a=>by simp[cw,hb,K],by simp[kW,hb,M]⟩
 |[],x::b,c,g,_,_=>by simp at g
 |e::l,[],c,g,_,_=>by simp at g
def x0.push(h:x0 f clock n)(k v:Value):x0 (f.push {key:=k,val:=v,born:=clock}) (clock+1) (n+1):=by
 refine⟨by simp[h.1],fun x c=>?_,?_⟩
 .rw[Array.toList_push]at c
  rcases bn.1 c with c|c
  .exact Nat.lt_succ_of_lt (h.2.1 x c)
  .simp at c;subst c;exact Nat.lt_succ_self _
 .rw[Array.toList_push,bM]
  refine uv.2 ⟨h.2.2,by simp,fun a g b d e=>?_⟩
  simp at d;subst d;obtain⟨x,c,rfl⟩:=bh.1 g;exact absurd (h.2.1 x c) (by omega)
def x0.modify(h:x0 a clock n)(i:Nat)(k v:Value):x0 (a.modify i fun e=>{e with key:=k,val:=v}) clock n:=by
 have e:(a.modify i fun e=>{e with key:=k,val:=v}).toList.map (·.born)=a.toList.map (·.born):=by
  apply fu;intro j;simp only[bw,hQ,yn];by_cases b:i=j
  .subst b;cases a[i]?<;>simp
  .rw[aN b]
 refine⟨by simp[h.1],fun x c=>?_,by rw[e];exact h.2.2⟩
 have:x.born∈a.toList.map (·.born):=by rw[<-e];exact bh.2 ⟨x,c,rfl⟩
 obtain⟨y,d,e⟩:=bh.1 this;rw[<-e];exact h.2.1 y d
def x0.erase(h:x0 a clock n)(d:i<n):x0 (a.eraseIdxIfInBounds i) clock (n-1):=by
 have c:i<a.size:=by rw[h.1];exact d
 have e:(a.eraseIdxIfInBounds i).toList=a.toList.eraseIdx i:=by
  rw[JC,dif_pos c,Array.toList_eraseIdx]
 refine⟨by rw[JC,dif_pos c,Array.size_eraseIdx,h.1],fun x b=>?_,?_⟩
 .rw[e]at b
  exact h.2.1 x (Eb b)
 .rw[e]
  exact h.2.2.sublist ((List.eraseIdx_sublist _ _).map _)
def Inv.J2(D:Inv P w0 aR O G heap w)(g:aS G ae w V (.mp b))(h:heap[b]?=some (.map t c))(E:P.underlying t=some (.map l n)):
  ∃a d clock,V = .map (some a)/\G.bC b/\G.val b = .map (some a)/\G.h (.box b)=some a/\w.heap[a]?=some (.map d clock)/\x0 d clock c.length/\(∀x∈c,x.2.JL=true/\kO P l x.1=true)/\
   (c.map (·.1)).Pairwise (fun k H=>l0 k H=false)/\∀(i:Nat)e x,d[i]?=some e->c[i]?=some x->cf G.bT w e.key x.1/\oO G w (.oq b x.1) e.val x.2:=by
 have z:V=G.val b:=by cases g;rfl
 subst z;obtain⟨a,d,clock,r,o,j,p,q,s,u,v⟩:=D.box _ _ h;refine⟨a,d,clock,j,r,j,o,p,q,fun x g=>?_,u,v⟩
 obtain⟨y,J,I,f,m⟩:=s x g;rw[E]at f;simp only[ay,TypeDesc.map.injEq]at f;rw[f.1];exact⟨y,m⟩
def oO.rep(h:oO G w x v a)(d:∀n ak,a≠.j8 n ak):aS G ae w v a:=by
 by_cases b:∃ps,a = .agg ps
 .obtain⟨ps,rfl⟩:=b
  exact aS.ofNil h rfl
 .have c:=(mH fun ps e=>b ⟨ps,e⟩).1 h
  have:=c.view (ae:=ae);have e:a.view=a:=by cases a<;>first|rfl|exact absurd rfl (d _ _)
  rwa [e]at this
def GQ(g:Inv P w0 aR O G heap w)(f:cr nb [.map t []] heap=some b):
  ∃v w',(do pure (.value (<-Instr.makeMap t none)):Sem Next).run P w = .ok (.value v) w'/\∃a,lJ P w0 aR O G ae w (.mp nb) ae b v a w':=by
 obtain⟨o,rfl⟩:=iy f;obtain⟨m,n⟩:=g.wj (ae:=ae) (.map #[] 0) 0 (.map (some w.heap.size)) (.map t []) o (by simp) fun k=>
  ⟨w.heap.size, #[],0,.inr rfl,aJ rfl,aJ rfl,heap_alloc_new w _,⟨rfl,by simp,by simp⟩,by simp,by simp,fun i e x p c=>by simp at c⟩
 refine⟨_,_,bJ _ (run_makeMap_plain w t),_,?_,m,n⟩;have:∀(a:Gh)(v:Value),a.bC nb->a.val nb=v->v.oneCell'=true->aS a ae (w.alloc (.map #[] 0)) v (.mp nb):=by
  intro a v d l j;subst l;exact .mp d j
 exact this _ _ (.inr rfl) (aJ rfl) rfl
def y9(j:P.underlying t=some (.map l f))(a:P.underlying l=some d)(g:MapKept.IsKey d b)(k:w.heap[m]?=some (.map e clock))(h:(∃i,Instr.findNow d b e.toList 0=some (some (i,v))/\B=true)\/(Instr.findNow d b e.toList 0=some none/\B=false/\(zeroValue f).run P w = .ok v w)):
  (Instr.lookup t (.map (some m)) b ok).run P w = .ok (if ok then .tuple #[v,.bool B]else v) w:=by
 rcases h with⟨i,c,rfl⟩|⟨c,rfl,n⟩
 .simp[Instr.lookup,run_underlying j,MapKept.run_getObj_map k,MapKept.run_checkKey a g,MapKept.run_findKey a c]
 .simp[Instr.lookup,run_underlying j,MapKept.run_getObj_map k,MapKept.run_checkKey a g,MapKept.run_findKey a c,n]
def yv{ok B:Bool}(h:aS e bz w' v a):aS e bz w' (if ok then .tuple #[v,.bool B]else v) (match ok with|true=>.xZ [a,.v (.bool B)]|false=>a):=by
 cases ok with
 |false=>exact h
 |true=>
  refine .xZ rfl fun j u b d c=>?_
  match j with
  |0=>simp at d c;subst d;subst c;exact h
  |1=>simp at d c;subst d;subst c;exact .l4 _
  |j+2=>simp at c
def J3(u:Inv P w0 aR O G heap w)(E:aS G ae w V (.mp b))(a3:cf G.bT w K key)(hb:heap[b]?=some (.map t g))(D:P.underlying t=some (.map B T))(Z:kO P B key=true):
  (cE g key=none->∀z,qS P T=some z->Plain P G ae w (do pure (.value (<-Instr.lookup t V K ok))) (match ok with|true=>.xZ [z,.v (.bool false)]|false=>z))/\
  (∀a,cE g key=some a->(∀n ak,a≠.j8 n ak)->Plain P G ae w (do pure (.value (<-Instr.lookup t V K ok))) (match ok with|true=>.xZ [a,.v (.bool true)]|false=>a))/\
  (∀n ak,cE g key=some (.j8 n ak)->Plain P G ae w (do pure (.value (<-Instr.lookup t V K ok))) (match ok with|true=>.xZ [.v (.sl n ak),.v (.bool true)]|false=>.v (.sl n ak))/\
   ∃v,(do pure (.value (<-Instr.lookup t V K ok)):Sem Next).run P w = .ok (.value v) w/\∃G',lJ P w0 aR O G ae w (match ok with|true=>.xZ [.own ae.length 0 n ak,.v (.bool true)]|false=>.own ae.length 0 n ak) (ae++[some 0])
    (heap.set b (.map t (cw g key (.v (.sl n ak))))) v G' w):=by
 obtain⟨b1,a6,clock,rfl,he,hv,hh,R,a5,U,a4,r⟩:=u.J2 E hb D;have hs:=a5.1;obtain⟨d,Y,W⟩:=J1 Z a3;have I:=uV Y Z a3 a6.toList g 0 (by simpa using hs) (fun i e x k f=>(r i e x (by simpa using k) f).1) (fun x E=>(U x E).2)
 refine⟨fun s z hz=>?_,fun a s hc=>?_,fun n ak s=>?_⟩
 .rcases I with⟨_,o,_⟩|⟨i,e,x,_,_,_,_,p,_⟩
  .obtain⟨zv,b7,rfl⟩:=Cg hz
   exact .pure (bJ _ (y9 D Y W R (.inr ⟨o,rfl,b7 w⟩))) (yv (lI _ _ _ _))
  .rw[s]at p;simp at p
 .rcases I with⟨c,_⟩|⟨i,e,x,c,o,X,g4,p,N,_⟩
  .rw[s]at c;simp at c
  .rw[s]at p
   obtain rfl:=ax p;have L:=(r i e x (by simpa using c) o).2
   exact .pure (bJ _ (y9 D Y W R (.inl ⟨_,N,rfl⟩))) (yv (L.rep hc))
 .rcases I with⟨c,_⟩|⟨i,e,x,c,o,X,g4,p,N,g7,_⟩
  .rw[s]at c;simp at c
  .rw[s]at p
   have b6:=ax p;have L:=(r i e x (by simpa using c) o).2
   rw[<-b6,X]at L;have a9:eI G w (.oq b key) e.val (.j8 n ak):=L;obtain⟨A,len,cap,b3,F,b8⟩:=a9.2;have a8:=y9 (ok:=ok) D Y W R (.inl ⟨_,N,rfl⟩);refine⟨.pure (bJ _ a8) (yv (.v F)),_,bJ _ a8,?_⟩;have a0:=(aG.1 hb).1;have a2:ck G ae w ⟨G.bT,(G.dG (mv (.oq b key) (.tok ae.length))).h,G.val,G.bC⟩ (ae++[some 0]) w:=by
    refine .ghost _ (fun _ h=>h) (fun _ _=>rfl) (by simp) fun t m k f=>?_
    rw[ch f]at k;refine⟨m,k,.inr ⟨rfl,ee (fun e=>?_) (by simp)⟩⟩
    simp only[Hd.tok.injEq]at e;omega
   rw[g7];have C:=(aG.1 o).1;refine⟨⟨G.bT,(G.dG (mv (.oq b key) (.tok ae.length))).h,G.val,G.bC⟩,yv ?_,u.ghost (mv (.oq b key) (.tok ae.length)) (Ez _ _) (fun b' h=>by rw[fc];exact u.nb b' h) (fun b' bx l=>?_) (fun b' m l=>?_),a2⟩
   .rw[b3]at F⊢
    exact .own (by simp) (fun m J=>by simp at J;omega) F fun _=>b8.bD fun m J=>⟨by simp[Gh.dG,sB,J],rfl,rfl⟩
   .by_cases H:b'=b
    .subst H
     rw[bQ a0]at l;obtain rfl:=ax l;refine⟨b1,a6,clock,he,?_,hv,R,by rw[fc];exact a5,fun M b5=>?_,?_,fun j Q M k f=>?_⟩
     .simp[Gh.dG,ee (x:=.oq b' key) (y:=.tok ae.length) (z:=.box b') (by simp) (by simp),hh]
     .rcases uF b5 with h|rfl
      .exact⟨(U _ h).1,B,T,D,(U _ h).2⟩
      .exact⟨rfl,B,T,D,Z⟩
     .have:(g.set i (key,AV.v (.sl n ak))).map (·.1)=g.map (·.1):=by
       rw[List.map_set];apply fu;intro q;rw[iN];split
       .subst_vars;simp[(aG.1 o).2,C]
       .rfl
      rw[this];exact a4
     .by_cases S:i=j
      .subst S
       rw[bQ C]at f;obtain rfl:=ax f;have b2:Q=e:=by rw[hQ]at c;rw[c]at k;exact(ax k).symm
       subst b2;refine⟨by have:=(r i Q x k o).1;rw[X]at this;exact this,?_⟩
       exact(mH (by simp)).2 ⟨a9.1,.v F⟩
      .rw[bP S]at f
       refine⟨(r j Q M k f).1,(r j Q M k f).2.bD a2.low fun m J=>⟨?_,rfl,rfl⟩⟩
       have b4:(Hd.oq b' M.1)≠.oq b' key:=by
        intro e2;simp only[Hd.oq.injEq,true_and]at e2;have a1:=(aG.1 f).1;have b0:l0 key key=true:=Co Z;have p1:(g.map (·.1))[i]?=some key:=by simp[o,X]
        have p2:(g.map (·.1))[j]?=some key:=by simp[f,e2]
        have a7:=yr.1 a4;rcases Nat.lt_trichotomy i j with h|h|h
        .have:=a7 i j (by simpa using C) (by simpa using a1) h
         rw[(aG.1 p1).2,(aG.1 p2).2,b0]at this;simp at this
        .exact S h
        .have:=a7 j i (by simpa using a1) (by simpa using C) h
         rw[(aG.1 p1).2,(aG.1 p2).2,b0]at this;simp at this
       simp[Gh.dG,ee (x:=.oq b' key) (y:=.tok ae.length) (z:=.oq b' M.1) (by simp) b4,J]
    .rw[bP (fun e=>H e.symm)]at l
     refine(u.box b' bx l).dG (fun _ h=>h) (fun _ _=>rfl) (fun I=>by subst I;exact u.box _ _ l) fun x E=>ee (fun e=>?_) fun e=>?_
     .subst e;exact E
     .subst e;exact H E.symm
   .by_cases H:b'=b
    .subst H
     rw[bQ a0]at l;simp at l
    .rw[bP (fun e=>H e.symm)]at l
     have:=u.dead b' m l;simpa[Gh.dG,ee (x:=.oq b key) (y:=.tok ae.length) (z:=.box b') (by simp) (by simp)]using this
def GR(h:te P t a T=some (b,f)):
  (∃tk e n ak,a = .own tk e n ak/\T[tk]?=some (some e)/\b = .j8 n ak/\f=T.set tk none/\te P t a []=some (.v (.sl n ak),[]))\/(f=T/\te P t a []=some (b,[])):=by
 unfold te at h⊢;split at h
 .simp only[ay,az]at h
  obtain⟨rfl,rfl⟩:=h;exact .inr ⟨rfl,rfl⟩
 .split at h<;>try(simp at h;done)
  .rcases kq h with⟨tk,e,n,ak,g,c,d,i,j⟩|⟨c,d⟩
   .exact .inl ⟨tk,e,n,ak,g,c,d,i,j⟩
   .exact .inr ⟨c,d⟩
  .rcases kq h with⟨tk,e,n,ak,g,c,d,i,j⟩|⟨c,d⟩
   .simp at g
   .exact .inr ⟨c,d⟩
def za(h:kV c a T=some (.agg ps,d)):False:=by
 unfold kV at h;split at h
 .split at h<;>simp at h
 .cases c<;>simp only at h<;>try(simp at h;done)
  split at h<;>simp at h
 .split at h<;>try(simp at h;done)
  rename_i b;simp only[ay,az]at h;rw[h.1]at b;simp[AV.qT]at b
def zb(h:te P t a []=some (b,[]))(c:aS G ae w v a):oO G w x v b:=by
 unfold te at h;split at h
 .simp only[ay,az]at h
  obtain⟨rfl,-⟩:=h;cases c with
  |agg f d=>
   have:=mz.norm (ko P t) (⟨f,d⟩:mz G.bT w _ _);exact aS.agg this.1 this.2
 .split at h<;>try(simp at h;done)
  .exact(mH fun ps e=>za (e▸h)).2 (lK (x:=x) h rfl c).2.1
  .exact(mH fun ps e=>za (e▸h)).2 (lK (x:=x) h rfl c).2.1
def J5(h:te P t a T=some (b,d)):b.JL=true:=by
 unfold te at h;have cell:∀(c:CT)(a:AV),a.qT=false->kV c a T=some (b,d)->b.JL=true:=by
  intro c a e h;unfold kV at h;split at h
  .split at h<;>simp at h<;>rw[<-h.1]<;>rfl
  .cases c<;>simp only at h<;>try(simp at h;rw[<-h.1];rfl)
   split at h<;>simp at h<;>rw[<-h.1]<;>rfl
  .rw[e]at h;simp at h
 split at h
 .simp at h;rw[<-h.1];rfl
 .split at h<;>try(simp at h;done)
  .exact cell _ _ rfl h
  .exact cell _ _ rfl h
def Yr{b:List (PV×AV)}{i j:Nat}(s:(b.map (·.1)).Pairwise (fun k p=>l0 k p=false))(n:l0 key key=true)(c:b[i]?=some (key,a))(d:b[j]?=some x)(q:i≠j):x.1≠key:=by
 intro o;have g:=(aG.1 c).1;have l:=(aG.1 d).1;have e:(b.map (·.1))[i]?=some key:=by simp[c]
 have f:(b.map (·.1))[j]?=some key:=by simp[d,o]
 have m:=yr.1 s;rcases Nat.lt_trichotomy i j with h|h|h
 .have:=m i j (by simpa using g) (by simpa using l) h
  rw[(aG.1 e).2,(aG.1 f).2,n]at this;simp at this
 .exact q h
 .have:=m j i (by simpa using l) (by simpa using g) h
  rw[(aG.1 e).2,(aG.1 f).2,n]at this;simp at this
def Inv.J6(f:Inv P w0 aR O G heap w)(M:heap[b]?=some (.map t k))(l:k[i]?=some (key,.v (.sl n ak)))(a3:l0 key key=true)(S:∀s v clock,G.h (.box b)=some s->w.heap[s]?=some (.map v clock)->∃e,v[i]?=some e/\e.val=u)(X:ae[tk]?=some (some L))(hu:aS G ae w u (.own tk L n ak)):
  ∃J,Inv P w0 aR O J (heap.set b (.map t (k.set i (key,.j8 n ak)))) w/\ck G ae w J (ae.set tk none) w:=by
 have a5:=(aG.1 X).1;have F:=(aG.1 M).1;have R:=(aG.1 l).1;have T:ck G ae w ⟨G.bT,(G.dG (mv (.tok tk) (.oq b key))).h,G.val,G.bC⟩ (ae.set tk none) w:=by
  refine .ghost _ (fun _ h=>h) (fun _ _=>rfl) (by simp) fun t' m c d=>?_
  rw[iN]at c;split at c
  .simp at c
  .rename_i I
   exact⟨m,c,.inr ⟨rfl,ee (by simp) (by simpa using fun e=>I e.symm)⟩⟩
 refine⟨_,f.ghost (mv (.tok tk) (.oq b key)) (Ez _ _) (fun b' h=>by rw[fc];exact f.nb b' h) (fun b' bx a=>?_) (fun b' m a=>?_),T⟩
 .by_cases g:b'=b
  .subst g
   rw[bQ F]at a;obtain rfl:=ax a;obtain⟨s,v,clock,a0,Q,hv,Y,W,B,C,E⟩:=f.box _ _ M;refine⟨s,v,clock,a0,?_,hv,Y,by rw[fc];exact W,fun o a2=>?_,?_,fun j p o c d=>?_⟩
   .simp[Gh.dG,ee (x:=.tok tk) (y:=.oq b' key) (z:=.box b') (by simp) (by simp),Q]
   .rcases uF a2 with h|rfl
    .exact B _ h
    .exact⟨rfl,(B (key,.v (.sl n ak)) (aM l)).2⟩
   .have:(k.set i (key,AV.j8 n ak)).map (·.1)=k.map (·.1):=by
     rw[List.map_set];apply fu;intro q;rw[iN];split
     .subst_vars;simp[(aG.1 l).2,R]
     .rfl
    rw[this];exact C
   .by_cases H:i=j
    .subst H
     rw[bQ R]at d;obtain rfl:=ax d;obtain⟨r,K,N⟩:=S _ _ _ Q Y;rw[c]at K;obtain rfl:=ax K;refine⟨(E i p _ c l).1,?_⟩;cases hu with
     |@own _ _ _ _ A len cap a6 a4 V a1=>
      have:eI ⟨G.bT,(G.dG (mv (.tok tk) (.oq b' key))).h,G.val,G.bC⟩ w (.oq b' key) p.val (.j8 n ak):=by
       rw[N];exact⟨rfl,A,len,cap,rfl,V,(a1 X).bD fun m D=>⟨by simp[Gh.dG,sB,D],rfl,rfl⟩⟩
      exact this
    .rw[bP H]at d
     refine⟨(E j p o c d).1,(E j p o c d).2.bD T.low fun m D=>⟨?_,rfl,rfl⟩⟩
     have I:(Hd.oq b' o.1)≠.oq b' key:=by
      intro r;simp only[Hd.oq.injEq,true_and]at r;exact Yr C a3 l d H r
     simp[Gh.dG,ee (x:=.tok tk) (y:=.oq b' key) (z:=.oq b' o.1) I (by simp),D]
  .rw[bP (fun e=>g e.symm)]at a
   refine(f.box b' bx a).dG (fun _ h=>h) (fun _ _=>rfl) (fun U=>by subst U;exact f.box _ _ a) fun x Z=>ee (fun e=>?_) fun e=>?_
   .subst e;exact g Z.symm
   .subst e;exact Z
 .by_cases g:b'=b
  .subst g
   rw[bQ F]at a;simp at a
  .rw[bP (fun e=>g e.symm)]at a
   have:=f.dead b' m a;simpa[Gh.dG,ee (x:=.tok tk) (y:=.oq b key) (z:=.box b') (by simp) (by simp)]using this
def GS(h:w.heap[b]?=some (.map a clock)):w.cell? ⟨b,j,none⟩=none:=by
 simp[World.cell?,h]
def Inv.EH(l:Inv P w0 aR O G heap w)(g:heap[b]?=some bx)(j:G.h (.box b)=some a)(c:w.heap[a]?=some (.map s clock))(i:uM≠.free)(q:ck G ae w G ae {w with heap:=w.heap.setIfInBounds a (.map rb pC)}->gr P G {w with heap:=w.heap.setIfInBounds a (.map rb pC)} b uM):
  Inv P w0 aR O G (heap.set b uM) {w with heap:=w.heap.setIfInBounds a (.map rb pC)}/\ck G ae w G ae {w with heap:=w.heap.setIfInBounds a (.map rb pC)}:=by
 obtain⟨k,h⟩:=l.write (ae:=ae) (bz:=ae) (gP:=G.bT) j (w':={w with heap:=w.heap.setIfInBounds a (.map rb pC)}) (by simp) rfl rfl rfl (fun m n=>⟨(MapKept.heap_set c).2 m n,rfl⟩) (ar _)
  (fun o u=>by rw[GS c];exact GS (MapKept.heap_set c).1) (ar _) fun t m h _=>⟨m,h,.inr ⟨rfl,by simp⟩⟩
 refine⟨h _ (by simp) (fun b' p=>bP fun e=>p e) fun b' v f d=>?_,k⟩
 simp only[Hd.on]at f;subst f;rw[bQ (aG.1 g).1]at d;obtain rfl:=ax d;exact⟨i,q k⟩
def Inv.P7(J:Inv P w0 aR O G heap w)(R:aS G ae w V (.mp b))(Z:cf G.bT w u key)(F:heap[b]?=some (.map t o))(h:P.underlying t=some (.map r E))(Y:kO P r key=true)(hB:a.JL=true)(hU:∀(w':World),ck G ae w G ae w'->oO G w' (.oq b key) U a):
  ∃w',(Instr.mapUpdate t V u U).run P w = .ok () w'/\Inv P w0 aR O G (heap.set b (.map t (cw o key a))) w'/\ck G ae w G ae w' /\
   ∃i,(cw o key a)[i]?=some (key,a)/\(∀a',cw o key a'=(cw o key a).set i (key,a'))/\∀s n clock,G.h (.box b)=some s->w'.heap[s]?=some (.map n clock)->∃e,n[i]?=some e/\e.val=U:=by
 obtain⟨s,n,clock,rfl,he,hv,v,l,W,Q,a1,K⟩:=J.J2 R F h;have A:=W.1;obtain⟨d,I,a0⟩:=J1 Y Z;have a7:s<w.heap.size:=(J.nN _ _ v).1;have a2:∀x m,x≠.box b->G.h x=some m->m≠s:=fun x m a3 z e=>a3 (J.inj _ _ _ z (e▸v))
 rcases uV I Y Z n.toList o 0 (by simpa using A) (fun i e x c f=>(K i e x (by simpa using c) f).1) (fun x R=>(Q x R).2)with⟨g1,T,H,g4,g5⟩|⟨i,e,x,g1,T,H,g4,g5,g6,X,g8⟩
 .obtain⟨B,C⟩:=J.EH (ae:=ae) (pC:=clock+1) (rb:=n.push {key:=u,val:=U,born:=clock}) (uM:=.map t (cw o key a)) F v l (by simp) (fun k=>by
   rw[H];refine⟨s,_,clock+1,he,v,hv,(MapKept.heap_set l).1,by rw[dw];exact W.push _ _,fun y g=>?_,?_,fun j D M c f=>?_⟩
   .rcases bn.1 g with g|g
    .exact⟨(Q y g).1,r,E,h,(Q y g).2⟩
    .simp at g;subst g;exact⟨hB,r,E,h,Y⟩
   .rw[bM]
    refine List.pairwise_append.2 ⟨a1,by simp,fun p hp q hq=>?_⟩
    simp at hq;subst hq;obtain⟨y,g,rfl⟩:=bh.1 hp;rw[Oa];exact g5 y g
   .rw[Array.getElem?_push]at c
    by_cases hj:j=n.size
    .subst hj
     rw[aJ rfl]at c;obtain rfl:=ax c;rw[A,eH (ar _),lG]at f;simp at f;subst f;exact⟨Z.grow k.grow,hU _ k⟩
    .rw[aN hj]at c
     have a6:=(gZ.1 c).1;rw[ch (by omega)]at f
     exact⟨(K j D M c f).1.grow k.grow,(K j D M c f).2.bD k.low fun m z=>⟨z,rfl,(MapKept.heap_set l).2 m (a2 _ m (by simp) z)⟩⟩)
  refine⟨_,?_,B,C,o.length,by rw[H];simp,fun a'=>by rw[H,H];simp,fun a4 rb a5 c f=>?_⟩
  .simp[Instr.mapUpdate,run_underlying h,MapKept.run_getObj_map l,MapKept.run_checkKey I a0,MapKept.run_findKey I T,MapKept.run_setObj_map _ l]
  .rw[v]at c
   obtain rfl:=ax c;have:=(MapKept.heap_set (o':=.map (n.push {key:=u,val:=U,born:=clock}) (clock+1)) l).1;rw[show({w with heap:=w.heap.setIfInBounds s (.map (n.push {key:=u,val:=U,born:=clock}) (clock+1))}:World).heap[s]?=_ from this]at f
   simp only[ay,Obj.map.injEq]at f;obtain⟨rfl,rfl⟩:=f;exact⟨{key:=u,val:=U,born:=clock},by rw[<-A];simp,rfl⟩
 .have S:=(aG.1 T).1
  have L:n[i]?=some e:=by simpa using g1
  obtain⟨B,C⟩:=J.EH (ae:=ae) (pC:=clock) (rb:=n.modify i fun e=>{e with key:=u,val:=U}) (uM:=.map t (cw o key a)) F v l (by simp) (fun k=>by
   rw[X];refine⟨s,_,clock,he,v,hv,(MapKept.heap_set l).1,by rw[fc];exact W.modify _ _ _,fun y g=>?_,?_,fun j D M c f=>?_⟩
   .rcases uF g with g|rfl
    .exact⟨(Q y g).1,r,E,h,(Q y g).2⟩
    .exact⟨hB,r,E,h,Y⟩
   .have:(o.set i (key,a)).map (·.1)=o.map (·.1):=by
     rw[List.map_set];apply fu;intro q;rw[iN];split
     .subst_vars;simp[(aG.1 T).2,S]
     .rfl
    rw[this];exact a1
   .rw[yn]at c
    by_cases N:i=j
    .subst N
     rw[aJ rfl,L]at c;simp at c;subst c;rw[bQ S]at f;obtain rfl:=ax f;exact⟨Z.grow k.grow,hU _ k⟩
    .rw[aN N]at c
     rw[bP N]at f;exact⟨(K j D M c f).1.grow k.grow,(K j D M c f).2.bD k.low fun m z=>⟨z,rfl,(MapKept.heap_set l).2 m (a2 _ m (by simp) z)⟩⟩)
  refine⟨_,?_,B,C,i,by rw[X,bQ S],fun a'=>by rw[X,X,qO],fun a4 rb a5 c f=>?_⟩
  .simp[Instr.mapUpdate,run_underlying h,MapKept.run_getObj_map l,MapKept.run_checkKey I a0,MapKept.run_findKey I g6,L,g4,MapKept.run_keyThatStays a0,MapKept.run_setObj_map _ l]
  .rw[v]at c
   obtain rfl:=ax c;have:=(MapKept.heap_set (o':=.map (n.modify i fun e=>{e with key:=u,val:=U}) clock) l).1
   rw[show({w with heap:=w.heap.setIfInBounds s (.map (n.modify i fun e=>{e with key:=u,val:=U}) clock)}:World).heap[s]?=_ from this]at f
   simp only[ay,Obj.map.injEq]at f;obtain⟨rfl,rfl⟩:=f;exact⟨_,by rw[yn,aJ rfl,L];rfl,rfl⟩
def BZ(v:Inv P w0 aR O G heap w)(z:aS G ae w V (.mp b))(E:cf G.bT w e key)(j:aS G ae w U x)(l:heap[b]?=some (.map t p))(y:P.underlying t=some (.map D q))(m:kO P D key=true)(u:te P q x T=some (a,o))(s:(T=ae/\F=o)\/(T=[]/\F=ae)):
  ∃w',(do Instr.mapUpdate t V e U;pure .skip:Sem Next).run P w = .ok .skip w'/\∃I,lJ P w0 aR O G ae w .none F (heap.set b (.map t (cw p key a))) undef I w':=by
 have skip:∀w',(Instr.mapUpdate t V e U).run P w = .ok () w'->(do Instr.mapUpdate t V e U;pure .skip:Sem Next).run P w = .ok .skip w':=fun w' h=>by simp[h]
 rcases GR u with⟨tk,Z,n,ak,rfl,H,rfl,rfl,g⟩|⟨rfl,g⟩
 .rcases s with⟨rfl,rfl⟩|⟨rfl,rfl⟩
  .obtain⟨w',f,d,c,i,K,M,Q⟩:=v.P7 (ae:=T) (a:=.v (.sl n ak)) z E l y m rfl fun w' k=>zb g (j.bD k)
   have Y:=(aG.1 l).1;obtain⟨J,r,X⟩:=d.J6 (bQ Y) K (Co m) Q H (j.bD c);rw[qO,<-M]at r;exact⟨w',skip w' f,J,.none _,r,c.trans X⟩
  .simp at H
 .obtain⟨w',f,d,c,_⟩:=v.P7 (ae:=ae) (a:=a) z E l y m (J5 u) fun w' k=>zb g (j.bD k)
  rcases s with⟨rfl,rfl⟩|⟨rfl,rfl⟩
  .exact⟨w',skip w' f,G,.none _,d,c⟩
  .exact⟨w',skip w' f,G,.none _,d,c⟩
def J7(E:Inv P w0 aR O G heap w)(M:aS G ae w V (.mp b))(N:cf G.bT w B key)(K:heap[b]?=some (.map t o))(v:P.underlying t=some (.map H I))(A:kO P H key=true):
  ∃w',(Builtin.delete_ #[t,t2] ty #[V,B]).run P w = .ok (.tuple #[]) w'/\Inv P w0 aR O G (heap.set b (.map t (kW o key))) w'/\ck G ae w G ae w':=by
 obtain⟨X,n,clock,rfl,F,R,s,f,Y,D,S,u⟩:=E.J2 M K v;have hs:=Y.1;obtain⟨d,q,W⟩:=J1 A N;have U:∀x m,x≠.box b->G.h x=some m->m≠X:=fun x m a0 l e=>a0 (E.inj _ _ _ l (e▸s))
 rcases uV q A N n.toList o 0 (by simpa using hs) (fun i e x c a=>(u i e x (by simpa using c) a).1) (fun x M=>(D x M).2)with⟨g1,J,g3,Z,g5⟩|⟨i,e,x,g1,J,g3,Z,g5,g6,g7,g8⟩
 .obtain⟨Q,T⟩:=E.EH (ae:=ae) (pC:=clock) (rb:=n) (uM:=.map t (kW o key)) K s f (by simp) (fun k=>by
   rw[Z];exact⟨X,n,clock,F,s,R,(MapKept.heap_set f).1,Y,fun y z=>⟨(D y z).1,H,I,v,(D y z).2⟩,S,fun j g p c a=>
    ⟨(u j g p c a).1.grow k.grow,(u j g p c a).2.bD k.low fun m l=>⟨l,rfl,(MapKept.heap_set f).2 m (U _ m (by simp) l)⟩⟩⟩)
  refine⟨_,?_,Q,T⟩;simp[Builtin.delete_,run_underlying v,MapKept.run_getObj_map f,MapKept.run_checkKey q W,MapKept.run_findKey q J,MapKept.run_setObj_map _ f]
 .have C:=(aG.1 J).1
  have a1:i<n.size:=by omega
  obtain⟨Q,T⟩:=E.EH (ae:=ae) (pC:=clock) (rb:=n.eraseIdxIfInBounds i) (uM:=.map t (kW o key)) K s f (by simp) (fun k=>by
   rw[g8];refine⟨X,_,clock,F,s,R,(MapKept.heap_set f).1,?_,fun y z=>⟨(D y (Eb z)).1,H,I,v,(D y (Eb z)).2⟩,?_,fun j g p c a=>?_⟩
   .rw[List.length_eraseIdx,aJ C];exact Y.erase C
   .exact S.sublist ((List.eraseIdx_sublist _ _).map _)
   .have r:(n.toList.eraseIdx i)[j]?=some g:=by
     rw[JC,dif_pos a1]at c;rw[<-c,<-hQ,Array.toList_eraseIdx]
    rw[List.getElem?_eraseIdx]at r a;have key:∃h:Nat,n[h]?=some g/\o[h]?=some p:=by
     by_cases L:j<i
     .rw[aJ L]at r a
      exact⟨j,by simpa using r,a⟩
     .rw[aN L]at r a
      exact⟨j+1,by simpa using r,a⟩
    obtain⟨h,c,a⟩:=key;exact⟨(u h g p c a).1.grow k.grow,(u h g p c a).2.bD k.low fun m l=>⟨l,rfl,(MapKept.heap_set f).2 m (U _ m (by simp) l)⟩⟩)
  refine⟨_,?_,Q,T⟩;simp[Builtin.delete_,run_underlying v,MapKept.run_getObj_map f,MapKept.run_checkKey q W,MapKept.run_findKey q g6,MapKept.run_setObj_map _ f]
def dB(P:Program)(x:Sem Next)(w:World)(K:Value->World->Prop):Prop:=
 match x.run P w with
 |.ok (.value v) w'=>K v w'
 |.ok .skip w'=>K undef w'
 |.ok (.enter f args) w'=>Calls P f args w' fun e a=>∃v,e = .returned v/\K v a
 |_=>False
def dB.gj(h:x.run P w = .ok (.value v) w')(k:K v w'):dB P x w K:=by
 unfold dB;rw[h];exact k
def dB.yw(h:x.run P w = .ok .skip w')(k:K undef w'):dB P x w K:=by
 unfold dB;rw[h];exact k
def dB.GU(h:x.run P w = .ok (.enter f args) w')(k:Calls P f args w' fun e a=>∃v,e = .returned v/\K v a):dB P x w K:=by
 unfold dB;rw[h];exact k
def dB.mono(h:dB P x w K)(k:∀v w',K v w'->a v w'):dB P x w a:=by
 unfold dB at*;split at h
 .exact k _ _ h
 .exact k _ _ h
 .exact Calls.mono h fun e d⟨v,b,c⟩=>⟨v,b,k _ _ c⟩
 .exact h.elim
def Good(P:Program)(w0:World)(aR:Nat->Nat)(O:Nat->Prop)(G:Gh)(ae:List (Option Nat))(w:World)(a:AV)(bz:List (Option Nat))(c:List Bx)(v:Value)(w':World):Prop:=
 ∃b,lJ P w0 aR O G ae w a bz c v b w'
def Plain.ze(d:Inv P w0 aR O G heap w)(h:Plain P G ae w x a):dB P x w (Good P w0 aR O G ae w a ae heap):=by
 obtain⟨v,w',b,c⟩:=h.after d;exact .gj b c
def Ob(g:qW G ae w e ρ o.op)(h:plain P o.op an k ρ=some (a,l))(n:∀q∈l,q)(D:∀t len aT,o.op≠.buildSlice t len aT):Plain P G ae w (execOp e o) a:=by
 obtain⟨J,op,type,M,after,guard⟩:=o;cases op
 case move x=>simp only[plain,ay,az]at h;obtain⟨rfl,rfl⟩:=h;exact .pure (by simp[execOp]) (g x (by simp[Op.operands]))
 case assign x=>simp only[plain,ay,az]at h;obtain⟨rfl,rfl⟩:=h;exact .pure (by simp[execOp]) (g x (by simp[Op.operands]))
 case pick c x y=>
  obtain⟨E,v⟩:=g;have key:∀{B:Bool},ρ c = .v (.bool B)->aS G ae w (if B then e x else e y) a->Plain P G ae w (execOp e ⟨J,.pick c x y,type,M,after,guard⟩) a:=fun j I=>PW E j I
  by_cases r:∃t,k = .pk t
  .obtain⟨t,rfl⟩:=r
   simp only[plain]at h;split at h<;>try(simp at h;done)
   rename_i B j;simp only[ay,az]at h;obtain⟨rfl,rfl⟩:=h;have K:B=t:=n _ (by simp)
   subst K;refine key j ?_;cases B with
   |true=>exact(v _ j).1 rfl
   |false=>exact(v _ j).2 rfl
  .have m:(match ρ c with
    |.v (.bool B)=>match ρ x,ρ y with
     |.v (.bool x),.v (.bool y)=>some ((.v (.bool (bif B then x else y)),[]):AV×List Prop)
     |x,y=>match B with
      |true=>some (x,[])
      |false=>some (y,[])
    |_=>none)=some (a,l):=by
    cases k<;>first|exact h|exact(r ⟨_,rfl⟩).elim
   clear h;split at m<;>try(simp at m;done)
   rename_i B j;refine key j ?_;split at m
   .rename_i bx Q u z
    simp only[ay,az]at m;obtain⟨rfl,rfl⟩:=m;cases B with
    |true=>have:=(v _ j).1 rfl;rw[u]at this;exact this
    |false=>have:=(v _ j).2 rfl;rw[z]at this;exact this
   .split at m<;>simp only[ay,az]at m<;>obtain⟨rfl,rfl⟩:=m
    .exact(v _ j).1 rfl
    .exact(v _ j).2 rfl
 case build t aT=>exact N4 (fun p H=>g p.2 (by simp only[Op.operands];exact bh.2 ⟨p,H,rfl⟩)) h
 case buildSlice t len aT=>exact absurd rfl (D t len aT)
 case load t x=>exact NY (g x (by simp[Op.operands])) h
 case nilCheck x=>exact Et (g x (by simp[Op.operands])) rfl h
 case binOp op t x y t'=>exact N1 (g x (by simp[Op.operands])) (g y (by simp[Op.operands])) h n
 case unOp op t x=>exact P2 (g x (by simp[Op.operands])) h
 case convert s d x=>exact GH (g x (by simp[Op.operands])) h n
 case makeInterface t x=>exact uR (g x (by simp[Op.operands])) h
 case typeAssert x xt t ok=>exact yZ (g x (by simp[Op.operands])) h n
 case makeFunc f first cap=>
  simp only[plain,ay,az]at h;obtain⟨rfl,rfl⟩:=h;exact Eu (fun x u=>g x (by simp only[Op.operands,ux];exact ea _ u)) fun x u=>g x (by simp only[Op.operands,ux];exact fw _ u)
 case slice t x lo hh mx=>
  exact N3 (g x (by simp[Op.operands])) (fun y z=>g y (by cases z;simp[Op.operands])) (fun y z=>g y (by cases z;simp[Op.operands])) h n
 case fieldAddr s x f=>exact BT (g x (by simp[Op.operands])) h
 case field t x f=>exact NZ (g x (by simp[Op.operands])) h
 case indexAddr t x ix=>exact BU (g x (by simp[Op.operands])) (g ix (by simp[Op.operands])) h n
 case index t x ix=>exact N0 (g x (by simp[Op.operands])) (g ix (by simp[Op.operands])) h n
 case extract x i=>exact GD (g x (by simp[Op.operands])) h
 case call c=>
  obtain⟨callee,args,argTypes⟩:=c;cases callee with
  |builtin b=>exact GI (fun x u=>g x (by simp only[Op.operands,Call.operands];simpa using u)) rfl h n
  |_=>simp[plain]at h
 all_goals (simp[plain]at h)
def rh{c:Bool}(a:T=if c then ae else[])(d:Inv P w0 aR O G heap w)(i:qW G ae w e ρ o.op)(h:(plain P o.op an k ρ).map (fun(v,l)=>({v,ae:=T,heap,dI:=l}:lZ))=some r)(b:∀t len aT,o.op≠.buildSlice t len aT)(f:∀q∈r.dI,q):dB P (execOp e o) w (Good P w0 aR O G ae w r.v (if c then r.ae else ae) r.heap):=by
 obtain⟨⟨v,l⟩,g,rfl⟩:=bc.1 h;have:(if c then T else ae)=ae:=by subst a;cases c<;>rfl
 simp only[this];exact(Ob i g f b).ze d
def zf(c:Bool)(T:List (Option Nat)):((if c then ae else[])=ae/\(if c then T else ae)=T)\/((if c then ae else[])=[]/\(if c then T else ae)=ae):=by
 cases c
 .exact .inr ⟨rfl,rfl⟩
 .exact .inl ⟨rfl,rfl⟩
def lz(c:Bool):(if c then(if c then ae else[])else ae)=ae:=by cases c<;>rfl
def J8{t nb:Nat}(p:o.op = .alloc t)(j:Inv P w0 aR O G heap w)(h:core P nb (.alloc t) an k ρ [] heap=some r):dB P (execOp e o) w (Good P w0 aR O G ae w r.v ae r.heap):=by
 simp only[core]at h;split at h<;>try(simp at h;done)
 rename_i cs T n a u;split at h<;>try(simp at h;done)
 obtain⟨s,i,rfl⟩:=bc.1 h;obtain⟨z,l,a⟩:=cQ.1 a;obtain⟨m,q,_,g⟩:=yX l;obtain⟨b,c,d,f⟩:=j.GM (elem:=t) (bz:=ae) (g G ae w) a (.inr ⟨rfl,rfl⟩) i;refine .gj (v:=.pointer (some ⟨w.heap.size,0,none⟩)) (w':=w.alloc (.cells m.cells t)) ?_ ⟨b,c,d,f⟩;simp only[execOp,p,Instr.alloc,Sem.run_bind,q,Result.andThen_ok,newVar,newRow];simp
def P8{t nb:Nat}(p:o.op = .box t x)(l:Inv P w0 aR O G heap w)(m:aS G ae w (e x) (ρ x)){c:Bool}(h:core P nb (.box t x) an k ρ (if c then ae else[]) heap=some r):dB P (execOp e o) w (Good P w0 aR O G ae w r.v (if c then r.ae else ae) r.heap):=by
 simp only[core]at h;split at h<;>try(simp at h;done)
 rename_i cs T n a s;split at h<;>try(simp at h;done)
 obtain⟨q,j,rfl⟩:=bc.1 h;unfold cellsOf at a;obtain⟨u,d,_,_⟩:=nX _ _ _ _ _ a;obtain⟨b,f,g,i⟩:=l.GM (elem:=t) (m.aT d) a (zf c T) j;refine .gj (v:=.pointer (some ⟨w.heap.size,0,none⟩)) (w':=w.alloc (.cells (e x).cells t)) ?_ ⟨b,f,g,i⟩;simp[execOp,p,Instr.box,newVar,newRow]
def zg{t nb:Nat}(I:o.op = .makeSlice t x y)(j:Inv P w0 aR O G heap w)(b:aS G ae w (e x) (ρ x))(c:aS G ae w (e y) (ρ y))(h:core P nb (.makeSlice t x y) an k ρ [] heap=some r)(a:∀q∈r.dI,q):dB P (execOp e o) w (Good P w0 aR O G ae w r.v ae r.heap):=by
 simp only[core]at h;split at h<;>try(simp at h;done)
 rename_i T u;split at h<;>try(simp at h;done)
 rename_i n F z Y m Z E s g D K M;split at h<;>try(simp at h;done)
 rename_i Q;obtain⟨J,p,H⟩:=aV Q;obtain⟨X,i,rfl⟩:=bc.1 h;rw[K]at b;rw[M]at c;have l:E=m:=a _ (aX ..);subst l;obtain⟨v,w',d,f⟩:=BW (P:=P) j b c u s g D J p H (a _ (aW _ (aX ..))) (a _ (aW _ (aW _ (aX ..)))) i;exact .gj (by simpa[execOp,I]using d) f
def EI{t nb:Nat}(f:o.op = .makeMap t y)(d:Inv P w0 aR O G heap w)(h:core P nb (.makeMap t y) an k ρ [] heap=some r):dB P (execOp e o) w (Good P w0 aR O G ae w r.v ae r.heap):=by
 cases y with
 |some y=>simp[core,plain]at h
 |none=>
  simp only[core]at h;split at h<;>try(simp at h;done)
  obtain⟨g,c,rfl⟩:=bc.1 h;obtain⟨v,w',a,b⟩:=GQ (P:=P) (ae:=ae) d c;exact .gj (by simpa[execOp,f]using a) b
def GV{t nb:Nat}(M:o.op = .lookup t m i ok)(f:Inv P w0 aR O G heap w)(s:aS G ae w (e m) (ρ m))(H:aS G ae w (e i) (ρ i))(h:core P nb (.lookup t m i ok) an k ρ (if an.take then ae else[]) heap=some r)(g:∀q∈r.dI,q):dB P (execOp e o) w (Good P w0 aR O G ae w r.v (if an.take then r.ae else ae) r.heap):=by
 have run:∀a j l,dB P (do pure (.value (<-Instr.lookup t (e m) (e i) ok))) w (Good P w0 aR O G ae w a j l)->dB P (execOp e o) w (Good P w0 aR O G ae w a j l):=fun a j l y=>by
  simpa only[execOp,M]using y
 simp only[core]at h;split at h<;>try(simp at h;done)
 rename_i b key F Z look T X E;split at h<;>try(simp at h;done)
 rename_i A Y z x I D;split at h<;>try(simp at h;done)
 rename_i Q;obtain rfl:=aV Q;rw[T]at s;have J:=H.pv X;obtain⟨f1,f2,f3⟩:=J3 (ok:=ok) f s J x E D;split at h
 .rename_i n ak
  split at h
  .rename_i d
   simp only[ay]at h;subst h;have c:=g _ (cJ.2 rfl);obtain⟨_,v,u,p⟩:=f3 n ak c;simp only[d,if_true]at p⊢;exact run _ _ _ (.gj u p)
  .rename_i d
   simp only[ay]at h;subst h;have c:=g _ (cJ.2 rfl);simp only[d,kj,if_false];exact run _ _ _ ((f3 n ak c).1.ze f)
 .rename_i a K
  split at h<;>try(simp at h;done)
  rename_i d;simp only[ay]at h;subst h;have c:=g _ (cJ.2 rfl);simp only[d,kj,if_false];exact run _ _ _ ((f2 a c fun n ak e=>K n ak (by rw[e])).ze f)
 .simp only[ay]at h
  subst h;have c:=g _ (cJ.2 rfl);simp only[lz];exact run _ _ _ ((f1 c z I).ze f)
def zh{t nb:Nat}{c:Bool}(v:o.op = .mapUpdate t m i x)(n:Inv P w0 aR O G heap w)(d:aS G ae w (e m) (ρ m))(u:aS G ae w (e i) (ρ i))(s:aS G ae w (e x) (ρ x))(h:core P nb (.mapUpdate t m i x) an k ρ (if c then ae else[]) heap=some r):dB P (execOp e o) w (Good P w0 aR O G ae w r.v (if c then r.ae else ae) r.heap):=by
 simp only[core]at h;split at h<;>try(simp at h;done)
 rename_i b key J I z E q;split at h<;>try(simp at h;done)
 rename_i K H a f l D p;split at h<;>try(simp at h;done)
 rename_i y;obtain rfl:=aV y;simp only[ay]at h;subst h;rw[z]at d;obtain⟨w',g,j⟩:=BZ n d (u.pv E) s l q p D (zf c f);exact .yw (by simpa only[execOp,v]using g) j
def GW(D:o.op = .call {callee:=.builtin .delete,args:=args,argTypes:=c})(q:Inv P w0 aR O G heap w)(j:∀x∈args.toList,aS G ae w (e x) (ρ x))(h:core P nb (.call {callee:=.builtin .delete,args:=args,argTypes:=c}) an k ρ [] heap=some r):dB P (execOp e o) w (Good P w0 aR O G ae w r.v ae r.heap):=by
 simp only[core]at h;split at h<;>try(simp at h;done)
 rename_i b i t Z u H;obtain⟨x,y,rfl,I,J⟩:=Ew u;split at h<;>try(simp at h;done)
 rename_i a T key Y X p M z;split at h<;>try(simp at h;done)
 rename_i E s;obtain rfl:=aV E;simp only[ay]at h;subst h;have f:=j x (by simp)
 have g:=j y (by simp)
 rw[I]at f;rw[J]at g;have K:∀ty,∀w':World,(∀t2,(Builtin.delete_ #[a,t2] ty #[e x,e y]).run P w = .ok (.tuple #[]) w')->(Builtin.delete_ c ty #[e x,e y]).run P w = .ok (.tuple #[]) w':=by
  intro ty w' Q;have d:c[0]?=some a:=by rw[<-hQ,H];rfl
  have:=Q 0;simp only[Builtin.delete_,d]at this⊢;simpa using this
 obtain⟨w',l,m,n⟩:=J7 (t2:=0) (ty:=o.type) q f (g.pv M) p z s;refine .gj (v:=.tuple #[]) (w':=w') ?_ ⟨G,.none _,m,n⟩;have:=K o.type w' fun t2=>by
  have d:(Builtin.delete_ #[a,t2] o.type #[e x,e y])=(Builtin.delete_ #[a,0] o.type #[e x,e y]):=by simp[Builtin.delete_]
  rw[d];exact l
 simp[execOp,D,resolve,invoke,builtin,this]
def J9{t nb:Nat}{c:Bool}(H:o.op = .store t a x)(z:Inv P w0 aR O G heap w)(d:aS G ae w (e a) (ρ a))(y:aS G ae w (e x) (ρ x))(h:core P nb (.store t a x) an k ρ (if c then ae else[]) heap=some r)(D:∀q∈r.dI,q):dB P (execOp e o) w (Good P w0 aR O G ae w r.v (if c then r.ae else ae) r.heap):=by
 simp only[core]at h;split at h<;>try(simp at h;done)
 .rename_i b off v
  rw[v]at d;split at h<;>try(simp at h;done)
  rename_i cs u;obtain⟨⟨K,I⟩,T,rfl⟩:=bc.1 h;obtain⟨w',f,g⟩:=N5 z d y u T (zf c I);exact .yw (by simpa only[execOp,H]using f) g
 .rename_i b s n l i j v
  rw[v]at d;split at h<;>try(simp at h;done)
  rename_i cs K u;split at h<;>try(simp at h;done)
  rename_i p B E X;rw[X]at y;split at h<;>try(simp at h;done)
  rename_i R M C;simp only[ay]at h;subst h;have J:j<n:=D _ (aX ..);have Z:=D _ (aW _ (aX ..));obtain⟨w',f,g⟩:=JW z d y u E (aV M) J;simp only[lz];rw[<-Z];exact .yw (by simpa only[execOp,H]using f) g
 .rename_i b n i j v
  rw[v]at d;split at h<;>try(simp at h;done)
  rename_i m ak A ps u E F;split at h<;>try(simp at h;done)
  rename_i Y;obtain⟨rfl,Q⟩:=aV Y;simp only[ay]at h;subst h;obtain⟨w',f,g⟩:=JY z d y u E F Q (D _ (cJ.2 rfl));simp only[lz];exact .yw (by simpa only[execOp,H]using f) g
def P9{c:Bool}(h:T=if c then ae else[]):(if c then T else ae)=ae:=by subst h;cases c<;>rfl
def Cp{t nb:Nat}(Q:o.op = .load t x)(g:Inv P w0 aR O G heap w)(u:aS G ae w (e x) (ρ x))(hc:an.fz=false->an.take=true->c=true)(h:core P nb (.load t x) an k ρ (if c then ae else[]) heap=some r)(M:∀q∈r.dI,q):dB P (execOp e o) w (Good P w0 aR O G ae w r.v (if c then r.ae else ae) r.heap):=by
 have run:∀a Y Z,dB P (do pure (.value (<-Instr.loadAt t (e x)))) w (Good P w0 aR O G ae w a Y Z)->dB P (execOp e o) w (Good P w0 aR O G ae w a Y Z):=fun a Y Z hd=>by
  simpa only[execOp,Q]using hd
 have K:∀T,T=(if c then ae else[])->(if c then T else ae)=ae:=fun T h=>P9 h
 simp only[core]at h;generalize I:(if c then ae else[])=T at h
 split at h
 .rename_i b off a1 J
  rw[J]at u;split at h<;>try(simp at h;done)
  rename_i cs d;split at h
  .rename_i n ak a3 N f
   simp only[ay]at h;subst h;have a0:=hc a1 a3;subst a0;simp only[if_true]at I⊢;subst I;obtain⟨a4,X,elem,W,A,B,h4,h5,h6⟩:=g.qZ u d;have a2:off<X.size:=by have:=(aG.1 N).1;omega
   have C:X[off]?=some X[off]:=cU a2;obtain⟨V,R⟩:=g.P4 (ae:=ae) d N A B C;refine run _ _ _ (.gj ?_ ⟨V,R⟩);rw[W];exact jH (gQ f (by rw[dz B];exact C))
  .obtain⟨v,hv,rfl⟩:=bc.1 h
   show dB P _ _ (Good _ _ _ _ _ _ _ _ (if c then T else ae) heap)
   rw[K _ I.symm];exact run _ _ _ ((GN g u d hv).ze g)
 .rename_i b s n l i j _ J
  rw[J]at u;split at h<;>try(simp at h;done)
  rename_i cs p d f D;split at h<;>try(simp at h;done)
  simp only[ay]at h;subst h;show dB P _ _ (Good _ _ _ _ _ _ _ _ (if c then T else ae) heap)
  rw[K _ I.symm];exact run _ _ _ ((N7 g u d f (M _ (cJ.2 rfl))).ze g)
 .rename_i b n i j _ J
  rw[J]at u;have S:∀m ak z E,(heap[b]?=some (.bk m ak)\/heap[b]?=some (.uH m ak))->dn P t=some true->cq P t=some z ->
    (match decide (m=n/\j+z<=n/\E.length=n)with
    |true=>some ({v:=.agg ((E.drop j).take z),ae:=T,heap,dI:=[ak[i.toNat]?=some E]}:lZ)
    |false=>none)=some r->dB P (execOp e o) w (Good P w0 aR O G ae w r.v (if c then r.ae else ae) r.heap):=by
   intro m ak z E d f D H;split at H<;>try(simp at H;done)
   rename_i F;obtain⟨rfl,A,R⟩:=aV F;cases H;show dB P _ _ (Good _ _ _ _ _ _ _ _ (if c then T else ae) heap)
   rw[K _ I.symm];exact run _ _ _ ((N6 g u d f D (M _ (cJ.2 rfl)) (by omega)).ze g)
  have U:∀m ak p,(heap[b]?=some (.bk m ak)\/heap[b]?=some (.uH m ak))->dn P t=some false ->
    (match decide (m=n)with
    |true=>some ({v:=.v p,ae:=T,heap,dI:=[(ak[i.toNat]?).bind (·[j]?)=some p]}:lZ)
    |false=>none)=some r->dB P (execOp e o) w (Good P w0 aR O G ae w r.v (if c then r.ae else ae) r.heap):=by
   intro m ak p d f H;split at H<;>try(simp at H;done)
   rename_i F;obtain rfl:=aV F;cases H;show dB P _ _ (Good _ _ _ _ _ _ _ _ (if c then T else ae) heap)
   rw[K _ I.symm];exact run _ _ _ ((JZ g u d f (M _ (cJ.2 rfl))).ze g)
  split at h<;>try(simp at h;done)
  .rename_i m ak z E d f D
   exact S m ak z E (.inl d) f D h
  .rename_i m ak z E d f D
   exact S m ak z E (.inr d) f D h
  .rename_i m ak p d f D
   exact U m ak p (.inl d) f h
  .rename_i m ak p d f D
   exact U m ak p (.inr d) f h
 .exact rh (T:=T) (an:=an) (k:=k) (ρ:=ρ) I.symm g (by rw[Q];intro y L;simp[Op.operands]at L;subst L;exact u) (by rw[Q];exact h) (fun _ _ _=>by rw[Q];simp) M
def zi{t nb:Nat}{c:Bool}(u:o.op = .indexAddr t x g)(p:Inv P w0 aR O G heap w)(l:aS G ae w (e x) (ρ x))(s:aS G ae w (e g) (ρ g))(h:core P nb (.indexAddr t x g) an k ρ (if c then ae else[]) heap=some r)(E:∀q∈r.dI,q):dB P (execOp e o) w (Good P w0 aR O G ae w r.v (if c then r.ae else ae) r.heap):=by
 have run:∀a z D,dB P (do pure (.value (<-Instr.indexAt t (e x) (e g)))) w (Good P w0 aR O G ae w a z D)->dB P (execOp e o) w (Good P w0 aR O G ae w a z D):=fun a z D Q=>by
  simpa only[execOp,u]using Q
 simp only[core]at h;split at h
 .rename_i b J
  rw[J]at l;have box:∀n ak kk i,(heap[b]?=some (.bk n ak)\/heap[b]?=some (.uH n ak))->ρ g = .v (.int kk i)->
    (match P.underlying t with
    |some (.slice e)=>match decide (cq P e=some n)with
     |true=>some ({v:=.fV b n i 0,ae:=if c then ae else[],heap,dI:=[0<=i/\i<ak.length]}:lZ)
     |false=>none
    |_=>none)=some r->dB P (execOp e o) w (Good P w0 aR O G ae w r.v (if c then r.ae else ae) r.heap):=by
   intro n ak kk i d f h;split at h<;>try(simp at h;done)
   rename_i M I;split at h<;>try(simp at h;done)
   rename_i H;simp only[ay]at h;subst h;rw[f]at s;rw[s.gz]at run;simp only[lz];exact run _ _ _ ((EG p l d I (aV H) (E _ (cJ.2 rfl))).ze p)
  split at h<;>try(simp at h;done)
  .rename_i n ak kk i d f
   exact box n ak kk i (.inl d) f h
  .rename_i n ak kk i d f
   exact box n ak kk i (.inr d) f h
 .rename_i b n i j J
  rw[J]at l;split at h<;>try(simp at h;done)
  rename_i kk m len M f I;split at h<;>try(simp at h;done)
  rename_i F H;simp only[ay]at h;subst h;rw[f]at s;rw[s.gz]at run;have Y:=E _ (cJ.2 rfl);simp only[lz];generalize e x=V at l run;cases l with
  |@fV _ _ _ R off A cap _ X Z d=>
   refine run _ _ _ (Plain.ze p (.pure (bJ _ (l5 I H Y _)) ?_));rw[gI];exact .fV X Z d
 .exact rh (T:=if c then ae else[]) (an:=an) (k:=k) (ρ:=ρ) rfl p (by rw[u];intro y K;simp[Op.operands]at K;rcases K with rfl|rfl<;>assumption) (by rw[u];exact h) (fun _ _ _=>by rw[u];simp) E
def Ka{t nb:Nat}{c:Bool}(a:o.op = .slice t x lo j s)(l:Inv P w0 aR O G heap w)(f:qW G ae w e ρ o.op)(h:core P nb (.slice t x lo j s) an k ρ (if c then ae else[]) heap=some r)(m:∀q∈r.dI,q):dB P (execOp e o) w (Good P w0 aR O G ae w r.v (if c then r.ae else ae) r.heap):=by
 have d:=f;rw[a]at d;have p:aS G ae w (e x) (ρ x):=d x (by simp[Op.operands])
 simp only[core]at h;split at h
 .rename_i b M
  rw[M]at p;split at h<;>try(simp at h;done)
  rename_i n ak kk i H Q;split at h<;>try(simp at h;done)
  rename_i X J;split at h<;>try(simp at h;done)
  rename_i F I;obtain⟨Y,g,rfl⟩:=bc.1 h;obtain⟨E,Z⟩:=m _ (cJ.2 rfl);obtain⟨y,rfl,K⟩:=bc.1 Q;have u:aS G ae w (e y) (ρ y):=d y (by simp[Op.operands])
  rw[K]at u;obtain⟨q,rfl⟩:=iO E;simp only[uw]at g;simp only[lz];obtain⟨v,w',z,D⟩:=EF (kk:=kk) l J I p H (by omega) g
  refine .gj (v:=v) (w':=w') ?_ D;simp only[execOp,a,cY,qQ,u.gz];exact z
 .exact rh (T:=if c then ae else[]) (an:=an) (k:=k) (ρ:=ρ) rfl l f (by rw[a];exact h) (fun _ _ _=>by rw[a];simp) m
def x5{t len nb:Nat}(y:o.op = .buildSlice t len aT)(j:Inv P w0 aR O G heap w)(s:qW G ae w e ρ o.op)(h:core P nb (.buildSlice t len aT) an k ρ (if an.bD then ae else[]) heap=some r)(M:∀q∈r.dI,q):dB P (execOp e o) w (Good P w0 aR O G ae w r.v (if an.bD then r.ae else ae) r.heap):=by
 rw[y]at s;have m:∀p∈aT.toList,aS G ae w (e p.2) (ρ p.2):=fun p a=>s p.2 (by simp only[Op.operands];exact bh.2 ⟨p,a,rfl⟩)
 have run:∀K,dB P (do pure (.value (<-Instr.buildSlice t len (aT.map fun(i,x)=>(i,e x))))) w K->dB P (execOp e o) w K:=fun K H=>by
  simpa only[execOp,y]using H
 simp only[core]at h;split at h<;>try(simp at h;done)
 .rename_i n ak l z a
  obtain⟨J,I,rfl⟩:=bc.1 h;obtain⟨u,E,c,v,w',b,d,f,g⟩:=m2 j m a;simp only[AV.v.injEq,PV.sl.injEq]at c;obtain⟨rfl,rfl⟩:=c;simp only[lz];exact run _ (.gj b (g _ _ I))
 .rename_i n ak l z D a
  simp only[ay]at h;subst h;obtain⟨u,E,c,v,w',b,d,f,g⟩:=m2 j m a;simp only[AV.v.injEq,PV.sl.injEq]at c;obtain⟨rfl,rfl⟩:=c;simp only[D,if_true];exact run _ (.gj b f)
 .rename_i v l z D a
  simp only[ay]at h;subst h;obtain⟨u,E,rfl,v,w',b,d,f,g⟩:=m2 j m a;simp only[lz];exact run _ (.gj b d)
def GX(L:o.op = .call {callee:=.builtin .append,args:=args,argTypes:=F})(l:Inv P w0 aR O G heap w)(B:∀x∈args.toList,aS G ae w (e x) (ρ x))(h:core P nb (.call {callee:=.builtin .append,args:=args,argTypes:=F}) an k ρ ae heap=some r)(p:∀q∈r.dI,q):dB P (execOp e o) w (Good P w0 aR O G ae w r.v r.ae r.heap):=by
 simp only[core]at h;split at h<;>try(simp at h;done)
 rename_i s x t C M a1;split at h<;>try(simp at h;done)
 rename_i e1 e2 u D;split at h<;>try(simp at h;done)
 rename_i n a0 z Y Q hz;split at h<;>try(simp at h;done)
 rename_i ys a6 a4;obtain⟨a5,hn,a9⟩:=aV a6;have c:=B s (by rw[M];simp)
 have E:=(B x (by rw[M];simp)).ak a4
 have U:args = #[s,x]:=by rw[<-mX,M]
 have W:F = #[t,C]:=by rw[<-mX,a1]
 rw[U,W]at L;obtain⟨i,zv,f,y,b2,hZ⟩:=y7 hz;have J:i.size=n:=by unfold cq at Y;rw[f]at Y;simpa using Y
 have I:i.bytes=a0:=by unfold yP at Q;rw[f]at Q;simpa using Q
 have H:zv.cells.size=n:=by rw[(hZ G.bT w).1,a5]
 have run:∀K,(∃v w',(Builtin.append_ #[t,C] o.type #[e s,e x]).run P w = .ok v w'/\K v w')->dB P (execOp e o) w K:=fun K⟨v,w',a,j⟩=>
  .gj (v:=v) (w':=w') (by simp[execOp,L,resolve,invoke,builtin,a]) j
 unfold yR at h;split at h<;>try(simp at h;done)
 .rename_i g
  rw[g]at c;have N:e s = .slice none 0 0:=by generalize e s=V at c;cases c with|v h=>cases h;rfl
  split at h
  .obtain⟨h',T,rfl⟩:=bc.1 h
   have d:=p _ (cJ.2 rfl);rw[N]at run;exact run _ (BX l u D f y J H (by omega) E (by rw[I];exact d) T)
  .simp only[ay]at h
   subst h;have d:=p _ (cJ.2 rfl);rw[N]at run;refine run _ ?_;have:=tg (ae:=ae) (ty:=o.type) (tk:=ae.length) (N8:=0) (ak:=[]) (bz:=ae++[some 0]) l u D f y J H (by omega) (.mZ n) E (by rw[I];simpa using d) (by rw[eH (ar _),lG];rfl) (by simp)
    (fun t m a j=>by rw[ch j]at a;exact⟨m,a,.inr ⟨rfl,by omega⟩⟩) (fun b1=>by omega)
   simp only[dT]at this;exact this
 .rename_i tk R m ak g
  rw[g]at c;split at h<;>try(simp at h;done)
  rename_i X a7;obtain rfl:=aV X;have Z:=aV a7;simp only[ay]at h;subst h;have d:=p _ (cJ.2 rfl);have S:=(aG.1 Z).1;generalize e s=V at c run;cases c with
  |@own _ _ _ _ A len cap b3 b0 hP a8=>
   exact run _ (tg (tk:=tk) (N8:=R+1) (bz:=ae.set tk (some (R+1))) l u D f y J H (by omega) hP E (by rw[I];exact d) (by simp[S]) (by simp)
    (fun t q a j=>by
     rw[iN]at a;split at a
     .subst_vars
      simp[S]at a;exact⟨R,Z,.inl (by omega)⟩
     .rename_i a3
      exact⟨q,a,.inr ⟨rfl,fun e=>a3 e.symm⟩⟩) (fun _=>a8 Z))
 .rename_i b g
  rw[g]at c;split at h<;>try(simp at h;done)
  rename_i m ak a2;split at h<;>try(simp at h;done)
  rename_i X;obtain rfl:=aV X;obtain⟨h',T,rfl⟩:=bc.1 h;have d:=p _ (cJ.2 rfl);exact run _ (BY l u D f y J H (by omega) c a2 E (by rw[I];exact d) T)
def Qa{c:Bool}(j:o.op = .call {callee:=.builtin .len,args:=args,argTypes:=v})(i:Inv P w0 aR O G heap w)(p:qW G ae w e ρ o.op)(h:core P nb (.call {callee:=.builtin .len,args:=args,argTypes:=v}) an k ρ (if c then ae else[]) heap=some r)(E:∀q∈r.dI,q):dB P (execOp e o) w (Good P w0 aR O G ae w r.v (if c then r.ae else ae) r.heap):=by
 have u:∀x∈args.toList,aS G ae w (e x) (ρ x):=by rw[j]at p;exact fun x u=>p x (by simp only[Op.operands,Call.operands];simpa using u)
 simp only[core]at h;split at h
 .rename_i b t D J
  obtain⟨x,rfl,I⟩:=JP D;have y:v = #[t]:=by rw[<-mX,J]
  subst y;have l:=u x (by simp)
  rw[I]at l;have key:∀n ak d,(heap[b]?=some (.bk n ak)\/heap[b]?=some (.uH n ak))->P.underlying t=some (.slice d)->dB P (execOp e o) w (Good P w0 aR O G ae w (.v (.int .i64 ak.length)) ae heap):=by
   intro n ak d a g;have f:∃A cap,e x = .slice A ak.length cap:=by
    rcases a with a|a
    .obtain⟨_,_,_,A,cap,_,z,_⟩:=i.EE l a
     exact⟨A,cap,z⟩
    .obtain⟨K,s⟩:=i.box _ _ a
     have f:e x=G.val b:=by generalize e x=V at l;cases l;rfl
     rw[f];obtain⟨A,m,c,H⟩:=uU s;rw[H]at s⊢;exact⟨A,c,by rw[(s.flat).1]⟩
   obtain⟨A,cap,f⟩:=f;refine Plain.ze i (.pure ?_ (.mkInt .i64 ak.length));simp[execOp,j,resolve,invoke,builtin,Builtin.len_,run_underlying g,goInt,f]
  split at h<;>try(simp at h;done)
  .rename_i n ak d a g
   simp only[ay]at h;subst h;simp only[lz];exact key n ak d (.inl a) g
  .rename_i n ak d a g
   simp only[ay]at h;subst h;simp only[lz];exact key n ak d (.inr a) g
 .exact rh (T:=if c then ae else[]) (an:=an) (k:=k) (ρ:=ρ) rfl i p (by rw[j];exact h) (fun _ _ _=>by rw[j];simp) E
def Oc(n:Inv P w0 aR O G heap w)(d:qW G ae w e ρ o.op)(h:core P nb o.op an k ρ (if(cV o.op an nb).tk then ae else[]) heap=some r)(p:∀q∈r.dI,q)(J:∀f args u,o.op≠.call {callee:=.value f,args:=args,argTypes:=u}):
  dB P (execOp e o) w (Good P w0 aR O G ae w r.v (if(cV o.op an nb).tk then r.ae else ae) r.heap):=by
 have K:(∀x∈o.op.operands.toList,aS G ae w (e x) (ρ x))\/∃c a b,o.op = .pick c a b:=by
  by_cases D:∃c a b,o.op = .pick c a b
  .exact .inr D
  .left
   have:=d;unfold qW at this;split at this
   .exact absurd ⟨_,_,_,by assumption⟩ D
   .exact this
 obtain⟨g,op,type,j,after,guard⟩:=o;have pl:∀(c:Bool),(cV op an nb).tk=c->(∀t len aT,op≠.buildSlice t len aT)->(core P nb op an k ρ (if c then ae else[]) heap=(plain P op an k ρ).map fun(v,l)=>({v,ae:=if c then ae else[],heap,dI:=l}:lZ))->
   dB P (execOp e ⟨g,op,type,j,after,guard⟩) w (Good P w0 aR O G ae w r.v (if(cV op an nb).tk then r.ae else ae) r.heap):=by
  intro c H E I;simp only at h;rw[H]at h⊢;rw[I]at h;exact rh (o:=⟨g,op,type,j,after,guard⟩) rfl n d h E p
 cases op
 case alloc t=>exact J8 (o:=⟨g,.alloc t,type,j,after,guard⟩) rfl n h
 case box t x=>exact P8 (o:=⟨g,.box t x,type,j,after,guard⟩) rfl n (d x (by simp[Op.operands])) h
 case makeSlice t x y=>exact zg (o:=⟨g,.makeSlice t x y,type,j,after,guard⟩) rfl n (d x (by simp[Op.operands])) (d y (by simp[Op.operands])) h p
 case makeMap t y=>exact EI (o:=⟨g,.makeMap t y,type,j,after,guard⟩) rfl n h
 case lookup t m i ok=>exact GV (o:=⟨g,.lookup t m i ok,type,j,after,guard⟩) rfl n (d m (by simp[Op.operands])) (d i (by simp[Op.operands])) h p
 case mapUpdate t m i x=>exact zh (o:=⟨g,.mapUpdate t m i x,type,j,after,guard⟩) rfl n (d m (by simp[Op.operands])) (d i (by simp[Op.operands])) (d x (by simp[Op.operands])) h
 case store t a x=>exact J9 (o:=⟨g,.store t a x,type,j,after,guard⟩) rfl n (d a (by simp[Op.operands])) (d x (by simp[Op.operands])) h p
 case load t x=>
  have s:=d x (by simp[Op.operands])
  cases hfz:an.fz with
  |false=>
   have z:cV (.load t x) an nb={hr:=true,hw:=an.take,tk:=an.take,bx:=an.fb}:=by simp[cV,hfz]
   simp only[z]at h⊢;exact Cp (o:=⟨g,.load t x,type,j,after,guard⟩) rfl n s (fun _ h=>h) h p
  |true=>
   have z:cV (.load t x) an nb={}:=by simp[cV,hfz]
   simp only[z]at h⊢;exact Cp (o:=⟨g,.load t x,type,j,after,guard⟩) (c:=false) rfl n s (fun h=>by rw[hfz]at h;simp at h) h p
 case indexAddr t x ix=>exact zi (o:=⟨g,.indexAddr t x ix,type,j,after,guard⟩) (c:=false) rfl n (d x (by simp[Op.operands])) (d ix (by simp[Op.operands])) h p
 case slice t x lo hh mx=>exact Ka (o:=⟨g,.slice t x lo hh mx,type,j,after,guard⟩) (c:=false) rfl n d h p
 case buildSlice t len aT=>exact x5 (o:=⟨g,.buildSlice t len aT,type,j,after,guard⟩) rfl n d h p
 case call c=>
  obtain⟨callee,args,u⟩:=c;cases callee with
  |value f=>exact absurd rfl (J f args u)
  |invoke a b=>simp[core,plain]at h
  |builtin b=>
   have s:∀x∈args.toList,aS G ae w (e x) (ρ x):=fun x s=>d x (by simp only[Op.operands,Call.operands];simpa using s)
   cases b
   case append=>exact GX (o:=⟨g,.call {callee:=.builtin .append,args:=args,argTypes:=u},type,j,after,guard⟩) rfl n s h p
   case delete=>exact GW (o:=⟨g,.call {callee:=.builtin .delete,args:=args,argTypes:=u},type,j,after,guard⟩) rfl n s h
   case len=>exact Qa (o:=⟨g,.call {callee:=.builtin .len,args:=args,argTypes:=u},type,j,after,guard⟩) (c:=false) rfl n d h p
   all_goals exact pl false rfl (by simp) rfl
 all_goals exact pl false rfl (by simp) rfl
end
section
variable {P:Program} {G:Gh} {ae:List (Option Nat)} {heap:List Bx} {w:World}
structure lL (G G':Gh) (f:Nat->Nat) (S:Nat->Prop):Prop where
 bT:G'.bT=G.bT
 bC:∀b,S b->G.bC b->G'.bC (f b)
 val:∀b,S b->G'.val (f b)=G.val b
 box:∀b,S b->G'.h (.box (f b))=G.h (.box b)
 cell:∀b j,S b->G'.h (.cell (f b) j)=G.h (.cell b j)
 oq:∀b k,S b->G'.h (.oq (f b) k)=G.h (.oq b k)
def cf.jT(h:cf a w v p)(e:gP=a):cf gP w v p:=by subst e;exact h
def aS.uJ{v:Value}(h:aS G ae w v a)(t:a.simple=true)(s:∀g l m,a≠.fn g l m)(R:lL G q f S)(n:∀b∈a.nP,S b):aS q bz w v (a.uJ f):=by
 cases h with
 |none v=>exact .none _
 |v h=>exact .v (h.jT R.bT)
 |agg o h=>exact .agg o fun i v p j k=>(h i v p j k).jT R.bT
 |@aB b off u d h=>
  have c:S b:=n b (by simp[AV.nP])
  exact .aB (R.bC _ c d) ((R.val _ c).trans h)
 |@bA b d e=>
  have c:S b:=n b (by simp[AV.nP])
  rw[<-R.val _ c]at e⊢;exact .bA (R.bC _ c d) e
 |@mp b d e=>
  have c:S b:=n b (by simp[AV.nP])
  rw[<-R.val _ c]at e⊢;exact .mp (R.bC _ c d) e
 |qH=>exact .qH
 |Cb o h=>exact .Cb o fun i v p j k=>(h i v p j k).jT R.bT
 |fn=>exact absurd rfl (s _ _ _)
 |_=>simp[AV.simple]at t
def aS.dG{v:Value}(h:aS G ae w v a)(k:a.simple=true)(R:lL G s f S)(t:∀b∈a.refs,S b):aS s bz w v (a.dG f):=by
 by_cases u:∃g l m,a = .fn g l m
 .obtain⟨g,first,cap,rfl⟩:=u
  have n:∀a∈first++cap,a.simple=true/\(∀g l m,a≠.fn g l m):=by
   intro a c;have:=bf.1 (by simpa[AV.simple]using k) a c
   cases a<;>simp at this<;>exact⟨rfl,by simp⟩
  have x:∀a∈first++cap,∀b∈a.nP,S b:=fun a c b I=>t b (by simp only[AV.refs,eN];exact⟨a,c,I⟩)
  cases h with
  |fn r D E H=>
   refine .fn (by simpa using r) (by simpa using D) (fun i v a q c=>?_) fun i v a q c=>?_
   .rw[bw]at c
    obtain⟨o,j,rfl⟩:=bc.1 c;have d:=ea cap (aM j);exact(E i v o q j).uJ (n _ d).1 (n _ d).2 R (x _ d)
   .rw[bw]at c
    obtain⟨o,j,rfl⟩:=bc.1 c;have d:=fw first (aM j)
    exact(H i v o q j).uJ (n _ d).1 (n _ d).2 R (x _ d)
 .have p:∀g l m,a≠.fn g l m:=fun g l m e=>u ⟨g,l,m,e⟩
  have y:a.dG f=a.uJ f:=by cases a<;>first|rfl|exact absurd rfl (p _ _ _)|simp[AV.simple]at k
  have z:a.refs=a.nP:=by cases a<;>first|rfl|exact absurd rfl (p _ _ _)|simp[AV.simple]at k
  rw[y];exact h.uJ k p R (z▸t)
def Room.eq(h:Room G x w A len cap n)(e:a.bT=G.bT)(d:a.h y=G.h x):Room a y w A len cap n:=
 h.bD fun b c=>⟨d.trans c,by rw[e],rfl⟩
def eI.dG(h:eI G w x v a)(l:a.simple=true)(R:lL G c f S)(k:∀b∈a.refs,S b)(i:c.h y=G.h x):eI c w y v (a.dG f):=by
 refine⟨h.1,?_⟩;have d:=h.2;by_cases g:∃n ak,a = .j8 n ak
 .obtain⟨n,ak,rfl⟩:=g
  obtain⟨A,len,cap,e,j,m⟩:=d;exact⟨A,len,cap,e,j.jT R.bT,m.eq R.bT i⟩
 .have key:aS G [] w v a->aS c [] w v (a.dG f):=fun h=>h.dG l R k
  cases a<;>first|exact absurd ⟨_,_,rfl⟩ g|exact key d
def oO.dG(h:oO G w x v a)(j:a.JL=true)(d:b.bT=G.bT)(k:b.h y=G.h x):oO b w y v a:=by
 cases a<;>simp[AV.JL]at j
 .rename_i p
  have c:eI G w x v (.v p):=h;have:eI b w y v (.v p):=⟨c.1,by
   have g:=c.2;cases g with
   |v h=>exact .v (h.jT d)⟩
  exact this
 .rename_i ps
  have c:aS G [] w v (.agg ps):=h;have:aS b [] w v (.agg ps):=by
   cases c with
   |agg m h=>exact .agg m fun i v p f g=>(h i v p f g).jT d
  exact this
 .rename_i n ak
  have c:eI G w x v (.j8 n ak):=h;obtain⟨f,A,len,cap,e,l,o⟩:=c;exact(⟨f,A,len,cap,e,l.jT d,o.eq d k⟩:eI b w y v (.j8 n ak))
def gr.UU(h:gr P G w b bx)(Y:bx.simple=true)(Z:bx.there=true)(R:lL G r f S)(c:S b)(T:∀b∈bx.refs,S b):gr P r w (f b) (bx.dG f):=by
 cases bx with
 |cells cs=>
  obtain⟨s,X,elem,l,d,g,m,o,k,q⟩:=h;refine⟨s,X,elem,R.bC _ c l,(R.box _ c).trans d,(R.val _ c).trans g,m,by simpa using o,by rw[R.bT];exact k,fun j v a y E=>?_⟩
  rw[bw]at E;obtain⟨D,I,rfl⟩:=bc.1 E;have H:=aM I;exact(q j v D y I).dG (bf.1 Y _ H) R (fun b M=>T b (by simp only[Bx.refs,eN];exact⟨D,H,M⟩)) (R.cell _ _ c)
 |bk n ak=>
  obtain⟨l,J,h|⟨d,A,g⟩⟩:=h
  .obtain⟨s,X,elem,cap,d,g,m,o,k,q,u⟩:=h
   exact⟨R.bC _ c l,J,.inl ⟨s,X,elem,cap,(R.box _ c).trans d,(R.val _ c).trans g,m,o,k,by rw[R.bT];exact q,fun i j v p y Q=>(u i j v p y Q).jT R.bT⟩⟩
  .exact⟨R.bC _ c l,J,.inr ⟨d,A,(R.val _ c).trans g⟩⟩
 |uH n ak=>exact⟨R.bC _ c h.1,by rw[R.val _ c];exact h.2.jT R.bT⟩
 |map t B=>
  obtain⟨s,F,clock,l,d,g,m,o,k,q,u⟩:=h;refine⟨s,F,clock,R.bC _ c l,(R.box _ c).trans d,(R.val _ c).trans g,m,o,k,q,fun i e x K z=>⟨(u i e x K z).1.jT R.bT,?_⟩⟩
  exact(u i e x K z).2.dG (k x (aM z)).1 R.bT (R.oq _ _ c)
 |dead=>exact R.bC _ c h
 |free=>simp[Bx.there]at Z
end
def lM(G:Gh)(ae:List (Option Nat))(w:World)(b:List Value)(l:List AV):Prop:=b.length=l.length/\∀(i:Nat)v a,b[i]?=some v->l[i]?=some a->aS G ae w v a
def uW:List Value->Value
 |[v]=>v
 |l=>.tuple l.toArray
def zj(P:Program)(g:FuncId)(d:List AV)(j:List Bx)(r:List AV)(i:List Bx):Prop:=
 ∀(w:World)(a:Gh)(O:Nat->Prop)(f:List Value),Inv P w a.bT O a j w->lM a (cx d) w f d ->
  dB P (callFunc g f.toArray) w fun v w'=>∃c e,Inv P w a.bT O c i w'/\lM c (cx r) w' e r/\v=uW e/\∀b,a.bC b->c.bC b/\c.val b=a.val b
section
variable {P:Program} {w0:World} {aR:Nat->Nat} {O:Nat->Prop} {G:Gh} {ae:List (Option Nat)} {heap:List Bx} {w:World}
structure ri (bR ae dp:List (Option Nat)):Prop where
 len:ae.length=bR.length
 bl:∀(t n:Nat),ae[t]?=some (some n)->bR[t]?=some (some n)
 gone:∀k t:Nat,dp[k]?=some (some t)->(∃n,bR[t]?=some (some n))/\ae[t]?=some none
 inj:∀k k' t:Nat,dp[k]?=some (some t)->dp[k']?=some (some t)->k=k'
def ri.refl(ae:List (Option Nat)):ri ae ae []:=⟨rfl,fun _ _ h=>h,fun k t h=>by simp at h,fun k a t h=>by simp at h⟩
def gW(h:(l++[a])[j]?=some x):l[j]?=some x\/(j=l.length/\x=a):=by
 rcases bU j l.length with b|b
 .rw[ch b]at h;exact .inl h
 .rw[eH b]at h
  rcases DT (j-l.length)with c|c
  .rw[c]at h;simp at h;exact .inr ⟨by omega,h.symm⟩
  .rw[eE (by simp;omega)]at h;simp at h
def ri.snoc(k:ri f ae dp)(b:ae[t]?=some (some e)):ri f (ae.set t none) (dp++[some t]):=by
 have d:=(aG.1 b).1;refine⟨by simp[k.len],fun c n h=>?_,fun q c h=>?_,fun q p c h i=>?_⟩
 .rw[iN]at h
  split at h
  .simp at h
  .exact k.bl _ _ h
 .rcases gW h with h|⟨_,h⟩
  .obtain⟨j,l⟩:=k.gone _ _ h
   refine⟨j,?_⟩;rw[iN];split
   .simp[d]
   .exact l
  .simp only[ay]at h
   subst h;exact⟨⟨e,k.bl _ _ b⟩,by simp[d]⟩
 .rcases gW h with g|⟨m,g⟩<;>rcases gW i with a|⟨o,a⟩
  .exact k.inj _ _ _ g a
  .simp only[ay]at a
   subst a;have:=(k.gone _ _ g).2;rw[b]at this;simp at this
  .simp only[ay]at g
   subst g;have:=(k.gone _ _ a).2;rw[b]at this;simp at this
  .omega
def ri.cW(k:ri b ae dp):ri b ae (dp++[none]):=by
 refine⟨k.len,k.bl,fun q t h=>?_,fun q c t h a=>?_⟩
 .rcases gW h with h|⟨_,h⟩
  .exact k.gone _ _ h
  .simp at h
 .rcases gW h with h|⟨_,h⟩<;>rcases gW a with a|⟨_,a⟩
  .exact k.inj _ _ _ h a
  .simp at a
  .simp at h
  .simp at h
def rj:∀(l:List Nat),kU l=true->l.Nodup
 |[],_=>List.nodup_nil
 |a::l,h=>by
  simp only[kU,cb,gM,List.contains_eq_mem]at h;exact iu.2 ⟨by simpa using h.1,rj l h.2⟩
def wk{a:List Nat}(h:a.Nodup)(d:a[i]?=some b):a.idxOf b=i:=by
 have f:b∈a:=aM d;have c:=yN f;have e:a[a.idxOf b]?=some b:=by rw[bo c,List.getElem_idxOf]
 exact(List.getElem?_inj c h).1 (e.trans d.symm)
def mA{a:List Nat}(d:b∈a):a[a.idxOf b]?=some b:=by
 have c:=yN d;rw[bo c,List.getElem_idxOf]
def kY(a:List Nat)(dp:List (Option Nat)):Hd->Option Hd
 |.box i=>(a[i]?).map .box
 |.cell i j=>(a[i]?).map fun b=>.cell b j
 |.oq i k=>(a[i]?).map fun b=>.oq b k
 |.tok k=>(dp[k]?).join.map .tok
def zk(h:g.Nodup)(n:∀k m t:Nat,dp[k]?=some (some t)->dp[m]?=some (some t)->k=m):∀x y z,kY g dp x=some z->kY g dp y=some z->x=y:=by
 have key:∀(i j b:Nat),g[i]?=some b->g[j]?=some b->i=j:=fun i j b c l=>(List.getElem?_inj (aG.1 c).1 h).1 (c.trans l.symm)
 intro x y z c l;cases x<;>cases y<;>simp only[kY,bc]at c l<;>obtain⟨a,d,rfl⟩:=c<;>obtain⟨b,e,f⟩:=l<;>simp at f
 .subst f;rw[key _ _ _ d e]
 .obtain⟨rfl,rfl⟩:=f;rw[key _ _ _ d e]
 .obtain⟨rfl,rfl⟩:=f;rw[key _ _ _ d e]
 .subst f
  rw[Option.join_eq_some_iff]at d e;rw[n _ _ _ d e]
def Gh.pD(G:Gh)(a:List Nat)(dp:List (Option Nat)):Gh:=
 ⟨G.bT,fun x=>(kY a dp x).bind G.h,fun i=>G.val (a.getD i 0),fun i=>i<a.length⟩
def Gh.GY(G:Gh){c:List Nat}(dp:List (Option Nat)):lL G (G.pD c dp) (fun b=>c.idxOf b) (· ∈ c) where
 bT:=rfl
 bC:=fun b a _=>yN a
 val:=fun b a=>by simp[Gh.pD,bW,mA a]
 box:=fun b a=>by simp[Gh.pD,kY,mA a]
 cell:=fun b j a=>by simp[Gh.pD,kY,mA a]
 oq:=fun b k a=>by simp[Gh.pD,kY,mA a]
def Inv.pD(d:Inv P w0 aR O G heap w){a:List Nat}{dp:List (Option Nat)}(l:a.Nodup)(E:∀k p t:Nat,dp[k]?=some (some t)->dp[p]?=some (some t)->k=p)
  (D:(a.map fun b=>heap.getD b .dead).all Bx.simple=true)(j:(a.map fun b=>heap.getD b .dead).all Bx.alive=true)(r:((a.map fun b=>heap.getD b .dead).flatMap Bx.refs).all a.contains=true):
  Inv P w G.bT (fun n=>∃x,(G.pD a dp).h x=some n) (G.pD a dp) ((a.map fun b=>heap.getD b .dead).map (Bx.dG fun b=>a.idxOf b)) w where
 frame:=m0.refl _ _ _ d.frame.xr d.frame.Cc
 nb:=fun b h=>by simpa[Gh.pD]using h
 box:=fun i bx h=>by
  simp only[dQ,bw]at h;obtain⟨b,f,rfl⟩:=bc.1 h;have m:=aM f;have e:heap.getD b .dead∈a.map fun b=>heap.getD b .dead:=bh.2 ⟨b,m,rfl⟩
  have c:=bf.1 j _ e;have J:=bf.1 D _ e;have M:heap[b]?=some (heap.getD b .dead):=by
   rw[bW]at c⊢;cases hh:heap[b]? with
   |none=>rw[hh]at c;simp[Bx.alive]at c
   |some x=>rfl
  have:=(d.box b _ M).UU J (by revert c;cases heap.getD b .dead<;>simp[Bx.alive,Bx.there]) (G.GY dp) m fun b' I=>by
   have:=bf.1 r b' (eN.2 ⟨_,e,I⟩);simpa using this
  rw[wk l f]at this;exact this
 inj:=fun x y n s z=>by
  obtain⟨u,o,g⟩:=cQ.1 s;obtain⟨v,H,K⟩:=cQ.1 z;obtain rfl:=d.inj _ _ _ g K;exact zk l E _ _ _ o H
 nN:=fun x n h=>by
  obtain⟨u,o,g⟩:=cQ.1 h;exact⟨(d.nN _ _ g).1,fun _=>⟨x,h⟩⟩
 dead:=fun i n h=>by
  simp only[dQ,bw]at h;obtain⟨b,f,q⟩:=bc.1 h;have e:heap.getD b .dead∈a.map fun b=>heap.getD b .dead:=bh.2 ⟨b,aM f,rfl⟩
  have c:=bf.1 j _ e;simp only[DW]at q;revert c q
  cases heap.getD b .dead<;>simp[Bx.alive,Bx.dG]
structure WK (G G0:Gh) (f:Nat->Nat) (S:Nat->Prop) (dp:List (Option Nat)):Prop where
 dG:lL G G0 f S
 tok:∀q t:Nat,dp[q]?=some (some t)->G0.h (.tok q)=G.h (.tok t)
def AV.rk:AV->Bool
 |.own .. => true
 |_=>false
def rn(h:b.rk=false):cx [b]=[]:=by cases b<;>first|rfl|simp[AV.rk]at h
def Cq{a:AV}(h:a.simple=true):(a.dG f).rk=false:=by cases a<;>first|rfl|simp[AV.simple]at h
def tr(h:a.rk=false):(yQ P t a).rk=false:=by
 unfold yQ;split
 .split<;>rfl
 .rfl
 .exact h
def GZ(k:ri u ae dp)(h:uK P t own f a ae dp.length=some (b,gN,m))(i:aS G u w v a)(y:∀b∈a.refs,S b):
  ∃o,ri u gN o/\o.length=m/\(∃l,o=dp++l)/\cx [b]=List.replicate (m-dp.length) (some 0)/\
   ∀(c:Gh)(T d:List (Option Nat)),(∀(q:Nat)x,o[q]?=some x->d[q]?=some x)->WK G c f S d->(∀q:Nat,q<m->T[q]?=some (some 0))->aS c T w v b:=by
 unfold uK at h;split at h
 .split at h<;>try(simp at h;done)
  .rename_i tk Q n ak
   split at h<;>try(simp at h;done)
   rename_i D;have r:=aV D;simp only[ay,az]at h;obtain⟨rfl,rfl,rfl⟩:=h;refine⟨_,k.snoc r,by simp,⟨_,rfl⟩,by simp[cx],fun c T d g L e=>?_⟩
   cases i with
   |@own _ _ _ _ A len cap E I p z=>
    have s:=e dp.length (by omega)
    refine .own (aG.1 s).1 (fun _ _=>dP _) (p.jT L.dG.bT) fun _=>?_
    exact(z (k.bl _ _ r)).eq L.dG.bT (L.tok _ _ (g _ _ (by simp)))
  .split at h<;>try(simp at h;done)
   rename_i n K;simp only[ay,az]at h;obtain⟨rfl,rfl,rfl⟩:=h;refine⟨_,k.cW,by simp,⟨_,rfl⟩,by simp[cx],fun c T d g L e=>?_⟩
   have H:v = .slice none 0 0:=by cases i with|v h=>cases h;rfl
   subst H;have s:=e dp.length (by omega)
   exact .own (aG.1 s).1 (fun _ _=>dP _) (.mZ n) fun _ M=>by omega
 .split at h
  .simp only[ay,az]at h
   obtain⟨rfl,rfl,rfl⟩:=h;refine⟨dp,k,rfl,⟨[],by simp⟩,by simp[cx],fun c T d g L e=>?_⟩
   cases i with
   |own E I p z=>exact .v (p.jT L.dG.bT)
  .split at h<;>try(simp at h;done)
   rename_i j;split at h
   .rename_i J
    simp only[ay,az]at h;obtain⟨rfl,rfl,rfl⟩:=h;refine⟨dp,k,rfl,⟨[],by simp⟩,?_,fun c T d g L e=>(i.dG j L.dG y).norm⟩
    rw[lG];exact rn (tr (Cq j))
   .simp only[ay,az]at h
    obtain⟨rfl,rfl,rfl⟩:=h;refine⟨dp,k,rfl,⟨[],by simp⟩,?_,fun c T d g L e=>i.dG j L.dG y⟩
    rw[lG];exact rn (Cq j)
def uX(b:AV)(a:List AV):cx (b::a)=cx [b]++cx a:=by cases b<;>rfl
def uY{cons:List Nat}:∀(e:List AV)(s:List TypeId)(i:Nat)(ae dp:List (Option Nat))(g:List AV)(gN:List (Option Nat))(m:Nat)(d:List Value),
  ri J ae dp->iw P f cons s i e ae dp.length=some (g,gN,m)->d.length=e.length->(∀(j:Nat)v a,d[j]?=some v->e[j]?=some a->aS G J w v a)->(∀a∈e,∀b∈a.refs,S b)->
  ∃t,ri J gN t/\t.length=m/\(∃l,t=dp++l)/\g.length=e.length/\cx g=List.replicate (m-dp.length) (some 0)/\
   ∀(n:Gh)(T o:List (Option Nat)),(∀(q:Nat)x,t[q]?=some x->o[q]?=some x)->WK G n f S o->(∀q:Nat,q<m->T[q]?=some (some 0))->∀(j:Nat)v b,d[j]?=some v->g[j]?=some b->aS n T w v b
 |[],s,i,ae,dp,g,gN,m,d,k,h,D,z,E=>by
  simp only[iw,ay,az]at h;obtain⟨rfl,rfl,rfl⟩:=h;exact⟨dp,k,rfl,⟨[],by simp⟩,rfl,by simp[cx],fun _ _ _ _ _ _ j v b _ V=>by simp at V⟩
 |a::e,s,i,ae,dp,g,gN,m,d,k,h,D,z,E=>by
  simp only[iw]at h;split at h<;>try(simp at h;done)
  rename_i b a3 kA a2;split at h<;>try(simp at h;done)
  rename_i a0 a4 kB Z;simp only[ay,az]at h;obtain⟨rfl,rfl,rfl⟩:=h;cases d with
  |nil=>simp at D
  |cons v d=>
   obtain⟨I,W,K,⟨l1,M⟩,F,A⟩:=GZ (S:=S) k a2 (z 0 v a rfl rfl) (E a (aX ..));rw[<-K]at Z;obtain⟨Y,a1,R,⟨l2,y⟩,B,C,N⟩:=uY e s.tail (i+1) a3 I a0 a4 kB d W Z (by simpa using D) (fun j v a U p=>z (j+1) v a (by simpa using U) (by simpa using p)) (fun a h=>E a (aW _ h))
   have Qb:dp.length<=I.length:=by rw[M];simp
   have Od:I.length<=Y.length:=by rw[y];simp
   refine⟨Y,a1,R,⟨l1++l2,by rw[y,M];simp⟩,by simp[B],?_,fun n T o p L Q j u c H r=>?_⟩
   .rw[uX,F,C,<-K,List.replicate_append_replicate]
    congr 1
    omega
   .cases j with
    |zero=>
     simp at H r;subst H;subst r;exact A n T o (fun q x X=>p q x (by rw[y,ch (aG.1 X).1];exact X)) L (fun q hq=>Q q (by omega))
    |succ j=>exact N n T o p L Q j u c (by simpa using H) (by simpa using r)
end
def uZ:∀(xs:List Bx)(nb:Nat)(c h:List Bx),cr nb xs c=some h->(∀i,i<xs.length->c[nb+i]?=some .free)/\h.length=c.length /\
  ∀b:Nat,h[b]?=if nb<=b/\b<nb+xs.length then xs[b-nb]? else c[b]?
 |[],nb,c,h,a=>by
  simp only[cr,ay]at a;subst a;exact⟨by simp,rfl,fun b=>by rw[aN (by simp only[cN];omega)]⟩
 |x::xs,nb,c,h,a=>by
  simp only[cr]at a;split at a<;>try(simp at a;done)
  rename_i g;obtain⟨j,k,l⟩:=uZ xs (nb+1) _ h a;refine⟨fun i m=>?_,by simpa using k,fun b=>?_⟩
  .cases i with
   |zero=>exact g
   |succ i=>
    have:=j i (by simpa using m)
    rw[bP (by omega)]at this
    rw[show nb+(i+1)=nb+1+i by omega]
    exact this
  .rw[l b]
   by_cases d:b=nb
   .subst d
    rw[aN (by omega),aJ ⟨ar _,by simp⟩,bQ (aG.1 g).1]
    simp
   .by_cases f:nb+1<=b/\b<nb+1+xs.length
    .rw[aJ f,aJ ⟨by omega,by simp;omega⟩,show b-nb=(b-(nb+1))+1 by omega]
     simp
    .rw[aN f,aN (by simp;omega),bP (fun e=>d e.symm)]
def u3(f:Nat->Nat):∀(a:List Nat)(d c:List Bx),a.Nodup->a.length<=d.length->(h9 f a d c).length=c.length /\
  ∀b:Nat,(h9 f a d c)[b]?=if b∈a/\b<c.length then(d[a.idxOf b]?).map (Bx.dG f)else c[b]?
 |[],d,c,_,_=>by
  cases d<;>exact⟨rfl,fun b=>by simp[h9]⟩
 |l::a,[],c,_,h=>by simp at h
 |l::a,x::d,c,n,h=>by
  obtain⟨o,p⟩:=iu.1 n;obtain⟨k,m⟩:=u3 f a d (c.set l (x.dG f)) p (by simpa using h)
  refine⟨by rw[h9,k];simp,fun b=>?_⟩
  rw[h9,m b];simp only[fc];by_cases i:b=l
  .subst i
   rw[aN (fun h=>o h.1)]
   by_cases j:b<c.length
   .rw[aJ ⟨aX ..,j⟩,bQ j,List.idxOf_cons_self]
    rfl
   .rw[aN (fun h=>j h.2),eE (by simpa using j),eE (by omega)]
  .have q:(l::a).idxOf b=a.idxOf b+1:=by
    rw[List.idxOf_cons];have:(l==b)=false:=by simpa using fun e:l=b=>i e.symm
    rw[this];rfl
   by_cases g:b∈a/\b<c.length
   .rw[aJ g,aJ ⟨aW _ g.1,g.2⟩,q]
    simp
   .rw[aN g,aN (fun h=>g ⟨(aZ.1 h.1).resolve_left i,h.2⟩),bP (fun e=>i e.symm)]
def BQ(a:List Nat)(nb m b:Nat):Option Nat:=
 if b∈a then some (a.idxOf b)else if nb<=b/\b<nb+m then some (a.length+(b-nb))else none
def Jz(a:List Nat)(nb j:Nat):Nat:=match decide (j<a.length)with
 |true=>a.getD j 0
 |false=>nb+(j-a.length)
def G1(c:a.Nodup)(d:∀i,i<m->nb+i∉a)(e:j<a.length+m):BQ a nb m (Jz a nb j)=some j:=by
 unfold BQ Jz;by_cases h:j<a.length
 .have b:a[j]?=some (a.getD j 0):=by rw[bW,bo h];rfl
  simp only[h,decide_true];rw[aJ (aM b),wk c b]
 .simp only[h,decide_false]
  rw[aN (d _ (by omega)),aJ ⟨by omega,by omega⟩]
  congr 1
  omega
def LZ(h:BQ a nb m b=some j):Jz a nb j=b/\j<a.length+m:=by
 unfold BQ at h;unfold Jz;split at h
 .rename_i c
  obtain rfl:=ax h;have d:=yN c;have e:=mA c;simp only[d,decide_true];exact⟨by rw[bW,e];rfl,by omega⟩
 .split at h<;>try(simp at h;done)
  obtain rfl:=ax h;have:¬(a.length+(b-nb)<a.length):=by omega
  simp only[this,decide_false];exact⟨by omega,by omega⟩
def oR(a:List Nat)(nb m nt:Nat)(bD:Bool):Hd->Option Hd
 |.box b=>(BQ a nb m b).map .box
 |.cell b j=>(BQ a nb m b).map fun i=>.cell i j
 |.oq b k=>(BQ a nb m b).map fun i=>.oq i k
 |.tok t=>if bD=true/\nt<=t then some (.tok (t-nt))else none
def Gh.back(G a:Gh)(c:List Nat)(dp:List (Option Nat))(nb m nt:Nat)(bD:Bool):Gh where
 bT:=a.bT
 h:=fun x=>match oR c nb m nt bD x with
  |some y=>a.h y
  |none=>match x with
   |.tok t=>if some t∈dp\/nt<=t then none else G.h (.tok t)
   |x=>G.h x
 val:=fun b=>match BQ c nb m b with
  |some i=>a.val i
  |none=>G.val b
 bC:=fun b=>match BQ c nb m b with
  |some i=>a.bC i
  |none=>G.bC b
def Gh.Qc(G f:Gh){e:List Nat}(dp:List (Option Nat)){nb m nt:Nat}(bD:Bool)(c:e.Nodup)(d:∀i,i<m->nb+i∉e):lL f (G.back f e dp nb m nt bD) (Jz e nb) (· < e.length+m) where
 bT:=rfl
 bC:=fun b a h=>by simp only[Gh.back,G1 c d a];exact h
 val:=fun b a=>by simp only[Gh.back,G1 c d a]
 box:=fun b a=>by simp only[Gh.back,oR,G1 c d a,cY]
 cell:=fun b j a=>by simp only[Gh.back,oR,G1 c d a,cY]
 oq:=fun b k a=>by simp only[Gh.back,oR,G1 c d a,cY]
end Go.Ac
end
