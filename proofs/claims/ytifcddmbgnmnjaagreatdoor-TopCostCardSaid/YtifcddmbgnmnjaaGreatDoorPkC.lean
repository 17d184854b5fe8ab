/-
Lemmas3
-/
import Derived.Test.YtifcddmbgnmnjaaGreatDoorPkB
import Derived.Sort.AssemblyPlain
import Derived.Shelf.Sort.So_math_bits_LenIn
import Derived.Sort.EveryDepth
set_option linter.all false
set_option autoImplicit true
set_option relaxedAutoImplicit true
section
namespace Go.Ac.S4
open Go Go.Proofs Go.Proofs.Tryz Go.Ac
open Go.IntKind (wrap)
open Int (toNat tdiv tmod fdiv)
open List (drop take replicate)
set_option maxRecDepth 100000
def vf(a:Rw)(b c:Int)(d:By):St:=⟨aO 19 [(0,vL 2 a),(1,.fn (.func 96) [] [.az 0 0]),(7,vN b),(8,vN c)],[],[.aH [vS d]]⟩
def Qy:df:={an:=[(4,4,ah)],cut:=[(2,{bl:=[0,1,7,8]})]}
def Yh(a:Rw)(b:By)(H:Lp f95 0 (vf a (a.length:Int) 0 b) 1 r h):
  ak 95 [vL 2 a,.fn (.func 96) [] [.az 0 0]] [.aH [vS b]] r h:=.of func95 Qy H
def Qz(c:Rw)(d a:Int)(b:By)(H:bP (a<d) (Qj c a fun e f=>cb 96 [.agg [S e,S f],.az 0 0] [.aH [vS b]] fun g=>aI g (Fi r h [vN a] [.aH [vS b]])
 (aq (a+1)/\Lp f95 0 (vf c d (a+1) b) 1 r h))
 (Fi r h [vN (-1)] [.aH [vS b]])):
  Lp f95 0 (vf c d a b) 1 r h:=.of Qy H
def ad3(a:Rw)(H:kQ 233 [vU (wrap .u64 (a.length:Int))] [] fun c=>∃b,ak 232 [.bA 0,vN 0,vN (a.length:Int),vN c] [.bn 1 a] [] [.bn 1 b]/\Fi r h [] [.bn 1 b]):
  ak 164 [.bA 0] [.bn 1 a] r h:=.of func164 {an:=[(0,1,aX),(1,4,ah)],mod:=[(1,5,[(0,[])])]} H
def pS(a:Rw)(b c d:Int):St:=⟨aO 19 [(0,vL 2 a),(1,.fn (.func 176) [] [.az 0 0]),(7,vN b),(8,vN c)],[],[.aH [vN d]]⟩
def Hl:df:={an:=[(4,4,ah)],cut:=[(2,{bl:=[0,1,7,8]})]}
def QA(a:Rw)(b:Int)(H:Lp f175 0 (pS a (a.length:Int) 0 b) 1 r h):
  ak 175 [vL 2 a,.fn (.func 176) [] [.az 0 0]] [.aH [vN b]] r h:=.of func175 Hl H
def Kl(c:Rw)(d a b:Int)(H:bP (a<d) (aah c a fun e f=>cb 176 [.agg [N e,S f],.az 0 0] [.aH [vN b]] fun g=>aI g (Fi r h [vN a] [.aH [vN b]])
 (aq (a+1)/\Lp f175 0 (pS c d (a+1) b) 1 r h))
 (Fi r h [vN (-1)] [.aH [vN b]])):
  Lp f175 0 (pS c d a b) 1 r h:=.of Hl H
def ad4(a:Rw)(b:Int)(H:kQ 255 [vL 1 a,vN b] [] fun c=>Fi r h [vB (decide (c>=0))] []):
  ak 182 [vL 1 a,vN b] [] r h:=.of func182 {an:=[(1,2,ah)]} H
def QB(a:Rw)(H:kQ 266 [vL 6 a,.fn (.func 201) [] [.az 0 0]] [.aH [.fn (.func 143) [] []]] fun b=>Fi r h [vB (decide (b>=0))] [.aH [.fn (.func 143) [] []]]):
  ak 200 [vL 6 a,.fn (.func 201) [] [.az 0 0]] [.aH [.fn (.func 143) [] []]] r h:=.of func200 {} H
def ad5(a:Rw)(b:By)(H:kQ 267 [vL 1 a,vS b] [] fun c=>Fi r h [vB (decide (c>=0))] []):
  ak 203 [vL 1 a,vS b] [] r h:=.of func203 {an:=[(1,2,ah)]} H
def QC(a:Rw)(H:kQ 269 [vL 2 a,.fn (.func 207) [] [.az 0 0]] [.aH [.fn (.func 147) [] []]] fun b=>Fi r h [vB (decide (b>=0))] [.aH [.fn (.func 147) [] []]]):
  ak 206 [vL 2 a,.fn (.func 207) [] [.az 0 0]] [.aH [.fn (.func 147) [] []]] r h:=.of func206 {} H
def QD(a:Rw)(H:kQ 270 [vL 4 a,.fn (.func 209) [] [.az 0 0]] [.aH [.fn (.func 149) [] []]] fun b=>Fi r h [vB (decide (b>=0))] [.aH [.fn (.func 149) [] []]]):
  ak 208 [vL 4 a,.fn (.func 209) [] [.az 0 0]] [.aH [.fn (.func 149) [] []]] r h:=.of func208 {} H
def QE(a:Rw)(H:kQ 276 [vL 1 a,.fn (.func 213) [] [.az 0 0]] [.aH [.fn (.func 144) [] []]] fun b=>Fi r h [vB (decide (b>=0))] [.aH [.fn (.func 144) [] []]]):
  ak 212 [vL 1 a,.fn (.func 213) [] [.az 0 0]] [.aH [.fn (.func 144) [] []]] r h:=.of func212 {} H
def pT(a:Rw)(b c:Int)(d:By):St:=⟨aO 19 [(0,vL 3 a),(1,.fn (.func 221) [] [.az 0 0]),(7,vN b),(8,vN c)],[],[.aH [vS d]]⟩
def Hm:df:={an:=[(4,4,ah)],cut:=[(2,{bl:=[0,1,7,8]})]}
def QF(a:Rw)(b:By)(H:Lp f220 0 (pT a (a.length:Int) 0 b) 1 r h):
  ak 220 [vL 3 a,.fn (.func 221) [] [.az 0 0]] [.aH [vS b]] r h:=.of func220 Hm H
def Km(c:Rw)(d a:Int)(b:By)(H:bP (a<d) (EG c a fun e f g=>cb 221 [.agg [S e,W f,L 1 g],.az 0 0] [.aH [vS b]] fun i=>aI i (Fi r h [vN a] [.aH [vS b]])
 (aq (a+1)/\Lp f220 0 (pT c d (a+1) b) 1 r h))
 (Fi r h [vN (-1)] [.aH [vS b]])):
  Lp f220 0 (pT c d a b) 1 r h:=.of Hm H
def QG(H:kQ 295 [vL 1 a,.fn (.func 230) [] []] [] fun b=>Fi r h [vB (decide (b>=0))] []):
  ak 229 [vL 1 a,.fn (.func 230) [] []] [] r h:=.of func229 {} H
def ng(a b c:Int)(d e:Bool)(f:Rw):St:=⟨aO 134 [(0,.bA 0),(1,vN a),(2,vN b),(3,vN c),(8,vB d),(9,vB e)],[],[.bn 1 f]⟩
def sO(a b c:Int)(d e:Bool)(f:Int)(g:Rw):St:=⟨aO 134 [(0,.bA 0),(1,vN a),(2,vN b),(3,vN c),(8,vB d),(9,vB e),(10,vN f)],[],[.bn 1 g]⟩
def yA(a b c:Int)(d e:Bool)(f g i:Int)(j:Rw):St:=⟨aO 134 [(0,.bA 0),(1,vN a),(2,vN b),(3,vN c),(8,vB d),(9,vB e),(10,vN f),(11,vN g),(12,vN i)],[],[.bn 1 j]⟩
def yB(a b c:Int)(d e:Bool)(f g:Int)(i:Rw):St:=⟨aO 134 [(0,.bA 0),(1,vN a),(2,vN b),(3,vN c),(8,vB d),(9,vB e),(10,vN f),(11,vN g)],[],[.bn 1 i]⟩
def QH:df:={an:=[(15,2,aa),(15,5,aa),(15,6,aa),(17,6,aX),(17,10,aX),(17,12,ah)],mod:=[(4,3,[(0,[])]),(6,3,[(0,[])]),(8,3,[(0,[])]),(12,3,[(0,[])]),(16,3,[(0,[])]),(18,4,[(0,[])]),(20,4,[(0,[])]),(26,4,[(0,[])]),(29,5,[(0,[])])],cut:=[(2,{bl:=[0,1,2,3,8,9],iV:=[(0,1)]})],join:=[(10,{bl:=[0,1,2,3,8,9,10],iV:=[(0,1)]}),(15,{bl:=[0,1,2,3,8,9,10,11,12],iV:=[(0,1)]}),(17,{bl:=[0,1,2,3,8,9,10,11],iV:=[(0,1)]})]}
def Yi(a:Rw)(b c d:Int)(H:Lp f232 0 (ng b c d true true a) 1 r h):
  ak 232 [.bA 0,vN b,vN c,vN d] [.bn 1 a] r h:=.of func232 QH H
def QI(a b c:Int)(e f:Bool)(d:Rw)(H:aq (b-a)/\bP ((b-a)<=12) (∃g,ak 296 [.bA 0,vN a,vN b] [.bn 1 d] [] [.bn 1 g]/\Fi r h [] [.bn 1 g])
 (aI (c==0) (∃i,ak 297 [.bA 0,vN a,vN b] [.bn 1 d] [] [.bn 1 i]/\Fi r h [] [.bn 1 i])
 (aI (!e) (∃j,ak 298 [.bA 0,vN a,vN b] [.bn 1 d] [] [.bn 1 j]/\aq (c-1)/\Rp f232 10 (sO a b (c-1) e f (b-a) j) 1 r h)
 (Rp f232 10 (sO a b c e f (b-a) d) 1 r h)))):
  Lp f232 0 (ng a b c e f d) 1 r h:=.of QH H
def L9(a b e:Int)(f g:Bool)(i:Int)(c:Rw)(H:∃d j,ak 299 [.bA 0,vN a,vN b] [.bn 1 c] [vN d,vN j] [.bn 1 c]/\aI (j==2) (∃k,ak 300 [.bA 0,vN a,vN b] [.bn 1 c] [] [.bn 1 k]/\aq (b-1)/\aq (d-a)/\aq ((b-1)-(d-a))/\Rp f232 15 (yA a b e f g i ((b-1)-(d-a)) 1 k) 1 r h)
 (Rp f232 15 (yA a b e f g i d j c) 1 r h)):
  Rp f232 10 (sO a b e f g i c) 1 r h:=x7.of QH H
def EJ(a b e:Int)(c d:Bool)(f g k:Int)(i:Rw)(H:aI (bif(bif c then d else false)then(k==1)else false) (∃l j,ak 301 [.bA 0,vN a,vN b] [.bn 1 i] [vB l] [.bn 1 j]/\aI l (Fi r h [] [.bn 1 j])
 (Rp f232 17 (yB a b e c d f g j) 1 r h))
 (Rp f232 17 (yB a b e c d f g i) 1 r h)):
  Rp f232 15 (yA a b e c d f g k i) 1 r h:=x7.of QH H
def EK(a b e:Int)(n o:Bool)(g i:Int)(f:Rw)(H:bP (a>0) (aq (a-1)/\(0<=(a-1)/\(a-1)<(f.length:Int))/\∃p,(f[toNat (a-1)]?).bind (·[0]?)=some (W p)/\(0<=i/\i<(f.length:Int))/\∃q,(f[toNat i]?).bind (·[0]?)=some (W q)/\cb 302 [vW p,vW q] [] fun y=>aI (!y) (∃s t,ak 303 [.bA 0,vN a,vN b,vN i] [.bn 1 f] [vN s] [.bn 1 t]/\Lp f232 0 (ng s b e n o t) 1 r h)
 (∃c j k,ak 304 [.bA 0,vN a,vN b,vN i] [.bn 1 f] [vN c,vB j] [.bn 1 k]/\aq (c-a)/\aq (b-c)/\(8:Int)≠0/\bP ((c-a)<(b-c)) (∃u,ak 232 [.bA 0,vN a,vN c,vN e] [.bn 1 k] [] [.bn 1 u]/\aq (c+1)/\Lp f232 0 (ng (c+1) b e (decide ((c-a)>=(wrap .i64 (tdiv g 8)))) j u) 1 r h)
 (aq (c+1)/\∃v,ak 232 [.bA 0,vN (c+1),vN b,vN e] [.bn 1 k] [] [.bn 1 v]/\Lp f232 0 (ng a c e (decide ((b-c)>=(wrap .i64 (tdiv g 8)))) j v) 1 r h))) (∃d l m,ak 304 [.bA 0,vN a,vN b,vN i] [.bn 1 f] [vN d,vB l] [.bn 1 m]/\aq (d-a)/\aq (b-d)/\(8:Int)≠0/\bP ((d-a)<(b-d)) (∃w,ak 232 [.bA 0,vN a,vN d,vN e] [.bn 1 m] [] [.bn 1 w]/\aq (d+1)/\Lp f232 0 (ng (d+1) b e (decide ((d-a)>=(wrap .i64 (tdiv g 8)))) l w) 1 r h)
 (aq (d+1)/\∃x,ak 232 [.bA 0,vN (d+1),vN b,vN e] [.bn 1 m] [] [.bn 1 x]/\Lp f232 0 (ng a d e (decide ((b-d)>=(wrap .i64 (tdiv g 8)))) l x) 1 r h))):
  Rp f232 17 (yB a b e n o g i f) 1 r h:=x7.of QH H
def pU(a b:Rw)(c d:Int):St:=⟨aO 32 [(1,vL 3 a),(2,.fn (.func 238) [] []),(15,vL 3 b),(16,vN c),(17,vN d)],[],[]⟩
def Hn:df:={an:=[(5,2,ah),(6,3,ah)],cut:=[(4,{bl:=[1,2,15,16,17]})]}
def QJ(H:aI ((a.length:Int) !=(b.length:Int)) (Fi r h [vB false] [])
 (Lp f237 0 (pU b a (a.length:Int) 0) 0 r h)):
  ak 237 [vL 3 a,vL 3 b,.fn (.func 238) [] []] [] r h:=.of func237 Hn H
def Ko(b c:Rw)(d a:Int)(H:bP (a<d) (rK c a fun e f g=>rK b a fun i j k=>cb 238 [.agg [L 1 e,N f,N g],.agg [L 1 i,N j,N k]] [] fun l=>aI (!l) (Fi r h [vB false] [])
 (aq (a+1)/\Lp f237 0 (pU b c d (a+1)) 0 r h))
 (Fi r h [vB true] [])):
  Lp f237 0 (pU b c d a) 0 r h:=.of Hn H
def EL(a:Rw)(b c d:Int):St:=⟨aO 19 [(0,vL 1 a),(1,vN b),(7,vN c),(8,vN d)],[],[]⟩
def aaw:df:={an:=[(4,4,ah)],cut:=[(2,{bl:=[0,1,7,8]})]}
def ad6(a:Rw)(b:Int)(H:Lp f255 0 (EL a b (a.length:Int) 0) 0 r h):
  ak 255 [vL 1 a,vN b] [] r h:=.of func255 aaw H
def Yj(b:Rw)(c d a:Int)(H:bP (a<d) (Rdn b a fun e=>aI (c==e) (Fi r h [vN a] [])
 (aq (a+1)/\Lp f255 0 (EL b c d (a+1)) 0 r h))
 (Fi r h [vN (-1)] [])):
  Lp f255 0 (EL b c d a) 0 r h:=.of aaw H
def pV(a:Rw)(b c:Int):St:=⟨aO 19 [(0,vL 6 a),(1,.fn (.func 201) [] [.az 0 0]),(7,vN b),(8,vN c)],[],[.aH [.fn (.func 143) [] []]]⟩
def Ho:df:={an:=[(4,4,ah)],cut:=[(2,{bl:=[0,1,7,8]})]}
def QK(a:Rw)(H:Lp f266 0 (pV a (a.length:Int) 0) 1 r h):
  ak 266 [vL 6 a,.fn (.func 201) [] [.az 0 0]] [.aH [.fn (.func 143) [] []]] r h:=.of func266 Ho H
def Kp(b:Rw)(c a:Int)(H:bP (a<c) (ej b a fun d e f g i j=>cb 201 [.agg [S d,N e,S f,S g,U i,L 5 j],.az 0 0] [.aH [.fn (.func 143) [] []]] fun k=>aI k (Fi r h [vN a] [.aH [.fn (.func 143) [] []]])
 (aq (a+1)/\Lp f266 0 (pV b c (a+1)) 1 r h))
 (Fi r h [vN (-1)] [.aH [.fn (.func 143) [] []]])):
  Lp f266 0 (pV b c a) 1 r h:=.of Ho H
def EM(a:Rw)(b:By)(c d:Int):St:=⟨aO 19 [(0,vL 1 a),(1,vS b),(7,vN c),(8,vN d)],[],[]⟩
def aax:df:={an:=[(4,4,ah)],cut:=[(2,{bl:=[0,1,7,8]})]}
def ad7(a:Rw)(b:By)(H:Lp f267 0 (EM a b (a.length:Int) 0) 0 r h):
  ak 267 [vL 1 a,vS b] [] r h:=.of func267 aax H
def Yk(b:Rw)(c:By)(d a:Int)(H:bP (a<d) (Hc b a fun e=>aI (c==e) (Fi r h [vN a] [])
 (aq (a+1)/\Lp f267 0 (EM b c d (a+1)) 0 r h))
 (Fi r h [vN (-1)] [])):
  Lp f267 0 (EM b c d a) 0 r h:=.of aax H
def pW(a:Rw)(b c:Int):St:=⟨aO 19 [(0,vL 2 a),(1,.fn (.func 207) [] [.az 0 0]),(7,vN b),(8,vN c)],[],[.aH [.fn (.func 147) [] []]]⟩
def Hp:df:={an:=[(4,4,ah)],cut:=[(2,{bl:=[0,1,7,8]})]}
def QL(a:Rw)(H:Lp f269 0 (pW a (a.length:Int) 0) 1 r h):
  ak 269 [vL 2 a,.fn (.func 207) [] [.az 0 0]] [.aH [.fn (.func 147) [] []]] r h:=.of func269 Hp H
def Kq(b:Rw)(c a:Int)(H:bP (a<c) (lV b a fun d e=>cb 207 [.agg [S d,L 4 e],.az 0 0] [.aH [.fn (.func 147) [] []]] fun f=>aI f (Fi r h [vN a] [.aH [.fn (.func 147) [] []]])
 (aq (a+1)/\Lp f269 0 (pW b c (a+1)) 1 r h))
 (Fi r h [vN (-1)] [.aH [.fn (.func 147) [] []]])):
  Lp f269 0 (pW b c a) 1 r h:=.of Hp H
def pZ(a:Rw)(b c:Int):St:=⟨aO 19 [(0,vL 4 a),(1,.fn (.func 209) [] [.az 0 0]),(7,vN b),(8,vN c)],[],[.aH [.fn (.func 149) [] []]]⟩
def Hq:df:={an:=[(4,4,ah)],cut:=[(2,{bl:=[0,1,7,8]})]}
def QM(a:Rw)(H:Lp f270 0 (pZ a (a.length:Int) 0) 1 r h):
  ak 270 [vL 4 a,.fn (.func 209) [] [.az 0 0]] [.aH [.fn (.func 149) [] []]] r h:=.of func270 Hq H
def Kr(b:Rw)(c a:Int)(H:bP (a<c) (gO b a fun d e f g=>cb 209 [.agg [S d,N e,N f,L 3 g],.az 0 0] [.aH [.fn (.func 149) [] []]] fun i=>aI i (Fi r h [vN a] [.aH [.fn (.func 149) [] []]])
 (aq (a+1)/\Lp f270 0 (pZ b c (a+1)) 1 r h))
 (Fi r h [vN (-1)] [.aH [.fn (.func 149) [] []]])):
  Lp f270 0 (pZ b c a) 1 r h:=.of Hq H
def QN(a:Rw)(H:kQ 328 [vL 3 a,.fn (.func 272) [] [.az 0 0]] [.aH [.fn (.func 211) [] []]] fun b=>Fi r h [vB (decide (b>=0))] [.aH [.fn (.func 211) [] []]]):
  ak 271 [vL 3 a,.fn (.func 272) [] [.az 0 0]] [.aH [.fn (.func 211) [] []]] r h:=.of func271 {} H
def p4(a:Rw)(b c:Int):St:=⟨aO 19 [(0,vL 1 a),(1,.fn (.func 213) [] [.az 0 0]),(7,vN b),(8,vN c)],[],[.aH [.fn (.func 144) [] []]]⟩
def Hr:df:={an:=[(4,4,ah)],cut:=[(2,{bl:=[0,1,7,8]})]}
def QO(a:Rw)(H:Lp f276 0 (p4 a (a.length:Int) 0) 1 r h):
  ak 276 [vL 1 a,.fn (.func 213) [] [.az 0 0]] [.aH [.fn (.func 144) [] []]] r h:=.of func276 Hr H
def Ks(b:Rw)(c a:Int)(H:bP (a<c) (Hc b a fun d=>cb 213 [vS d,.az 0 0] [.aH [.fn (.func 144) [] []]] fun e=>aI e (Fi r h [vN a] [.aH [.fn (.func 144) [] []]])
 (aq (a+1)/\Lp f276 0 (p4 b c (a+1)) 1 r h))
 (Fi r h [vN (-1)] [.aH [.fn (.func 144) [] []]])):
  Lp f276 0 (p4 b c a) 1 r h:=.of Hr H
abbrev Kt(a:Rw)(b:Int)(c:Rw)(d e:Int)r h:=Lp f285 0 ⟨aO 36 [(0,vL 1 a),(3,vN b),(9,vL 1 c),(10,vN d),(11,vN e)],[],[]⟩ 0 r h
abbrev Ku(a b:Rw)(c d:Int)r h:=Lp f285 1 ⟨aO 36 [(6,.own 0 0 5 a),(25,vL 1 b),(26,vN c),(27,vN d)],[some 0],[]⟩ 0 r h
def Yl:df:={an:=[(4,1,ah),(9,1,{fz:=true,bF:=true,cons:=[99]}),(12,1,ah)],cut:=[(11,{bl:=[6,25,26,27],cN:=[(6,5)],owns:=[6]}),(3,{bl:=[0,3,9,10,11]})]}
def ad8(H:Kt a 0 a (a.length:Int) 0 r h):
  ak 285 [vL 1 a] [] r h:=.of func285 Yl H
def Kv(H:bP (b<e) (wA d b fun f=>aq (a+(f.length:Int))/\bP ((a+(f.length:Int))<0) (False)
 (aq (b+1)/\Kt c (a+(f.length:Int)) d e (b+1) r h))
 (∃g,ak 341 [.v .nil,vN a] [] [.own 0 0 5 g] []/\Ku g c (c.length:Int) 0 r h)):
  Kt c a d e b r h:=.of Yl H
def Kw(H:bP (a<d) (wA c a fun e=>(b++e).length*32<=2^47/\aq (a+1)/\Ku (b++e) c d (a+1) r h)
 (Fi r h [.own 0 0 5 b] [])):
  Ku b c d a r h:=.of Yl H
def QP(H:kQ 342 [vL 5 f,.fn (.func 290) [] [.az 0 0]] [.aH [vN a,vN b,vB c,vW d,vW e]] fun g=>Fi r h [vB (decide (g>=0))] [.aH [vN a,vN b,vB c,vW d,vW e]]):
  ak 289 [vL 5 f,.fn (.func 290) [] [.az 0 0]] [.aH [vN a,vN b,vB c,vW d,vW e]] r h:=.of func289 {} H
def QQ(H:kQ 342 [vL 5 b,.fn (.func 294) [] [.az 0 0]] [.aH [vL 5 a]] fun c=>Fi r h [vB (decide (c>=0))] [.aH [vL 5 a]]):
  ak 289 [vL 5 b,.fn (.func 294) [] [.az 0 0]] [.aH [vL 5 a]] r h:=.of func289 {} H
def ad9(H:kQ 343 [vL 5 a,.agg [N b,N c,B d,W e,W f]] [] fun g=>Fi r h [vB (decide (g>=0))] []):
  ak 293 [vL 5 a,.agg [N b,N c,B d,W e,W f]] [] r h:=.of func293 {an:=[(1,2,ah)]} H
def p5(a:Rw)(b c:Int):St:=⟨aO 19 [(0,vL 1 a),(1,.fn (.func 230) [] []),(7,vN b),(8,vN c)],[],[]⟩
def Hs:df:={an:=[(4,4,ah)],cut:=[(2,{bl:=[0,1,7,8]})]}
def QR(H:Lp f295 0 (p5 a (a.length:Int) 0) 0 r h):
  ak 295 [vL 1 a,.fn (.func 230) [] []] [] r h:=.of func295 Hs H
def Kx(b:Rw)(c a:Int)(H:bP (a<c) (wA b a fun d=>cb 230 [vL 5 d] [] fun e=>aI e (Fi r h [vN a] [])
 (aq (a+1)/\Lp f295 0 (p5 b c (a+1)) 0 r h))
 (Fi r h [vN (-1)] [])):
  Lp f295 0 (p5 b c a) 0 r h:=.of Hs H
abbrev tH(a b c:Int)(d:Rw)r h:=Lp f296 0 ⟨aO 49 [(0,.bA 0),(1,vN a),(2,vN b),(6,vN c)],[],[.bn 1 d]⟩ 1 r h
abbrev EN(a b c d:Int)(e:Rw)r h:=Lp f296 1 ⟨aO 49 [(0,.bA 0),(1,vN a),(2,vN b),(6,vN c),(7,vN d)],[],[.bn 1 e]⟩ 1 r h
def Ym:df:={an:=[(4,6,aX),(4,11,aX),(4,13,ah),(6,8,aX),(6,12,aX),(6,14,aX),(6,16,aX)],cut:=[(1,{bl:=[0,1,2,6],iV:=[(0,1)]}),(4,{bl:=[0,1,2,6,7],iV:=[(0,1)]})]}
def aea(b:Rw)(a c:Int)(H:aq (a+1)/\tH a c (a+1) b r h):
  ak 296 [.bA 0,vN a,vN c] [.bn 1 b] r h:=.of func296 Ym H
def QS(d b a:Int)(c:Rw)(H:bP (a<b) (EN d b a a c r h)
 (Fi r h [] [.bn 1 c])):
  tH d b a c r h:=.of Ym H
def QT(d e c a:Int)(b:Rw)(H:bP (a>d) ((0<=a/\a<(b.length:Int))/\∃g,(b[toNat a]?).bind (·[0]?)=some (W g)/\aq (a-1)/\(0<=(a-1)/\(a-1)<(b.length:Int))/\∃i,(b[toNat (a-1)]?).bind (·[0]?)=some (W i)/\cb 302 [vW g,vW i] [] fun k=>aI k (aq (a-1)/\aq (a-1)/\(0<=(a-1)/\(a-1)<(b.length:Int))/\∃f,(b[toNat (a-1)]?).bind (·[0]?)=some (W f)/\(0<=a/\a<(b.length:Int))/\∃j,(b[toNat a]?).bind (·[0]?)=some (W j)/\(0<=a/\a<(b.length:Int))/\0+1<=1/\(0<=(a-1)/\(a-1)<((cF b (toNat a) 0 [W f]).length:Int))/\0+1<=1/\aq (a-1)/\EN d e c (a-1) (cF (cF b (toNat a) 0 [W f]) (toNat (a-1)) 0 [W j]) r h)
 (aq (c+1)/\tH d e (c+1) b r h)) (aq (c+1)/\tH d e (c+1) b r h)):
  EN d e c a b r h:=.of Ym H
abbrev EO(a b c d:Int)(e:Rw)r h:=Lp f297 0 ⟨aO 56 [(0,.bA 0),(6,vN a),(7,vN b),(8,vN c),(9,vN d)],[],[.bn 1 e]⟩ 1 r h
abbrev EP(a b c:Int)(d:Rw)r h:=Lp f297 1 ⟨aO 56 [(0,.bA 0),(6,vN a),(7,vN b),(10,vN c)],[],[.bn 1 d]⟩ 1 r h
def Yn:df:={an:=[(10,10,aX),(10,14,aX),(10,16,aX),(10,18,aX)],mod:=[(6,4,[(0,[])]),(11,4,[(0,[])])],cut:=[(4,{bl:=[0,6,7,8,9],iV:=[(0,1)]}),(8,{bl:=[0,6,7,10],iV:=[(0,1)]})]}
def aeb(c:Rw)(a b:Int)(H:aq (b-a)/\aq ((b-a)-1)/\(2:Int)≠0/\EO a 0 (b-a) (wrap .i64 (tdiv ((b-a)-1) 2)) c r h):
  ak 297 [.bA 0,vN a,vN b] [.bn 1 c] r h:=.of func297 Yn H
def QU(c d a b:Int)(e:Rw)(H:bP (b>=0) (∃f,ak 344 [.bA 0,vN b,vN a,vN c] [.bn 1 e] [] [.bn 1 f]/\aq (b-1)/\EO c d a (b-1) f r h)
 (aq (a-1)/\EP c d (a-1) e r h)):
  EO c d a b e r h:=.of Yn H
def QV(a d b:Int)(c:Rw)(H:bP (b>=0) (aq (a+b)/\aq (a+b)/\(0<=(a+b)/\(a+b)<(c.length:Int))/\∃e,(c[toNat (a+b)]?).bind (·[0]?)=some (W e)/\(0<=a/\a<(c.length:Int))/\∃f,(c[toNat a]?).bind (·[0]?)=some (W f)/\(0<=a/\a<(c.length:Int))/\0+1<=1/\(0<=(a+b)/\(a+b)<((cF c (toNat a) 0 [W e]).length:Int))/\0+1<=1/\∃g,ak 344 [.bA 0,vN d,vN b,vN a] [.bn 1 (cF (cF c (toNat a) 0 [W e]) (toNat (a+b)) 0 [W f])] [] [.bn 1 g]/\aq (b-1)/\EP a d (b-1) g r h)
 (Fi r h [] [.bn 1 c])):
  EP a d b c r h:=.of Yn H
abbrev zH(a b c d:Int)(e:Rw)(f:Int)r h:=Lp f298 0 ⟨aO 65 [(0,.bA 0),(1,vN a),(6,vN b),(7,.az 1 0),(8,vU c),(9,vN d)],[],[.bn 1 e,.aH [vU f]]⟩ 1 r h
abbrev sP(a b c d e:Int)(f:Rw)(g:Int)r h:=Rp f298 10 ⟨aO 65 [(0,.bA 0),(1,vN a),(6,vN b),(7,.az 1 0),(8,vU c),(9,vN d),(10,vN e)],[],[.bn 1 f,.aH [vU g]]⟩ 1 r h
def Yo:df:={an:=[(3,1,ah),(10,10,aX),(10,14,aX),(10,16,aX),(10,18,aX)],mod:=[(7,0,[(0,[0])])],cut:=[(5,{bl:=[0,1,6,7,8,9],iV:=[(0,1)]})],join:=[(10,{bl:=[0,1,6,7,8,9,10],iV:=[(0,1)]})]}
def aec(c:Rw)(a b:Int)(H:aq (b-a)/\bP ((b-a)>=8) (Ke 345 [vN (b-a)] [] fun d=>(4:Int)≠0/\aq ((wrap .i64 (tdiv (b-a) 4))*2)/\aq (a+((wrap .i64 (tdiv (b-a) 4))*2))/\aq ((a+((wrap .i64 (tdiv (b-a) 4))*2))-1)/\zH a (b-a) d ((a+((wrap .i64 (tdiv (b-a) 4))*2))-1) c (wrap .u64 (b-a)) r h)
 (Fi r h [] [.bn 1 c])):
  ak 298 [.bA 0,vN a,vN b] [.bn 1 c] r h:=.of func298 Yo H
def QW(c a b e:Int)(f:Rw)(i:Int)(H:(4:Int)≠0/\aq ((wrap .i64 (tdiv a 4))*2)/\aq (c+((wrap .i64 (tdiv a 4))*2))/\aq ((c+((wrap .i64 (tdiv a 4))*2))+1)/\bP (e<=((c+((wrap .i64 (tdiv a 4))*2))+1)) (∃d g,ak 346 [.az 0 0] [.aH [vU i]] [vU d] [.aH [vU g]]/\bP ((wrap .i64 (cf .and .u64 d (wrap .u64 (b-1))))>=a) (aq ((wrap .i64 (cf .and .u64 d (wrap .u64 (b-1))))-a)/\sP c a b e ((wrap .i64 (cf .and .u64 d (wrap .u64 (b-1))))-a) f g r h)
 (sP c a b e (wrap .i64 (cf .and .u64 d (wrap .u64 (b-1)))) f g r h))
 (Fi r h [] [.bn 1 f])):
  zH c a b e f i r h:=.of Yo H
def UM(a e g b c:Int)(d:Rw)(i:Int)(H:aq (a+c)/\aq (a+c)/\(0<=(a+c)/\(a+c)<(d.length:Int))/\∃f,(d[toNat (a+c)]?).bind (·[0]?)=some (W f)/\(0<=b/\b<(d.length:Int))/\∃j,(d[toNat b]?).bind (·[0]?)=some (W j)/\(0<=b/\b<(d.length:Int))/\0+1<=1/\(0<=(a+c)/\(a+c)<((cF d (toNat b) 0 [W f]).length:Int))/\0+1<=1/\aq (b+1)/\zH a e g (b+1) (cF (cF d (toNat b) 0 [W f]) (toNat (a+c)) 0 [W j]) i r h):
  sP a e g b c d i r h:=x7.of Yo H
def aay(b:Rw)(a c:Int)(H:aq (c-a)/\(4:Int)≠0/\aq ((wrap .i64 (tdiv (c-a) 4))*1)/\aq (a+((wrap .i64 (tdiv (c-a) 4))*1))/\(4:Int)≠0/\aq ((wrap .i64 (tdiv (c-a) 4))*2)/\aq (a+((wrap .i64 (tdiv (c-a) 4))*2))/\(4:Int)≠0/\aq ((wrap .i64 (tdiv (c-a) 4))*3)/\aq (a+((wrap .i64 (tdiv (c-a) 4))*3))/\bP ((c-a)>=8) (bP ((c-a)>=50) (∃i j,ak 347 [.bA 0,vN (a+((wrap .i64 (tdiv (c-a) 4))*1)),.az 1 0] [.bn 1 b,.aH [vN 0]] [vN i] [.bn 1 b,.aH [vN j]]/\∃k l,ak 347 [.bA 0,vN (a+((wrap .i64 (tdiv (c-a) 4))*2)),.az 1 0] [.bn 1 b,.aH [vN j]] [vN k] [.bn 1 b,.aH [vN l]]/\∃m n,ak 347 [.bA 0,vN (a+((wrap .i64 (tdiv (c-a) 4))*3)),.az 1 0] [.bn 1 b,.aH [vN l]] [vN m] [.bn 1 b,.aH [vN n]]/\∃d f,ak 348 [.bA 0,vN i,vN k,vN m,.az 1 0] [.bn 1 b,.aH [vN n]] [vN d] [.bn 1 b,.aH [vN f]]/\aI (f==0) (Fi r h [vN d,vN 1] [.bn 1 b])
 (aI (f==12) (Fi r h [vN d,vN 2] [.bn 1 b])
 (Fi r h [vN d,vN 0] [.bn 1 b])))
 (∃e g,ak 348 [.bA 0,vN (a+((wrap .i64 (tdiv (c-a) 4))*1)),vN (a+((wrap .i64 (tdiv (c-a) 4))*2)),vN (a+((wrap .i64 (tdiv (c-a) 4))*3)),.az 1 0] [.bn 1 b,.aH [vN 0]] [vN e] [.bn 1 b,.aH [vN g]]/\aI (g==0) (Fi r h [vN e,vN 1] [.bn 1 b])
 (aI (g==12) (Fi r h [vN e,vN 2] [.bn 1 b])
 (Fi r h [vN e,vN 0] [.bn 1 b]))))
 (aI ((0:Int)==0) (Fi r h [vN (a+((wrap .i64 (tdiv (c-a) 4))*2)),vN 1] [.bn 1 b])
 (aI ((0:Int)==12) (Fi r h [vN (a+((wrap .i64 (tdiv (c-a) 4))*2)),vN 2] [.bn 1 b])
 (Fi r h [vN (a+((wrap .i64 (tdiv (c-a) 4))*2)),vN 0] [.bn 1 b])))):
  ak 299 [.bA 0,vN a,vN c] [.bn 1 b] r h:=.of func299 {mod:=[(8,2,[(1,[0])]),(9,2,[(1,[0])]),(10,2,[(1,[0])]),(11,4,[(1,[0])])]} H
abbrev ER(a b:Int)(c:Rw)r h:=Lp f300 0 ⟨aO 32 [(0,.bA 0),(6,vN a),(7,vN b)],[],[.bn 1 c]⟩ 1 r h
def aaz:df:={an:=[(3,6,aX),(3,10,aX),(3,12,aX),(3,14,aX)],cut:=[(2,{bl:=[0,6,7],iV:=[(0,1)]})]}
def aed(b:Rw)(c a:Int)(H:aq (a-1)/\ER c (a-1) b r h):
  ak 300 [.bA 0,vN c,vN a] [.bn 1 b] r h:=.of func300 aaz H
def QX(a b:Int)(c:Rw)(H:bP (a<b) ((0<=b/\b<(c.length:Int))/\∃d,(c[toNat b]?).bind (·[0]?)=some (W d)/\(0<=a/\a<(c.length:Int))/\∃e,(c[toNat a]?).bind (·[0]?)=some (W e)/\(0<=a/\a<(c.length:Int))/\0+1<=1/\(0<=b/\b<((cF c (toNat a) 0 [W d]).length:Int))/\0+1<=1/\aq (a+1)/\aq (b-1)/\ER (a+1) (b-1) (cF (cF c (toNat a) 0 [W d]) (toNat b) 0 [W e]) r h)
 (Fi r h [] [.bn 1 c])):
  ER a b c r h:=.of aaz H
abbrev nh(a b c d:Int)(e:Rw)r h:=Lp f301 0 ⟨aO 133 [(0,.bA 0),(1,vN a),(2,vN b),(7,vN c),(8,vN d)],[],[.bn 1 e]⟩ 1 r h
abbrev ES(a b c d:Int)(e:Rw)r h:=Lp f301 1 ⟨aO 133 [(0,.bA 0),(1,vN a),(2,vN b),(7,vN c),(8,vN d)],[],[.bn 1 e]⟩ 1 r h
abbrev ET(a b c d:Int)(e:Rw)r h:=Rp f301 7 ⟨aO 133 [(0,.bA 0),(1,vN a),(2,vN b),(7,vN c),(8,vN d)],[],[.bn 1 e]⟩ 1 r h
abbrev EU(a b c d e:Int)(f:Rw)r h:=Lp f301 2 ⟨aO 133 [(0,.bA 0),(1,vN a),(2,vN b),(7,vN c),(8,vN d),(9,vN e)],[],[.bn 1 f]⟩ 1 r h
abbrev rL(a b c d e:Int)(f:Rw)r h:=Lp f301 3 ⟨aO 133 [(0,.bA 0),(1,vN a),(2,vN b),(7,vN c),(8,vN d),(10,vN e)],[],[.bn 1 f]⟩ 1 r h
def Ox:df:={an:=[(5,6,aX),(5,11,aX),(5,13,ah),(11,8,aX),(11,12,aX),(11,14,aX),(11,16,aX),(16,2,aX),(16,7,aX),(16,9,ah),(17,8,aX),(17,12,aX),(17,14,aX),(17,16,aX),(22,2,aX),(22,7,aX),(22,9,ah),(23,8,aX),(23,12,aX),(23,14,aX),(23,16,aX)],cut:=[(14,{bl:=[0,1,2,7,8,9],iV:=[(0,1)]}),(20,{bl:=[0,1,2,7,8,10],iV:=[(0,1)]}),(3,{bl:=[0,1,2,7,8],iV:=[(0,1)]}),(5,{bl:=[0,1,2,7,8],iV:=[(0,1)]})],join:=[(7,{bl:=[0,1,2,7,8],iV:=[(0,1)]})]}
def aee(b:Rw)(a c:Int)(H:aq (a+1)/\nh a c (a+1) 0 b r h):
  ak 301 [.bA 0,vN a,vN c] [.bn 1 b] r h:=.of func301 Ox H
def QY(c d e a:Int)(b:Rw)(H:bP (a<5) (ES c d e a b r h)
 (Fi r h [vB false] [.bn 1 b])):
  nh c d e a b r h:=.of Ox H
def Yp(d c a e:Int)(b:Rw)(H:bP (a<c) ((0<=a/\a<(b.length:Int))/\∃f,(b[toNat a]?).bind (·[0]?)=some (W f)/\aq (a-1)/\(0<=(a-1)/\(a-1)<(b.length:Int))/\∃g,(b[toNat (a-1)]?).bind (·[0]?)=some (W g)/\cb 302 [vW f,vW g] [] fun i=>aI (!i) (aq (a+1)/\ES d c (a+1) e b r h)
 (ET d c a e b r h)) (ET d c a e b r h)):
  ES d c a e b r h:=.of Ox H
def Yq(d c a e:Int)(b:Rw)(H:aI (a==c) (Fi r h [vB true] [.bn 1 b])
 (aq (c-d)/\bP ((c-d)<50) (Fi r h [vB false] [.bn 1 b])
 (aq (a-1)/\aq (a-1)/\(0<=(a-1)/\(a-1)<(b.length:Int))/\∃f,(b[toNat (a-1)]?).bind (·[0]?)=some (W f)/\(0<=a/\a<(b.length:Int))/\∃g,(b[toNat a]?).bind (·[0]?)=some (W g)/\(0<=a/\a<(b.length:Int))/\0+1<=1/\(0<=(a-1)/\(a-1)<((cF b (toNat a) 0 [W f]).length:Int))/\0+1<=1/\aq (a-d)/\bP ((a-d)>=2) (aq (a-1)/\EU d c a e (a-1) (cF (cF b (toNat a) 0 [W f]) (toNat (a-1)) 0 [W g]) r h)
 (aq (c-a)/\bP ((c-a)>=2) (aq (a+1)/\rL d c a e (a+1) (cF (cF b (toNat a) 0 [W f]) (toNat (a-1)) 0 [W g]) r h)
 (aq (e+1)/\nh d c a (e+1) (cF (cF b (toNat a) 0 [W f]) (toNat (a-1)) 0 [W g]) r h))))):
  ET d c a e b r h:=x7.of Ox H
def QZ(f d c e a:Int)(b:Rw)(H:bP (a>=1) ((0<=a/\a<(b.length:Int))/\∃i,(b[toNat a]?).bind (·[0]?)=some (W i)/\aq (a-1)/\(0<=(a-1)/\(a-1)<(b.length:Int))/\∃j,(b[toNat (a-1)]?).bind (·[0]?)=some (W j)/\cb 302 [vW i,vW j] [] fun l=>aI (!l) (aq (d-c)/\bP ((d-c)>=2) (aq (c+1)/\rL f d c e (c+1) b r h)
 (aq (e+1)/\nh f d c (e+1) b r h))
 (aq (a-1)/\aq (a-1)/\(0<=(a-1)/\(a-1)<(b.length:Int))/\∃g,(b[toNat (a-1)]?).bind (·[0]?)=some (W g)/\(0<=a/\a<(b.length:Int))/\∃k,(b[toNat a]?).bind (·[0]?)=some (W k)/\(0<=a/\a<(b.length:Int))/\0+1<=1/\(0<=(a-1)/\(a-1)<((cF b (toNat a) 0 [W g]).length:Int))/\0+1<=1/\aq (a-1)/\EU f d c e (a-1) (cF (cF b (toNat a) 0 [W g]) (toNat (a-1)) 0 [W k]) r h))
 (aq (d-c)/\bP ((d-c)>=2) (aq (c+1)/\rL f d c e (c+1) b r h)
 (aq (e+1)/\nh f d c (e+1) b r h))):
  EU f d c e a b r h:=.of Ox H
def Yr(e d f c a:Int)(b:Rw)(H:bP (a<d) ((0<=a/\a<(b.length:Int))/\∃i,(b[toNat a]?).bind (·[0]?)=some (W i)/\aq (a-1)/\(0<=(a-1)/\(a-1)<(b.length:Int))/\∃j,(b[toNat (a-1)]?).bind (·[0]?)=some (W j)/\cb 302 [vW i,vW j] [] fun l=>aI (!l) (aq (c+1)/\nh e d f (c+1) b r h)
 (aq (a-1)/\aq (a-1)/\(0<=(a-1)/\(a-1)<(b.length:Int))/\∃g,(b[toNat (a-1)]?).bind (·[0]?)=some (W g)/\(0<=a/\a<(b.length:Int))/\∃k,(b[toNat a]?).bind (·[0]?)=some (W k)/\(0<=a/\a<(b.length:Int))/\0+1<=1/\(0<=(a-1)/\(a-1)<((cF b (toNat a) 0 [W g]).length:Int))/\0+1<=1/\aq (a+1)/\rL e d f c (a+1) (cF (cF b (toNat a) 0 [W g]) (toNat (a-1)) 0 [W k]) r h))
 (aq (c+1)/\nh e d f (c+1) b r h)):
  rL e d f c a b r h:=.of Ox H
abbrev tI(a b c:Int)(d:Rw)r h:=Rp f303 3 ⟨aO 84 [(0,.bA 0),(1,vN a),(9,vN b),(10,vN c)],[],[.bn 1 d]⟩ 1 r h
abbrev wG(a b c:Int)(d:Rw)r h:=Lp f303 2 ⟨aO 84 [(0,.bA 0),(1,vN a),(9,vN b),(10,vN c)],[],[.bn 1 d]⟩ 1 r h
abbrev zI(a b c:Int)(d:Rw)r h:=Rp f303 7 ⟨aO 84 [(0,.bA 0),(1,vN a),(9,vN b),(10,vN c)],[],[.bn 1 d]⟩ 1 r h
def UN:df:={an:=[(1,6,aX),(1,10,aX),(1,12,aX),(1,14,aX),(3,6,aX),(3,10,aX),(3,12,ah),(5,6,aX),(5,10,aX),(5,12,ah),(8,6,aX),(8,10,aX),(8,12,aX),(8,14,aX)],cut:=[(5,{bl:=[0,1,9,10],iV:=[(0,1)]})],join:=[(3,{bl:=[0,1,9,10],iV:=[(0,1)]}),(7,{bl:=[0,1,9,10],iV:=[(0,1)]})]}
def aef(b:Rw)(a d c:Int)(H:(0<=c/\c<(b.length:Int))/\∃e,(b[toNat c]?).bind (·[0]?)=some (W e)/\(0<=a/\a<(b.length:Int))/\∃f,(b[toNat a]?).bind (·[0]?)=some (W f)/\(0<=a/\a<(b.length:Int))/\0+1<=1/\(0<=c/\c<((cF b (toNat a) 0 [W e]).length:Int))/\0+1<=1/\aq (a+1)/\aq (d-1)/\tI a (a+1) (d-1) (cF (cF b (toNat a) 0 [W e]) (toNat c) 0 [W f]) r h):
  ak 303 [.bA 0,vN a,vN d,vN c] [.bn 1 b] r h:=.of func303 UN H
def Ys(c a d:Int)(b:Rw)(H:bP (a<=d) ((0<=c/\c<(b.length:Int))/\∃e,(b[toNat c]?).bind (·[0]?)=some (W e)/\(0<=a/\a<(b.length:Int))/\∃f,(b[toNat a]?).bind (·[0]?)=some (W f)/\cb 302 [vW e,vW f] [] fun g=>aI (!g) (aq (a+1)/\tI c (a+1) d b r h)
 (wG c a d b r h)) (wG c a d b r h)):
  tI c a d b r h:=x7.of UN H
def Yt(c d a:Int)(b:Rw)(H:bP (d<=a) ((0<=c/\c<(b.length:Int))/\∃e,(b[toNat c]?).bind (·[0]?)=some (W e)/\(0<=a/\a<(b.length:Int))/\∃f,(b[toNat a]?).bind (·[0]?)=some (W f)/\cb 302 [vW e,vW f] [] fun g=>aI g (aq (a-1)/\wG c d (a-1) b r h)
 (zI c d a b r h)) (zI c d a b r h)):
  wG c d a b r h:=.of UN H
def Yu(e a b:Int)(c:Rw)(H:bP (a>b) (Fi r h [vN a] [.bn 1 c])
 ((0<=b/\b<(c.length:Int))/\∃d,(c[toNat b]?).bind (·[0]?)=some (W d)/\(0<=a/\a<(c.length:Int))/\∃f,(c[toNat a]?).bind (·[0]?)=some (W f)/\(0<=a/\a<(c.length:Int))/\0+1<=1/\(0<=b/\b<((cF c (toNat a) 0 [W d]).length:Int))/\0+1<=1/\aq (a+1)/\aq (b-1)/\tI e (a+1) (b-1) (cF (cF c (toNat a) 0 [W d]) (toNat b) 0 [W f]) r h)):
  zI e a b c r h:=x7.of UN H
abbrev zJ(a b c:Int)(d:Rw)r h:=Lp f304 0 ⟨aO 168 [(0,.bA 0),(1,vN a),(10,vN b),(11,vN c)],[],[.bn 1 d]⟩ 1 r h
abbrev wH(a b c:Int)(d:Rw)r h:=Lp f304 1 ⟨aO 168 [(0,.bA 0),(1,vN a),(10,vN b),(11,vN c)],[],[.bn 1 d]⟩ 1 r h
abbrev zK(a b c:Int)(d:Rw)r h:=Rp f304 7 ⟨aO 168 [(0,.bA 0),(1,vN a),(10,vN b),(11,vN c)],[],[.bn 1 d]⟩ 1 r h
abbrev p6(a b c:Int)(d:Rw)r h:=Rp f304 13 ⟨aO 168 [(0,.bA 0),(1,vN a),(10,vN b),(11,vN c)],[],[.bn 1 d]⟩ 1 r h
abbrev wI(a b c:Int)(d:Rw)r h:=Lp f304 4 ⟨aO 168 [(0,.bA 0),(1,vN a),(10,vN b),(11,vN c)],[],[.bn 1 d]⟩ 1 r h
abbrev vg(a b c:Int)(d:Rw)r h:=Rp f304 17 ⟨aO 168 [(0,.bA 0),(1,vN a),(10,vN b),(11,vN c)],[],[.bn 1 d]⟩ 1 r h
def Ky:df:={an:=[(1,6,aX),(1,10,aX),(1,12,aX),(1,14,aX),(3,6,aX),(3,10,aX),(3,12,ah),(5,6,aX),(5,10,aX),(5,12,ah),(8,6,aX),(8,10,aX),(8,12,aX),(8,14,aX),(10,6,aX),(10,10,aX),(10,12,aX),(10,14,aX),(13,6,aX),(13,10,aX),(13,12,ah),(15,6,aX),(15,10,aX),(15,12,ah),(18,6,aX),(18,10,aX),(18,12,aX),(18,14,aX),(21,6,aX),(21,10,aX),(21,12,aX),(21,14,aX)],cut:=[(15,{bl:=[0,1,10,11],iV:=[(0,1)]}),(3,{bl:=[0,1,10,11],iV:=[(0,1)]}),(5,{bl:=[0,1,10,11],iV:=[(0,1)]})],join:=[(13,{bl:=[0,1,10,11],iV:=[(0,1)]}),(17,{bl:=[0,1,10,11],iV:=[(0,1)]}),(7,{bl:=[0,1,10,11],iV:=[(0,1)]})]}
def aeg(b:Rw)(a d c:Int)(H:(0<=c/\c<(b.length:Int))/\∃e,(b[toNat c]?).bind (·[0]?)=some (W e)/\(0<=a/\a<(b.length:Int))/\∃f,(b[toNat a]?).bind (·[0]?)=some (W f)/\(0<=a/\a<(b.length:Int))/\0+1<=1/\(0<=c/\c<((cF b (toNat a) 0 [W e]).length:Int))/\0+1<=1/\aq (a+1)/\aq (d-1)/\zJ a (a+1) (d-1) (cF (cF b (toNat a) 0 [W e]) (toNat c) 0 [W f]) r h):
  ak 304 [.bA 0,vN a,vN d,vN c] [.bn 1 b] r h:=.of func304 Ky H
def Yv(c a d:Int)(b:Rw)(H:bP (a<=d) ((0<=a/\a<(b.length:Int))/\∃e,(b[toNat a]?).bind (·[0]?)=some (W e)/\(0<=c/\c<(b.length:Int))/\∃f,(b[toNat c]?).bind (·[0]?)=some (W f)/\cb 302 [vW e,vW f] [] fun g=>aI g (aq (a+1)/\zJ c (a+1) d b r h)
 (wH c a d b r h)) (wH c a d b r h)):
  zJ c a d b r h:=.of Ky H
def Yw(c d a:Int)(b:Rw)(H:bP (d<=a) ((0<=a/\a<(b.length:Int))/\∃e,(b[toNat a]?).bind (·[0]?)=some (W e)/\(0<=c/\c<(b.length:Int))/\∃f,(b[toNat c]?).bind (·[0]?)=some (W f)/\cb 302 [vW e,vW f] [] fun g=>aI (!g) (aq (a-1)/\wH c d (a-1) b r h)
 (zK c d a b r h)) (zK c d a b r h)):
  wH c d a b r h:=.of Ky H
def Yx(d c a:Int)(b:Rw)(H:bP (c>a) ((0<=d/\d<(b.length:Int))/\∃e,(b[toNat d]?).bind (·[0]?)=some (W e)/\(0<=a/\a<(b.length:Int))/\∃g,(b[toNat a]?).bind (·[0]?)=some (W g)/\(0<=a/\a<(b.length:Int))/\0+1<=1/\(0<=d/\d<((cF b (toNat a) 0 [W e]).length:Int))/\0+1<=1/\Fi r h [vN a,vB true] [.bn 1 (cF (cF b (toNat a) 0 [W e]) (toNat d) 0 [W g])])
 ((0<=a/\a<(b.length:Int))/\∃f,(b[toNat a]?).bind (·[0]?)=some (W f)/\(0<=c/\c<(b.length:Int))/\∃i,(b[toNat c]?).bind (·[0]?)=some (W i)/\(0<=c/\c<(b.length:Int))/\0+1<=1/\(0<=a/\a<((cF b (toNat c) 0 [W f]).length:Int))/\0+1<=1/\aq (c+1)/\aq (a-1)/\p6 d (c+1) (a-1) (cF (cF b (toNat c) 0 [W f]) (toNat a) 0 [W i]) r h)):
  zK d c a b r h:=x7.of Ky H
def UO(c a d:Int)(b:Rw)(H:bP (a<=d) ((0<=a/\a<(b.length:Int))/\∃e,(b[toNat a]?).bind (·[0]?)=some (W e)/\(0<=c/\c<(b.length:Int))/\∃f,(b[toNat c]?).bind (·[0]?)=some (W f)/\cb 302 [vW e,vW f] [] fun g=>aI g (aq (a+1)/\p6 c (a+1) d b r h)
 (wI c a d b r h)) (wI c a d b r h)):
  p6 c a d b r h:=x7.of Ky H
def Yy(c d a:Int)(b:Rw)(H:bP (d<=a) ((0<=a/\a<(b.length:Int))/\∃e,(b[toNat a]?).bind (·[0]?)=some (W e)/\(0<=c/\c<(b.length:Int))/\∃f,(b[toNat c]?).bind (·[0]?)=some (W f)/\cb 302 [vW e,vW f] [] fun g=>aI (!g) (aq (a-1)/\wI c d (a-1) b r h)
 (vg c d a b r h)) (vg c d a b r h)):
  wI c d a b r h:=.of Ky H
def UP(d c a:Int)(b:Rw)(H:bP (c>a) ((0<=d/\d<(b.length:Int))/\∃e,(b[toNat d]?).bind (·[0]?)=some (W e)/\(0<=a/\a<(b.length:Int))/\∃g,(b[toNat a]?).bind (·[0]?)=some (W g)/\(0<=a/\a<(b.length:Int))/\0+1<=1/\(0<=d/\d<((cF b (toNat a) 0 [W e]).length:Int))/\0+1<=1/\Fi r h [vN a,vB false] [.bn 1 (cF (cF b (toNat a) 0 [W e]) (toNat d) 0 [W g])])
 ((0<=a/\a<(b.length:Int))/\∃f,(b[toNat a]?).bind (·[0]?)=some (W f)/\(0<=c/\c<(b.length:Int))/\∃i,(b[toNat c]?).bind (·[0]?)=some (W i)/\(0<=c/\c<(b.length:Int))/\0+1<=1/\(0<=a/\a<((cF b (toNat c) 0 [W f]).length:Int))/\0+1<=1/\aq (c+1)/\aq (a-1)/\p6 d (c+1) (a-1) (cF (cF b (toNat c) 0 [W f]) (toNat a) 0 [W i]) r h)):
  vg d c a b r h:=x7.of Ky H
def p7(a b:Rw)(c d:Int):St:=⟨aO 32 [(1,vL 1 a),(2,.fn (.func 310) [] []),(15,vL 1 b),(16,vN c),(17,vN d)],[],[]⟩
def Ht:df:={an:=[(5,2,ah),(6,3,ah)],cut:=[(4,{bl:=[1,2,15,16,17]})]}
def Q0(H:aI ((a.length:Int) !=(b.length:Int)) (Fi r h [vB false] [])
 (Lp f309 0 (p7 b a (a.length:Int) 0) 0 r h)):
  ak 309 [vL 1 a,vL 1 b,.fn (.func 310) [] []] [] r h:=.of func309 Ht H
def Kz(b c:Rw)(d a:Int)(H:bP (a<d) (wA c a fun e=>wA b a fun f=>cb 310 [vL 5 e,vL 5 f] [] fun g=>aI (!g) (Fi r h [vB false] [])
 (aq (a+1)/\Lp f309 0 (p7 b c d (a+1)) 0 r h))
 (Fi r h [vB true] [])):
  Lp f309 0 (p7 b c d a) 0 r h:=.of Ht H
def EV(a b:Rw)(c d:Int):St:=⟨aO 26 [(0,vL 5 a),(1,vL 5 b),(12,vN c),(13,vN d)],[],[]⟩
def aaA:df:={an:=[(6,3,ah),(6,7,ah)],cut:=[(4,{bl:=[0,1,12,13]})]}
def aeh(H:aI ((a.length:Int) !=(b.length:Int)) (Fi r h [vB false] [])
 (Lp f311 0 (EV a b (a.length:Int) 0) 0 r h)):
  ak 311 [vL 5 a,vL 5 b] [] r h:=.of func311 aaA H
def Yz(b c:Rw)(d a:Int)(H:bP (a<d) (n5 b a fun e f g i j=>n5 c a fun k l m n o=>aI (!(((((true&&(e==k))&&(f==l))&&(g==m))&&(i==n))&&(j==o))) (Fi r h [vB false] [])
 (aq (a+1)/\Lp f311 0 (EV b c d (a+1)) 0 r h))
 (Fi r h [vB true] [])):
  Lp f311 0 (EV b c d a) 0 r h:=.of aaA H
def p8(a:Rw)(b c:Int):St:=⟨aO 19 [(0,vL 3 a),(1,.fn (.func 272) [] [.az 0 0]),(7,vN b),(8,vN c)],[],[.aH [.fn (.func 211) [] []]]⟩
def Hu:df:={an:=[(4,4,ah)],cut:=[(2,{bl:=[0,1,7,8]})]}
def Q1(a:Rw)(H:Lp f328 0 (p8 a (a.length:Int) 0) 1 r h):
  ak 328 [vL 3 a,.fn (.func 272) [] [.az 0 0]] [.aH [.fn (.func 211) [] []]] r h:=.of func328 Hu H
def KA(b:Rw)(c a:Int)(H:bP (a<c) (pP b a fun d e f=>cb 272 [.agg [S d,L 1 e,L 5 f],.az 0 0] [.aH [.fn (.func 211) [] []]] fun g=>aI g (Fi r h [vN a] [.aH [.fn (.func 211) [] []]])
 (aq (a+1)/\Lp f328 0 (p8 b c (a+1)) 1 r h))
 (Fi r h [vN (-1)] [.aH [.fn (.func 211) [] []]])):
  Lp f328 0 (p8 b c a) 1 r h:=.of Hu H
def Q2(a:Rw)(H:kQ 356 [vL 5 a,.fn (.func 330) [] [.az 0 0]] [.aH [.fn (.func 274) [] []]] fun b=>Fi r h [vB (decide (b>=0))] [.aH [.fn (.func 274) [] []]]):
  ak 329 [vL 5 a,.fn (.func 330) [] [.az 0 0]] [.aH [.fn (.func 274) [] []]] r h:=.of func329 {} H
def Q3(a:Rw)(H:kQ 359 [vL 6 a,.fn (.func 338) [] []] [] fun b=>Fi r h [vB (decide (b>=0))] []):
  ak 337 [vL 6 a,.fn (.func 338) [] []] [] r h:=.of func337 {} H
def p9(a:Rw)(b c d e:Int)(f:Bool)(g i:Int):St:=⟨aO 19 [(0,vL 5 a),(1,.fn (.func 290) [] [.az 0 0]),(7,vN b),(8,vN c)],[],[.aH [vN d,vN e,vB f,vW g,vW i]]⟩
def Hv:df:={an:=[(4,4,ah)],cut:=[(2,{bl:=[0,1,7,8]})]}
def Q4(H:Lp f342 0 (p9 a (a.length:Int) 0 b c d e f) 1 r h):
  ak 342 [vL 5 a,.fn (.func 290) [] [.az 0 0]] [.aH [vN b,vN c,vB d,vW e,vW f]] r h:=.of func342 Hv H
def KB(g:Rw)(i a b c:Int)(d:Bool)(e f:Int)(H:bP (a<i) (n5 g a fun j k l m n=>cb 290 [.agg [N j,N k,B l,W m,W n],.az 0 0] [.aH [vN b,vN c,vB d,vW e,vW f]] fun o=>aI o (Fi r h [vN a] [.aH [vN b,vN c,vB d,vW e,vW f]])
 (aq (a+1)/\Lp f342 0 (p9 g i (a+1) b c d e f) 1 r h))
 (Fi r h [vN (-1)] [.aH [vN b,vN c,vB d,vW e,vW f]])):
  Lp f342 0 (p9 g i a b c d e f) 1 r h:=.of Hv H
def qa(a:Rw)(b c:Int)(d:Rw):St:=⟨aO 19 [(0,vL 5 a),(1,.fn (.func 294) [] [.az 0 0]),(7,vN b),(8,vN c)],[],[.aH [vL 5 d]]⟩
def Hw:df:={an:=[(4,4,ah)],cut:=[(2,{bl:=[0,1,7,8]})]}
def Q5(H:Lp f342 0 (qa a (a.length:Int) 0 b) 1 r h):
  ak 342 [vL 5 a,.fn (.func 294) [] [.az 0 0]] [.aH [vL 5 b]] r h:=.of func342 Hw H
def KC(c:Rw)(d a:Int)(b:Rw)(H:bP (a<d) (n5 c a fun e f g i j=>cb 294 [.agg [N e,N f,B g,W i,W j],.az 0 0] [.aH [vL 5 b]] fun k=>aI k (Fi r h [vN a] [.aH [vL 5 b]])
 (aq (a+1)/\Lp f342 0 (qa c d (a+1) b) 1 r h))
 (Fi r h [vN (-1)] [.aH [vL 5 b]])):
  Lp f342 0 (qa c d a b) 1 r h:=.of Hw H
def EW(a:Rw)(b c d e:Int)(f:Bool)(g i:Int):St:=⟨aO 19 [(0,vL 5 a),(3,.az 0 0),(7,vN b),(8,vN c)],[],[.aH [vN d,vN e,vB f,vW g,vW i]]⟩
def aaB:df:={an:=[(4,4,ah)],cut:=[(2,{bl:=[0,3,7,8]})]}
def aei(H:Lp f343 0 (EW a (a.length:Int) 0 b c d e f) 0 r h):
  ak 343 [vL 5 a,.agg [N b,N c,B d,W e,W f]] [] r h:=.of func343 aaB H
def YA(b:Rw)(c a d e:Int)(f:Bool)(g i:Int)(H:bP (a<c) (n5 b a fun j k l m n=>aI (((((true&&(d==j))&&(e==k))&&(f==l))&&(g==m))&&(i==n)) (Fi r h [vN a] [])
 (aq (a+1)/\Lp f343 0 (EW b c (a+1) d e f g i) 0 r h))
 (Fi r h [vN (-1)] [])):
  Lp f343 0 (EW b c a d e f g i) 0 r h:=.of aaB H
abbrev EX(a b c:Int)(d:Rw)r h:=Lp f344 0 ⟨aO 76 [(0,.bA 0),(2,vN a),(3,vN b),(8,vN c)],[],[.bn 1 d]⟩ 1 r h
abbrev zL(a b c d:Int)(e:Rw)r h:=Rp f344 5 ⟨aO 76 [(0,.bA 0),(2,vN a),(3,vN b),(8,vN c),(9,vN d)],[],[.bn 1 e]⟩ 1 r h
def YB:df:={an:=[(3,9,aX),(3,16,aX),(3,18,ah),(5,4,aX),(5,10,aX),(5,12,ah),(6,12,aX),(6,18,aX),(6,20,aX),(6,22,aX)],cut:=[(1,{bl:=[0,2,3,8],iV:=[(0,1)]})],join:=[(5,{bl:=[0,2,3,8,9],iV:=[(0,1)]})]}
def aej(a:Rw)(b c d:Int)(H:EX c d b a r h):
  ak 344 [.bA 0,vN b,vN c,vN d] [.bn 1 a] r h:=.of func344 YB H
def YC(d b a:Int)(c:Rw)(H:aq ((2:Int)*a)/\aq (((2:Int)*a)+1)/\bP ((((2:Int)*a)+1)>=d) (Fi r h [] [.bn 1 c])
 (aq ((((2:Int)*a)+1)+1)/\bP (((((2:Int)*a)+1)+1)<d) (aq (b+(((2:Int)*a)+1))/\(0<=(b+(((2:Int)*a)+1))/\(b+(((2:Int)*a)+1))<(c.length:Int))/\∃e,(c[toNat (b+(((2:Int)*a)+1))]?).bind (·[0]?)=some (W e)/\aq (b+(((2:Int)*a)+1))/\aq ((b+(((2:Int)*a)+1))+1)/\(0<=((b+(((2:Int)*a)+1))+1)/\((b+(((2:Int)*a)+1))+1)<(c.length:Int))/\∃f,(c[toNat ((b+(((2:Int)*a)+1))+1)]?).bind (·[0]?)=some (W f)/\cb 302 [vW e,vW f] [] fun g=>aI g (aq ((((2:Int)*a)+1)+1)/\zL d b a ((((2:Int)*a)+1)+1) c r h)
 (zL d b a (((2:Int)*a)+1) c r h)) (zL d b a (((2:Int)*a)+1) c r h))):
  EX d b a c r h:=.of YB H
def YD(f a b c:Int)(d:Rw)(H:aq (a+b)/\(0<=(a+b)/\(a+b)<(d.length:Int))/\∃g,(d[toNat (a+b)]?).bind (·[0]?)=some (W g)/\aq (a+c)/\(0<=(a+c)/\(a+c)<(d.length:Int))/\∃i,(d[toNat (a+c)]?).bind (·[0]?)=some (W i)/\cb 302 [vW g,vW i] [] fun k=>aI (!k) (Fi r h [] [.bn 1 d])
 (aq (a+b)/\aq (a+c)/\aq (a+c)/\(0<=(a+c)/\(a+c)<(d.length:Int))/\∃e,(d[toNat (a+c)]?).bind (·[0]?)=some (W e)/\aq (a+b)/\(0<=(a+b)/\(a+b)<(d.length:Int))/\∃j,(d[toNat (a+b)]?).bind (·[0]?)=some (W j)/\(0<=(a+b)/\(a+b)<(d.length:Int))/\0+1<=1/\(0<=(a+c)/\(a+c)<((cF d (toNat (a+b)) 0 [W e]).length:Int))/\0+1<=1/\EX f a c (cF (cF d (toNat (a+b)) 0 [W e]) (toNat (a+c)) 0 [W j]) r h)):
  zL f a b c d r h:=x7.of YB H
def aek(a:Int)(H:kQ 233 [vU (wrap .u64 a)] [] fun b=>0<=b/\Fi r h [vU (wrap .u64 ((1:Int)*2^(min (toNat b) (IntKind.bits .u64))))] []):
  ak 345 [vN a] [] r h:=.of func345 {an:=[(1,2,ah)]} H
def ael(a:Int)(H:0<=(13:Int)/\0<=(7:Int)/\0<=(17:Int)/\Fi r h [vU (cf .xor .u64 (cf .xor .u64 (cf .xor .u64 a (wrap .u64 (a*2^(min (toNat 13) (IntKind.bits .u64))))) (fdiv (cf .xor .u64 a (wrap .u64 (a*2^(min (toNat 13) (IntKind.bits .u64))))) (2^(min (toNat 7) (IntKind.bits .u64))))) (wrap .u64 ((cf .xor .u64 (cf .xor .u64 a (wrap .u64 (a*2^(min (toNat 13) (IntKind.bits .u64))))) (fdiv (cf .xor .u64 a (wrap .u64 (a*2^(min (toNat 13) (IntKind.bits .u64))))) (2^(min (toNat 7) (IntKind.bits .u64)))))*2^(min (toNat 17) (IntKind.bits .u64)))))] [.aH [vU (cf .xor .u64 (cf .xor .u64 (cf .xor .u64 a (wrap .u64 (a*2^(min (toNat 13) (IntKind.bits .u64))))) (fdiv (cf .xor .u64 a (wrap .u64 (a*2^(min (toNat 13) (IntKind.bits .u64))))) (2^(min (toNat 7) (IntKind.bits .u64))))) (wrap .u64 ((cf .xor .u64 (cf .xor .u64 a (wrap .u64 (a*2^(min (toNat 13) (IntKind.bits .u64))))) (fdiv (cf .xor .u64 a (wrap .u64 (a*2^(min (toNat 13) (IntKind.bits .u64))))) (2^(min (toNat 7) (IntKind.bits .u64)))))*2^(min (toNat 17) (IntKind.bits .u64)))))]]):
  ak 346 [.az 0 0] [.aH [vU a]] r h:=.of func346 {} H
def aem(b:Rw)(a c:Int)(H:aq (a-1)/\aq (a+1)/\∃d e,ak 348 [.bA 0,vN (a-1),vN a,vN (a+1),.az 1 0] [.bn 1 b,.aH [vN c]] [vN d] [.bn 1 b,.aH [vN e]]/\Fi r h [vN d] [.bn 1 b,.aH [vN e]]):
  ak 347 [.bA 0,vN a,.az 1 0] [.bn 1 b,.aH [vN c]] r h:=.of func347 {mod:=[(1,7,[(1,[0])])]} H
def aen(a:Rw)(b c d e:Int)(H:∃f g i,ak 360 [.bA 0,vN b,vN c,.az 1 0] [.bn 1 a,.aH [vN e]] [vN f,vN g] [.bn 1 a,.aH [vN i]]/\∃j n k,ak 360 [.bA 0,vN g,vN d,.az 1 0] [.bn 1 a,.aH [vN i]] [vN j,vN n] [.bn 1 a,.aH [vN k]]/\∃o l m,ak 360 [.bA 0,vN f,vN j,.az 1 0] [.bn 1 a,.aH [vN k]] [vN o,vN l] [.bn 1 a,.aH [vN m]]/\Fi r h [vN l] [.bn 1 a,.aH [vN m]]):
  ak 348 [.bA 0,vN b,vN c,vN d,.az 1 0] [.bn 1 a,.aH [vN e]] r h:=.of func348 {mod:=[(1,4,[(1,[0])]),(2,4,[(1,[0])]),(3,4,[(1,[0])])]} H
def qb(a:Rw)(b c:Int):St:=⟨aO 19 [(0,vL 5 a),(1,.fn (.func 330) [] [.az 0 0]),(7,vN b),(8,vN c)],[],[.aH [.fn (.func 274) [] []]]⟩
def Hx:df:={an:=[(4,4,ah)],cut:=[(2,{bl:=[0,1,7,8]})]}
def Q6(a:Rw)(H:Lp f356 0 (qb a (a.length:Int) 0) 1 r h):
  ak 356 [vL 5 a,.fn (.func 330) [] [.az 0 0]] [.aH [.fn (.func 274) [] []]] r h:=.of func356 Hx H
def KD(b:Rw)(c a:Int)(H:bP (a<c) (br b a fun d e f g i=>cb 330 [.agg [N d,S e,S f,U g,L 5 i],.az 0 0] [.aH [.fn (.func 274) [] []]] fun j=>aI j (Fi r h [vN a] [.aH [.fn (.func 274) [] []]])
 (aq (a+1)/\Lp f356 0 (qb b c (a+1)) 1 r h))
 (Fi r h [vN (-1)] [.aH [.fn (.func 274) [] []]])):
  Lp f356 0 (qb b c a) 1 r h:=.of Hx H
abbrev KE(a:Rw)(b:Int)(c:Rw)(d e:Int)r h:=Lp f358 0 ⟨aO 36 [(0,vL 1 a),(3,vN b),(9,vL 1 c),(10,vN d),(11,vN e)],[],[]⟩ 0 r h
abbrev KF(a b:Rw)(c d:Int)r h:=Lp f358 1 ⟨aO 36 [(6,.own 0 0 4 a),(25,vL 1 b),(26,vN c),(27,vN d)],[some 0],[]⟩ 0 r h
def YE:df:={an:=[(4,1,ah),(9,1,{fz:=true,bF:=true,cons:=[99]}),(12,1,ah)],cut:=[(11,{bl:=[6,25,26,27],cN:=[(6,4)],owns:=[6]}),(3,{bl:=[0,3,9,10,11]})]}
def aeo(H:KE a 0 a (a.length:Int) 0 r h):
  ak 358 [vL 1 a] [] r h:=.of func358 YE H
def KG(H:bP (b<e) (Qk d b fun f=>aq (a+(f.length:Int))/\bP ((a+(f.length:Int))<0) (False)
 (aq (b+1)/\KE c (a+(f.length:Int)) d e (b+1) r h))
 (∃g,ak 364 [.v .nil,vN a] [] [.own 0 0 4 g] []/\KF g c (c.length:Int) 0 r h)):
  KE c a d e b r h:=.of YE H
def KH(H:bP (a<d) (Qk c a fun e=>(b++e).length*32<=2^47/\aq (a+1)/\KF (b++e) c d (a+1) r h)
 (Fi r h [.own 0 0 4 b] [])):
  KF b c d a r h:=.of YE H
def qc(a:Rw)(b c:Int):St:=⟨aO 19 [(0,vL 6 a),(1,.fn (.func 338) [] []),(7,vN b),(8,vN c)],[],[]⟩
def Hy:df:={an:=[(4,4,ah)],cut:=[(2,{bl:=[0,1,7,8]})]}
def Q7(a:Rw)(H:Lp f359 0 (qc a (a.length:Int) 0) 0 r h):
  ak 359 [vL 6 a,.fn (.func 338) [] []] [] r h:=.of func359 Hy H
def KI(b:Rw)(c a:Int)(H:bP (a<c) (sL b a fun d e f g i j=>cb 338 [.agg [N d,N e,N f,U g,U i,L 6 j]] [] fun k=>aI k (Fi r h [vN a] [])
 (aq (a+1)/\Lp f359 0 (qc b c (a+1)) 0 r h))
 (Fi r h [vN (-1)] [])):
  Lp f359 0 (qc b c a) 0 r h:=.of Hy H
def aaC(a:Rw)(b c d:Int)(H:(0<=c/\c<(a.length:Int))/\∃e,(a[toNat c]?).bind (·[0]?)=some (W e)/\(0<=b/\b<(a.length:Int))/\∃f,(a[toNat b]?).bind (·[0]?)=some (W f)/\cb 302 [vW e,vW f] [] fun g=>aI g (aq (d+1)/\Fi r h [vN c,vN b] [.bn 1 a,.aH [vN (d+1)]])
 (Fi r h [vN b,vN c] [.bn 1 a,.aH [vN d]])):
  ak 360 [.bA 0,vN b,vN c,.az 1 0] [.bn 1 a,.aH [vN d]] r h:=.of func360 {an:=[(1,2,aX),(1,6,aX),(1,8,ah)]} H
def aep(a b:Int)(H:cb 349 [vW a] [] fun c=>aI c (cb 349 [vW b] [] fun d=>Fi r h [vB (bif(!d)then true else(decide (a<b)))] []) (Fi r h [vB (bif false then true else(decide (a<b)))] [])):
  ak 302 [vW a,vW b] [] r h:=.of func302 {an:=[(1,1,ah),(1,4,ah),(1,8,aa),(1,9,aa),(1,10,aa)]} H
def aeq(a:Int)(H:Fi r h [vB (a !=a)] []):
  ak 349 [vW a] [] r h:=.of func349 {} H
section
open Go.Sort (ltInt swp swp_size PermIn SortedIn)
def rA(d:Array Int):Rw:=d.toList.map fun x=>[W x]
def Q8(d:Array Int):((rA d).length:Int)=d.size:=by simp[rA]
def YF(h:i<d.size):((rA d)[i]?).bind (·[0]?)=some (W d[i]!):=by
 simp[rA,h]
def UQ(l:Rw)(i:Nat)(p:List PV):((cF l i 0 p).length:Int)=l.length:=by simp[cF]
def Q9(d:Array Int)(i:Nat)(x:Int):cF (rA d) i 0 [W x]=rA (d.setIfInBounds i x):=by
 unfold cF rA;apply fe;intro j;rw[DX];simp only[bu,iq,Array.getElem?_setIfInBounds];by_cases h:i=j
 .subst h
  by_cases a:i<d.size
  .simp[a,putAt]
  .simp[a]
 .simp[h]
def dR{n:Int}{i:Nat}(b:n=i)(a:i<d.size){P:Int->Prop}(c:P d[i]!):
  (0<=n/\n<((rA d).length:Int))/\∃x,((rA d)[toNat n]?).bind (·[0]?)=some (W x)/\P x:=by
 subst b;exact⟨by rw[Q8];omega,_,YF a,c⟩
def jL{n m:Int}{i j:Nat}(b:n=i)(a:m=j):cF (cF (rA d) (toNat n) 0 [W d[j]!]) (toNat m) 0 [W d[i]!]=rA (swp d i j):=by
 subst b a;rw[Q9,Q9];rfl
def tJ{n m:Int}{i j k:Nat}(e:n=i)(c:m=j)(a:i<d.size)(b:j<d.size)(h:R):
  (0<=n/\n<((rA d).length:Int))/\0+1<=1/\(0<=m/\m<((cF (rA d) k 0 [y]).length:Int))/\0+1<=1/\R:=by
 rw[UQ,Q8];exact⟨by omega,by omega,by omega,by omega,h⟩
def aaD(x y:Int):ak 302 [vW x,vW y] [] [vB (ltInt x y)] []:=
 aep x y ⟨_,aeq x fi,ad (fun h=>by simp at h) fun _=>fi⟩
def KJ{A B:Prop}(a:ltInt x y=true->A)(b:ltInt x y=false->B):∃less,ak 302 [vW x,vW y] [] [vB less] []/\aI less A B:=
 ⟨_,aaD x y,ad a b⟩
def EY{A B:Prop}(a:ltInt x y=false->A)(b:ltInt x y=true->B):∃less,ak 302 [vW x,vW y] [] [vB less] []/\aI (!less) A B:=
 ⟨_,aaD x y,ad (fun h=>a (by simpa using h)) fun h=>b (by simpa using h)⟩
def oz(a:Nat):∀j(d:Array Int),(Sort.insInner ltInt a j d).size=d.size
 |0,_=>rfl
 |j+1,d=>by
  unfold Sort.insInner;split
  .rw[oz,swp_size]
  .rfl
def Ra{a b i:Nat}{r:List AV}{h:List Bx}:∀(j:Nat)(d:Array Int),j<d.size->d.size<=2^40->i<2^40 ->
  tH a b ((i+1:Nat):Int) (rA (Sort.insInner ltInt a j d)) r h->EN a b i j (rA d) r h
 |0,d,_,_,g,H=>QT _ _ _ _ _ (ad (fun h=>by simp at h;omega) fun _=>⟨au,H⟩)
 |j+1,d,e,l,g,H=>by
  have c:aq ((i:Int)+1)/\tH a b ((i:Int)+1) (rA (Sort.insInner ltInt a (j+1) d)) r h:=⟨au,H⟩;unfold Sort.insInner at c;refine QT _ _ _ _ _ (ad (fun h=>?_) fun h=>?_)
  .have k:j+1>a:=by simp at h;omega
   refine dR (i:=j+1) rfl e ⟨au,dR (i:=j) (by omega) (by omega) (KJ (fun f=>?_) fun f=>?_)⟩
   .rw[aG (by simp[k,f])]at c
    refine⟨au,au,dR (i:=j) (by omega) (by omega) (dR (i:=j+1) rfl e (tJ (i:=j+1) (j:=j) rfl (by omega) e (by omega) ⟨au,?_⟩))⟩
    rw[jL (i:=j+1) (j:=j) rfl (by omega),show((j+1:Nat):Int)-1=j by omega]
    exact Ra j _ (by rw[swp_size];omega) (by rw[swp_size];omega) g c.2
   .rw[aN (by simp[f])]at c
    exact c
  .rw[aN (by simp at h;simp;omega)]at c
   exact c
def Ma{a b:Nat}:∀(n i:Nat)(d:Array Int),b-i<=n->0<i->b<=d.size->d.size<=2^40->i<=2^40+1 ->
  tH a b i (rA d) [] [.bn 1 (rA (Sort.insOuter ltInt a b i d))]
 |n,i,d,e,j,g,f,k=>by
  unfold Sort.insOuter;by_cases h:i<b
  .rw[aG h]
   refine QS _ _ _ _ (ad (fun _=>Ra i d (by omega) f (by omega) ?_) fun c=>by simp at c;omega)
   match n,e with
   |0,e=>omega
   |n+1,e=>exact Ma n (i+1) _ (by omega) (by omega) (by rw[oz];exact g) (by rw[oz];exact f) (by omega)
  .rw[aN h]
   exact QS _ _ _ _ (ad (fun c=>by simp at c;omega) fun _=>fi)
def aer{a b:Nat}(c:b<=d.size)(e:d.size<=2^40)(f:a<=b):ak 296 [.bA 0,vN a,vN b] [.bn 1 (rA d)] [] [.bn 1 (rA (Sort.insertionSort ltInt d a b))]:=
 aea _ _ _ ⟨au,Ma _ (a+1) d (ar _) (by omega) c e (by omega)⟩
def Rb{b:Nat}:∀(n i j:Nat)(d:Array Int),j-i<=n->j<d.size->i<=d.size->d.size<=2^40 ->
  ER i j (rA d) [] [.bn 1 (rA (Sort.reverseLoop i j d))]
 |n,i,j,d,c,e,g,f=>by
  unfold Sort.reverseLoop;by_cases h:i<j
  .rw[aG h]
   refine QX _ _ _ (ad (fun _=>dR (i:=j) rfl e (dR (i:=i) rfl (by omega) (tJ (i:=i) (j:=j) rfl rfl (by omega) e ⟨au,au,?_⟩))) fun a=>by simp at a;omega)
   rw[jL (i:=i) (j:=j) rfl rfl,show(j:Int)-1=((j-1:Nat):Int) by omega]
   match n,c with
   |0,c=>omega
   |n+1,c=>exact Rb (b:=b) n (i+1) (j-1) _ (by omega) (by rw[swp_size];omega) (by rw[swp_size];omega) (by rw[swp_size];exact f)
  .rw[aN h]
   exact QX _ _ _ (ad (fun a=>by simp at a;omega) fun _=>fi)
def aes{a b:Nat}(f:b<=d.size)(c:d.size<=2^40)(e:a<b):ak 300 [.bA 0,vN a,vN b] [.bn 1 (rA d)] [] [.bn 1 (rA (Sort.reverseRange d a b))]:=
 aed _ _ _ ⟨au,by
  rw[show(b:Int)-1=((b-1:Nat):Int) by omega]
  exact Rb (b:=b) _ _ _ d (ar _) (by omega) (by omega) c⟩
def oA(a first:Nat):∀(n c:Nat)(d:Array Int),a-c<=n->(Sort.siftDown ltInt a first c d).size=d.size
 |n,c,d,b=>by
  unfold Sort.siftDown;split
  .rfl
  .match n,b with
   |0,b=>omega
   |n+1,b=>
    split
    .split
     .rfl
     .split
      .rw[oA a first n _ _ (by omega),swp_size]
      .rfl
    .split
     .rfl
     .rw[oA a first n _ _ (by omega),swp_size]
def Mb:∀(n a:Nat)(d:Array Int),b-a<=n->first+b<=d.size->a<=d.size->d.size<=2^40 ->
  EX b first a (rA d) [] [.bn 1 (rA (Sort.siftDown ltInt b first a d))]
 |n,a,d,g,t,w,s=>by
  have key:∀(c:Nat),c<b->a<c->first+a<d.size ->
    zL b first a c (rA d) [] [.bn 1 (rA (if !ltInt d[first+a]! d[first+c]! then d else Sort.siftDown ltInt b first c (swp d (first+a) (first+c))))]:=by
   intro c v x l;refine YD _ _ _ _ _ ⟨au,dR (i:=first+a) (by omega) l ⟨au,dR (i:=first+c) (by omega) (by omega) (EY (fun e=>?_) fun e=>?_)⟩⟩
   .rw[e];exact fi
   .rw[e]
    refine⟨au,au,au,dR (i:=first+c) (by omega) (by omega) ⟨au,dR (i:=first+a) (by omega) l (tJ (i:=first+a) (j:=first+c) (by omega) (by omega) l (by omega) ?_)⟩⟩
    rw[jL (i:=first+a) (j:=first+c) (by omega) (by omega)]
    match n,g with
    |0,g=>omega
    |n+1,g=>exact Mb n c _ (by omega) (by rw[swp_size];exact t) (by rw[swp_size];omega) (by rw[swp_size];exact s)
  unfold Sort.siftDown;refine YC _ _ _ _ ⟨au,au,ad (fun h=>?_) fun h=>⟨au,?_⟩⟩
  .rw[dif_pos (by simp at h;omega)];exact fi
  .have q:¬2*a+1>=b:=by simp at h;omega
   rw[dif_neg q];have k:=key (2*a+1) (by omega) (by omega) (by omega)
   have o:((2*a+1:Nat):Int)=(2:Int)*a+1:=by omega
   rw[o]at k;refine ad (fun f=>?_) fun f=>?_
   .have u:2*a+2<b:=by simp at f;omega
    have m:=key (2*a+2) (by omega) (by omega) (by omega)
    have p:((2*a+2:Nat):Int)=(2:Int)*a+1+1:=by omega
    rw[p]at m;refine⟨au,dR (i:=first+(2*a+1)) (by omega) (by omega) ⟨au,au,dR (i:=first+(2*a+1)+1) (by omega) (by omega) (KJ (fun e=>⟨au,?_⟩) fun e=>?_)⟩⟩
    .rw[aG (by simp[e];omega),dif_pos u]
     exact m
    .rw[aN (by simp[e])]
     exact k
   .rw[aN (by simp at f;simp;omega)]
    exact k
def aaE{lo a first:Nat}(e:first+a<=d.size)(c:lo<=d.size)(b:d.size<=2^40):ak 344 [.bA 0,vN lo,vN a,vN first] [.bn 1 (rA d)] [] [.bn 1 (rA (Sort.siftDown ltInt a first lo d))]:=
 aej _ _ _ _ (Mb _ _ _ (ar _) e c b)
def vh(a first b:Nat)(d:Array Int):(Sort.siftDown ltInt a first b d).size=d.size:=oA a first _ b d (ar _)
def Hz:∀(k:Nat)(d:Array Int),a+k<=d.size->d.size<=2^40 ->
  EP a 0 ((k:Int)-1) (rA d) [] [.bn 1 (rA (Sort.heapPop ltInt a k d))]
 |0,d,_,_=>QV _ _ _ _ (ad (fun h=>by simp at h) fun _=>fi)
 |k+1,d,c,b=>by
  have e:((k+1:Nat):Int)-1=k:=by omega
  rw[e];refine QV _ _ _ _ (ad (fun _=>⟨au,au,dR (i:=a+k) (by omega) (by omega) (dR (i:=a) rfl (by omega) (tJ (i:=a) (j:=a+k) rfl (by omega) (by omega) (by omega) ⟨rA (Sort.siftDown ltInt k a 0 (swp d a (a+k))),?_,au,?_⟩))⟩) fun h=>absurd h (by simp))
  .rw[jL (i:=a) (j:=a+k) rfl (by omega)]
   exact aaE (lo:=0) (by rw[swp_size];omega) (by omega) (by rw[swp_size];exact b)
  .exact Hz k _ (by rw[vh,swp_size];omega) (by rw[vh,swp_size];exact b)
def zM:∀(k:Nat)(d:Array Int),a+n<=d.size->d.size<=2^40->k<=d.size ->
  EO a 0 n ((k:Int)-1) (rA d) [] [.bn 1 (rA (Sort.heapPop ltInt a n (Sort.heapBuild ltInt n a k d)))]
 |0,d,c,b,_=>QU _ _ _ _ _ (ad (fun h=>by simp at h) fun _=>⟨au,Hz n d c b⟩)
 |k+1,d,c,b,f=>by
  have e:((k+1:Nat):Int)-1=k:=by omega
  rw[e];exact QU _ _ _ _ _ (ad (fun _=>⟨_,aaE (lo:=k) c (by omega) b,au,zM k _ (by rw[vh];exact c) (by rw[vh];exact b) (by rw[vh];omega)⟩) fun h=>absurd h (by simp))
def aet{a b:Nat}(g:b<=d.size)(c:d.size<=2^40)(f:a<b):ak 297 [.bA 0,vN a,vN b] [.bn 1 (rA d)] [] [.bn 1 (rA (Sort.heapSort ltInt d a b))]:=by
 refine aeb _ _ _ ⟨au,au,by decide,?_⟩
 have e:wrap .i64 (tdiv ((b:Int)-a-1) 2)=(((b-a-1)/2+1:Nat):Int)-1:=by
  rw[yv (by omega),ra au]
  omega
 rw[e,show(b:Int)-a=((b-a:Nat):Int) by omega]
 exact zM _ d (by omega) c (by omega)
end
section
open Go.Sort (ltInt swp swp_size PermIn SortedIn scanUp scanDown scanUp_ge scanDown_le)
def sQ{a i:Nat}{d:Array Int}{Go At:Nat->Prop}(g:1<=i)(f:d.size<=2^40)(step:∀j:Nat,j<d.size->aI (decide ((i:Int)<=j)) ((q d[j]! = true->aq ((j:Int)-1)/\(1<=j->Go (j-1)))/\(q d[j]! = false->At j)) (At j)->Go j):∀(j:Nat),j<d.size->At (scanDown q d i j)->Go j
 |0,c,H=>step 0 c (ad (fun b=>by simp at b;omega) fun _=>H)
 |j+1,c,H=>by
  unfold scanDown at H;refine step _ c (ad (fun b=>⟨fun e=>⟨au,fun _=>?_⟩,fun e=>?_⟩) fun b=>?_)
  .have b:i<=j+1:=by simp at b;omega
   rw[aG (by simp[b,e])]at H
   exact sQ (a:=a) g f step j (by omega) H
  .rw[aN (by simp[e])]at H
   exact H
  .rw[aN (by simp at b;simp;omega)]at H
   exact H
def yC{d:Array Int}{Go At:Nat->Prop}(f:j<d.size)(e:d.size<=2^40)(step:∀i:Nat,aI (decide ((i:Int)<=j)) ((p d[i]! = true->aq ((i:Int)+1)/\Go (i+1))/\(p d[i]! = false->At i)) (At i)->Go i):∀(n i:Nat),j+1-i<=n->At (scanUp p d j i)->Go i
 |n,i,b,H=>by
  unfold scanUp at H;refine step i (ad (fun a=>?_) fun a=>?_)
  .have a:i<=j:=by simp at a;omega
   refine⟨fun c=>⟨au,?_⟩,fun c=>?_⟩
   .rw[aG (by simp[a,c])]at H
    match n,b with
    |0,b=>omega
    |n+1,b=>exact yC f e step n (i+1) (by omega) H
   .rw[aN (by simp[c])]at H
    exact H
  .rw[aN (by simp at a;simp;omega)]at H
   exact H
def sR(h:aI b x y)(d:b=true->x->a)(e:b=false->y->c):aI b a c:=by cases b;exact e rfl h;exact d rfl h
def Rc{a i j:Nat}(g:a<d.size)(t:1<=i)(c:j<d.size)(k:d.size<=2^40)(H:∀f l,f=scanUp (fun x => !ltInt d[a]! x) d j i->l=scanDown (fun x=>ltInt d[a]! x) d f j->zI a f l (rA d) r h):
  tI a i j (rA d) r h:=by
 have s:=scanUp_ge (fun x => !ltInt d[a]! x) d j i
 refine yC (p:=fun x => !ltInt d[a]! x) (Go:=fun i=>tI a i j (rA d) r h) (At:=fun i=>wG a i j (rA d) r h) c k
  (fun i H=>Ys _ _ _ _ (sR H (fun e H=>dR (i:=a) rfl g (dR (i:=i) rfl (by simp at e;omega) (EY (fun b=>H.1 (by simp[b])) fun b=>H.2 (by simp[b])))) fun _ H=>H)) _ i (ar _) ?_
 refine sQ (a:=a) (q:=fun x=>ltInt d[a]! x) (Go:=fun j=>wG a (scanUp (fun x => !ltInt d[a]! x) d _ i:Nat) j (rA d) r h) (At:=fun j=>zI a _ j (rA d) r h) (by omega) k
  (fun j c H=>Yt _ _ _ _ (sR H (fun e H=>dR (i:=a) rfl g (dR (i:=j) rfl c (KJ (fun b=>?_) fun b=>H.2 (by simp[b])))) fun _ H=>H)) j c (H _ _ rfl rfl)
 obtain⟨m,n⟩:=H.1 b;refine⟨m,?_⟩;have o:1<=j:=by simp at e;omega
 rw[show(j:Int)-1=((j-1:Nat):Int) by omega]
 exact n o
def Mc:∀(n i j:Nat)(d:Array Int),j+1-i<=n->a<i->a<d.size->j<d.size->d.size<=2^40 ->
  tI a i j (rA d) [vN (Sort.partEqLoop ltInt a i j d).1] [.bn 1 (rA (Sort.partEqLoop ltInt a i j d).2)]
 |n,i,j,d,e,q,o,p,k=>by
  refine Rc o (by omega) p k fun c b f g=>?_
  have l:=scanUp_ge (fun x => !ltInt d[a]! x) d j i
  have m:=scanDown_le (fun x=>ltInt d[a]! x) d c j
  rw[Sort.partEqLoop_eq,<-f,<-g];rw[<-f]at l;rw[<-g]at m;refine Yu _ _ _ _ (ad (fun h=>?_) fun h=>?_)
  .rw[aG (by simp at h;omega)]
   exact fi
  .have h:c<=b:=by simp at h;omega
   rw[aN (by omega)]
   refine dR (i:=b) rfl (by omega) (dR (i:=c) rfl (by omega) (tJ (i:=c) (j:=b) rfl rfl (by omega) (by omega) ⟨au,au,?_⟩))
   rw[jL (i:=c) (j:=b) rfl rfl,show(b:Int)-1=((b-1:Nat):Int) by omega]
   match n,e with
   |0,e=>omega
   |n+1,e=>exact Mc n (c+1) (b-1) _ (by omega) (by omega) (by rw[swp_size];omega) (by rw[swp_size];omega) (by rw[swp_size];exact k)
def aeu{a b p:Nat}(f:b<=d.size)(c:d.size<=2^40)(e:a<=p)(g:p<b):
  ak 303 [.bA 0,vN a,vN b,vN p] [.bn 1 (rA d)] [vN (Sort.partitionEqual ltInt d a b p).1] [.bn 1 (rA (Sort.partitionEqual ltInt d a b p).2)]:=by
 refine aef _ _ _ _ (dR (i:=p) rfl (by omega) (dR (i:=a) rfl (by omega) (tJ (i:=a) (j:=p) rfl rfl (by omega) (by omega) ⟨au,au,?_⟩)))
 rw[jL (i:=a) (j:=p) rfl rfl,show(b:Int)-1=((b-1:Nat):Int) by omega]
 exact Mc _ (a+1) (b-1) _ (ar _) (by omega) (by rw[swp_size];omega) (by rw[swp_size];omega) (by rw[swp_size];exact c)
def Oy{a i j:Nat}(g:a<d.size)(t:1<=i)(c:j<d.size)(k:d.size<=2^40)(H:∀f l,f=scanUp (fun x=>ltInt x d[a]!) d j i->l=scanDown (fun x => !ltInt x d[a]!) d f j->zK a f l (rA d) r h):
  zJ a i j (rA d) r h:=by
 have s:=scanUp_ge (fun x=>ltInt x d[a]!) d j i
 refine yC (p:=fun x=>ltInt x d[a]!) (Go:=fun i=>zJ a i j (rA d) r h) (At:=fun i=>wH a i j (rA d) r h) c k
  (fun i H=>Yv _ _ _ _ (sR H (fun e H=>dR (i:=i) rfl (by simp at e;omega) (dR (i:=a) rfl g (KJ (fun b=>H.1 (by simp[b])) fun b=>H.2 (by simp[b])))) fun _ H=>H)) _ i (ar _) ?_
 refine sQ (a:=a) (q:=fun x => !ltInt x d[a]!) (Go:=fun j=>wH a (scanUp (fun x=>ltInt x d[a]!) d _ i:Nat) j (rA d) r h) (At:=fun j=>zK a _ j (rA d) r h) (by omega) k
  (fun j c H=>Yw _ _ _ _ (sR H (fun e H=>dR (i:=j) rfl c (dR (i:=a) rfl g (EY (fun b=>?_) fun b=>H.2 (by simp[b])))) fun _ H=>H)) j c (H _ _ rfl rfl)
 obtain⟨m,n⟩:=H.1 (by simp[b])
 refine⟨m,?_⟩;have o:1<=j:=by simp at e;omega
 rw[show(j:Int)-1=((j-1:Nat):Int) by omega]
 exact n o
def Oz{a i j:Nat}(g:a<d.size)(t:1<=i)(c:j<d.size)(k:d.size<=2^40)(H:∀f l,f=scanUp (fun x=>ltInt x d[a]!) d j i->l=scanDown (fun x => !ltInt x d[a]!) d f j->vg a f l (rA d) r h):
  p6 a i j (rA d) r h:=by
 have s:=scanUp_ge (fun x=>ltInt x d[a]!) d j i
 refine yC (p:=fun x=>ltInt x d[a]!) (Go:=fun i=>p6 a i j (rA d) r h) (At:=fun i=>wI a i j (rA d) r h) c k
  (fun i H=>UO _ _ _ _ (sR H (fun e H=>dR (i:=i) rfl (by simp at e;omega) (dR (i:=a) rfl g (KJ (fun b=>H.1 (by simp[b])) fun b=>H.2 (by simp[b])))) fun _ H=>H)) _ i (ar _) ?_
 refine sQ (a:=a) (q:=fun x => !ltInt x d[a]!) (Go:=fun j=>wI a (scanUp (fun x=>ltInt x d[a]!) d _ i:Nat) j (rA d) r h) (At:=fun j=>vg a _ j (rA d) r h) (by omega) k
  (fun j c H=>Yy _ _ _ _ (sR H (fun e H=>dR (i:=j) rfl c (dR (i:=a) rfl g (EY (fun b=>?_) fun b=>H.2 (by simp[b])))) fun _ H=>H)) j c (H _ _ rfl rfl)
 obtain⟨m,n⟩:=H.1 (by simp[b])
 refine⟨m,?_⟩;have o:1<=j:=by simp at e;omega
 rw[show(j:Int)-1=((j-1:Nat):Int) by omega]
 exact n o
def Md:∀(n i j:Nat)(d:Array Int),j+1-i<=n->a<i->a<d.size->j<d.size->d.size<=2^40 ->
  p6 a i j (rA d) [vN (Sort.partLoop ltInt a i j d).1,vB false] [.bn 1 (rA (swp (Sort.partLoop ltInt a i j d).2 (Sort.partLoop ltInt a i j d).1 a))]
 |n,i,j,d,f,q,e,p,l=>by
  refine Oz e (by omega) p l fun c b g k=>?_
  have m:=scanUp_ge (fun x=>ltInt x d[a]!) d j i
  have o:=scanDown_le (fun x => !ltInt x d[a]!) d c j
  rw[Sort.partLoop_eq,<-g,<-k];rw[<-g]at m;rw[<-k]at o;refine UP _ _ _ _ (ad (fun h=>?_) fun h=>?_)
  .rw[aG (by simp at h;omega)]
   refine dR (i:=a) rfl e (dR (i:=b) rfl (by omega) (tJ (i:=b) (j:=a) rfl rfl (by omega) e (bE rfl ?_)))
   rw[jL (i:=b) (j:=a) rfl rfl]
  .have h:c<=b:=by simp at h;omega
   rw[aN (by omega)]
   refine dR (i:=b) rfl (by omega) (dR (i:=c) rfl (by omega) (tJ (i:=c) (j:=b) rfl rfl (by omega) (by omega) ⟨au,au,?_⟩))
   rw[jL (i:=c) (j:=b) rfl rfl,show(b:Int)-1=((b-1:Nat):Int) by omega]
   match n,f with
   |0,f=>omega
   |n+1,f=>exact Md n (c+1) (b-1) _ (by omega) (by omega) (by rw[swp_size];omega) (by rw[swp_size];omega) (by rw[swp_size];exact l)
def aev{a b p:Nat}(o:b<=d.size)(q:d.size<=2^40)(n:a<=p)(s:p<b):
  ak 304 [.bA 0,vN a,vN b,vN p] [.bn 1 (rA d)] [vN (Sort.partition ltInt d a b p).1,vB (Sort.partition ltInt d a b p).2.1] [.bn 1 (rA (Sort.partition ltInt d a b p).2.2)]:=by
 refine aeg _ _ _ _ (dR (i:=p) rfl (by omega) (dR (i:=a) rfl (by omega) (tJ (i:=a) (j:=p) rfl rfl (by omega) (by omega) ⟨au,au,?_⟩)))
 rw[jL (i:=a) (j:=p) rfl rfl,show(b:Int)-1=((b-1:Nat):Int) by omega]
 unfold Sort.partition;generalize m:swp d a p=D;have t:D.size=d.size:=by rw[<-m,swp_size]
 refine Oy (i:=a+1) (j:=b-1) (by omega) (by omega) (by omega) (by omega) fun e c f g=>?_
 simp only[<-f,<-g];have k:=scanUp_ge (fun x=>ltInt x D[a]!) D (b-1) (a+1)
 have l:=scanDown_le (fun x => !ltInt x D[a]!) D e (b-1)
 rw[<-f]at k;rw[<-g]at l;refine Yx _ _ _ _ (ad (fun h=>?_) fun h=>?_)
 .simp only[aG (show e>c by simp at h;omega)]
  refine dR (i:=a) rfl (by omega) (dR (i:=c) rfl (by omega) (tJ (i:=c) (j:=a) rfl rfl (by omega) (by omega) (bE rfl ?_)))
  rw[jL (i:=c) (j:=a) rfl rfl]
 .have h:e<=c:=by simp at h;omega
  simp only[aN (show¬e>c by omega)]
  refine dR (i:=c) rfl (by omega) (dR (i:=e) rfl (by omega) (tJ (i:=e) (j:=c) rfl rfl (by omega) (by omega) ⟨au,au,?_⟩))
  rw[jL (i:=e) (j:=c) rfl rfl,show(c:Int)-1=((c-1:Nat):Int) by omega]
  exact Md _ (e+1) (c-1) _ (ar _) (by omega) (by rw[swp_size];omega) (by rw[swp_size];omega) (by rw[swp_size];omega)
def rM:∀j(d:Array Int),(Sort.shiftDown ltInt j d).size=d.size
 |0,_=>rfl
 |j+1,d=>by
  unfold Sort.shiftDown;split
  .rfl
  .rw[rM,swp_size]
def vi(b:Nat):∀n j(d:Array Int),b-j<=n->(Sort.shiftUp ltInt b j d).size=d.size
 |n,j,d,a=>by
  unfold Sort.shiftUp;split
  .match n,a with
   |0,a=>omega
   |n+1,a=>
    split
    .rfl
    .rw[vi b n _ _ (by omega),swp_size]
  .rfl
def tp(b:Nat)(d:Array Int):∀n i,b-i<=n->i<=b->i<=Sort.scanSorted ltInt d b i/\Sort.scanSorted ltInt d b i<=b
 |n,i,a,c=>by
  unfold Sort.scanSorted;split
  .rename_i h
   simp at h;match n,a with
   |0,a=>omega
   |n+1,a=>have:=tp b d n (i+1) (by omega) (by omega);omega
  .omega
def Wm{a b i:Nat}{j:Int}{r:List AV}{h:List Bx}(e:aq (j+1)):∀(n k:Nat)(d:Array Int),b-k<=n->1<=k->b<=d.size->d.size<=2^40 ->
  nh a b i (j+1) (rA (Sort.shiftUp ltInt b k d)) r h->rL a b i j k (rA d) r h
 |n,k,d,g,o,l,m,H=>by
  unfold Sort.shiftUp at H;refine Yr _ _ _ _ _ _ (ad (fun c=>?_) fun c=>?_)
  .have c:k<b:=by simp at c;omega
   rw[aG c]at H;refine dR (i:=k) rfl (by omega) ⟨au,dR (i:=k-1) (by omega) (by omega) (EY (fun f=>⟨e,?_⟩) fun f=>?_)⟩
   .rw[aG (by simp[f])]at H
    exact H
   .rw[aN (by simp[f])]at H
    refine⟨au,au,dR (i:=k-1) (by omega) (by omega) (dR (i:=k) rfl (by omega) (tJ (i:=k) (j:=k-1) rfl (by omega) (by omega) (by omega) ⟨au,?_⟩))⟩
    rw[jL (i:=k) (j:=k-1) rfl (by omega)]
    match n,g with
    |0,g=>omega
    |n+1,g=>exact Wm e n (k+1) _ (by omega) (by omega) (by rw[swp_size];exact l) (by rw[swp_size];exact m) H
  .rw[aN (by simp at c;omega)]at H
   exact⟨e,H⟩
def Me{a b i:Nat}{j:Int}{r:List AV}{h:List Bx}:∀(k:Nat)(d:Array Int),k<d.size->d.size<=2^40 ->
  (aq ((b:Int)-i)/\aI (decide (((b:Int)-i)>=2)) (aq ((i:Int)+1)/\rL a b i j ((i:Int)+1) (rA (Sort.shiftDown ltInt k d)) r h)
   (aq (j+1)/\nh a b i (j+1) (rA (Sort.shiftDown ltInt k d)) r h))->EU a b i j k (rA d) r h
 |0,d,e,g,H=>QZ _ _ _ _ _ _ (ad (fun c=>by simp at c) fun _=>H)
 |k+1,d,e,g,H=>by
  unfold Sort.shiftDown at H;refine QZ _ _ _ _ _ _ (ad (fun c=>?_) fun c=>by simp at c;omega)
  refine dR (i:=k+1) rfl e ⟨au,dR (i:=k) (by omega) (by omega) (EY (fun f=>?_) fun f=>?_)⟩
  .rw[aG (by simp[f])]at H
   exact H
  .rw[aN (by simp[f])]at H
   refine⟨au,au,dR (i:=k) (by omega) (by omega) (dR (i:=k+1) rfl e (tJ (i:=k+1) (j:=k) rfl (by omega) e (by omega) ⟨au,?_⟩))⟩
   rw[jL (i:=k+1) (j:=k) rfl (by omega),show((k+1:Nat):Int)-1=k by omega]
   exact Me k _ (by rw[swp_size];omega) (by rw[swp_size];exact g) H
def Mf{a b:Nat}{j:Int}{d:Array Int}{r:List AV}{h:List Bx}(g:b<=d.size)(k:d.size<=2^40):∀(n i:Nat),b-i<=n->1<=i ->
  ET a b (Sort.scanSorted ltInt d b i:Nat) j (rA d) r h->ES a b i j (rA d) r h
 |n,i,f,l,H=>by
  unfold Sort.scanSorted at H;refine Yp _ _ _ _ _ (ad (fun c=>?_) fun c=>?_)
  .have c:i<b:=by simp at c;omega
   refine dR (i:=i) rfl (by omega) ⟨au,dR (i:=i-1) (by omega) (by omega) (EY (fun e=>?_) fun e=>?_)⟩
   .rw[aG (by simp[c,e])]at H
    match n,f with
    |0,f=>omega
    |n+1,f=>exact⟨au,Mf g k n (i+1) (by omega) (by omega) H⟩
   .rw[aN (by simp[e])]at H
    exact H
  .rw[aN (by simp at c;simp;omega)]at H
   exact H
def EZ:∀(s i:Nat)(d:Array Int),a<i->i<=b->b<=d.size->d.size<=2^40->s<=5 ->
  nh a b i (5-(s:Int)) (rA d) [vB (Sort.partialIns ltInt a b s i d).2] [.bn 1 (rA (Sort.partialIns ltInt a b s i d).1)]
 |0,i,d,p,n,l,m,q=>QY _ _ _ _ _ (ad (fun h=>by simp at h) fun _=>fi)
 |s+1,i,d,p,n,l,m,q=>by
  refine QY _ _ _ _ _ (ad (fun _=>Mf l m _ i (ar _) (by omega) ?_) fun h=>by simp at h;omega)
  rw[Sort.partialIns_succ];obtain⟨u,v⟩:=tp b d _ i (ar _) n;generalize Sort.scanSorted ltInt d b i=k at*;have g:(5-((s+1:Nat):Int))+1=5-(s:Int):=by omega
  refine Yq _ _ _ _ _ (ad (fun h=>?_) fun h=>⟨au,ad (fun f=>?_) fun f=>?_⟩)
  .rw[aG (by simp at h;omega)]
   exact fi
  .rw[aN (by simp at h;omega),aG (by simp at f;omega)]
   exact fi
  .rw[aN (by simp at h;omega),aN (by simp at f;omega)]
   have w:k<b:=by simp at h;omega
   refine⟨au,au,dR (i:=k-1) (by omega) (by omega) (dR (i:=k) rfl (by omega) (tJ (i:=k) (j:=k-1) rfl (by omega) (by omega) (by omega) ?_))⟩
   rw[jL (i:=k) (j:=k-1) rfl (by omega)]
   have o:(swp d k (k-1)).size=d.size:=swp_size ..;generalize swp d k (k-1)=d1 at*;have tail:∀c:Array Int,c.size=d.size->aq ((b:Int)-k)/\aI (decide (((b:Int)-k)>=2)) (aq ((k:Int)+1)/\rL a b k (5-((s+1:Nat):Int)) ((k:Int)+1) (rA c) [vB (Sort.partialIns ltInt a b s k (Sort.fixUp ltInt b k c)).2] [.bn 1 (rA (Sort.partialIns ltInt a b s k (Sort.fixUp ltInt b k c)).1)])
     (aq ((5-((s+1:Nat):Int))+1)/\nh a b k ((5-((s+1:Nat):Int))+1) (rA c) [vB (Sort.partialIns ltInt a b s k (Sort.fixUp ltInt b k c)).2] [.bn 1 (rA (Sort.partialIns ltInt a b s k (Sort.fixUp ltInt b k c)).1)]):=by
    intro c t;unfold Sort.fixUp;refine⟨au,ad (fun e=>⟨au,?_⟩) fun e=>⟨au,?_⟩⟩
    .rw[aG (by simp at e;omega)]
     refine Wm au _ (k+1) c (ar _) (by omega) (by omega) (by omega) ?_
     rw[g];have x:=vi b _ (k+1) c (ar _);exact EZ s k _ (by omega) (by omega) (by omega) (by omega) (by omega)
    .rw[aN (by simp at e;omega),g]
     exact EZ s k _ (by omega) (by omega) (by omega) (by omega) (by omega)
   unfold Sort.fixDown;refine⟨au,ad (fun e=>⟨au,?_⟩) fun e=>?_⟩
   .rw[aG (by simp at e;omega),show(k:Int)-1=((k-1:Nat):Int) by omega]
    refine Me (k-1) d1 (by omega) (by omega) (tail _ (by rw[rM];exact o))
   .rw[aN (by simp at e;omega)]
    exact tail d1 o
def aew{a b:Nat}(c:b<=d.size)(e:d.size<=2^40)(f:a<b):
  ak 301 [.bA 0,vN a,vN b] [.bn 1 (rA d)] [vB (Sort.partialInsertionSort ltInt d a b).2] [.bn 1 (rA (Sort.partialInsertionSort ltInt d a b).1)]:=
 aee _ _ _ ⟨au,EZ 5 (a+1) d (by omega) (by omega) c e (by omega)⟩
end
end Go.Ac.S4
end
section
namespace Go.Proofs
def Tryz.Rd:Go.Shelf.Ren:=⟨fun|125=>233|128=>305|129=>306|n=>n,fun|46=>61|3=>3|51=>29|53=>30|4=>4|5=>5|9=>9|n=>n,fun|n=>n⟩
def Tryz.aex:Go.Proofs.Lays.n125 prog Tryz.Rd:={
 mixed:=by kernel_rfl
 f125:=Tryz.func233.trans (congrArg some (by kernel_rfl))
 f128:=Tryz.func305.trans (congrArg some (by kernel_rfl))
 f129:=Tryz.func306.trans (congrArg some (by kernel_rfl))
 t3:=underlying3
 a3:=isAgg3
 z3:=sizeOf3
 v3:=zeroValue3
 t4:=underlying4
 a4:=isAgg4
 z4:=sizeOf4
 v4:=zeroValue4
 t5:=underlying5
 a5:=isAgg5
 z5:=sizeOf5
 v5:=zeroValue5
 t9:=underlying9
 a9:=isAgg9
 z9:=sizeOf9
 v9:=zeroValue9
 t46:=underlying61
 a46:=isAgg61
 z46:=sizeOf61
 v46:=zeroValue61
 t51:=underlying29
 a51:=isAgg29
 z51:=sizeOf29
 v51:=zeroValue29
 t53:=underlying30
 a53:=isAgg30
 z53:=sizeOf30
 v53:=zeroValue30}
end Go.Proofs
namespace Go.Ac.S4
open Go Go.Proofs Go.Proofs.Tryz Go.Ac
open Go.IntKind (wrap)
open Int (toNat tdiv tmod fdiv)
open List (drop take replicate)
open Go.Sort (ltInt swp swp_size PermIn SortedIn swp_permIn permIn_refl permIn_trans bitsLen)
set_option maxRecDepth 100000
def UR(x:Nat)(h:x<2^64):Lib.bitLen x=bitsLen x:=by
 induction x using Nat.strongRecOn with
 |_ x c=>
  by_cases a:x=0
  .subst a;rfl
  .rw[Lib.bitLen_half x a h,c (x/2) (by omega) (by omega),bitsLen,bitsLen,aN a,Nat.log2_def x]
   by_cases b:2<=x
   .rw[aG b,aN (by omega)];omega
   .obtain rfl:x=1:=by omega
    simp
def aaF(n:Nat)(h:n<2^41):ak 233 [vU n] [] [vN (bitsLen n:Nat)] []:=
 ev1 (enters_of func233 rfl rfl) (r:=[N (bitsLen n:Nat)]) fun v w b _ a=>by
  have k:Calls prog 233 #[.int .u64 n] w fun e w'=>e = .returned (.int .i64 (Lib.bitLen (n:Int).toNat))/\w'=w:=calls_of_every_depth fun D=>AnyS.bits_LenIn Tryz.aex D n w (by omega) (by omega)
  rw[wC a];rw[uA,UR n (by omega)]at k
  exact⟨[.int .i64 (bitsLen n:Nat)],rfl,sM (.int _ _),k⟩
def aey(n:Nat)(h:n<2^41):ak 345 [vN n] [] [vU ((2^bitsLen n:Nat):Int)] []:=by
 have a:=(Sort.bitsLen_le_iff n 41).2 h;have b:2^bitsLen n<=2^41:=yj (by omega) a
 have e:wrap .u64 (n:Int)=n:=by simp[wrap,IntKind.signed,IntKind.bits];omega
 refine aek n ⟨(bitsLen n:Nat),by rw[e];exact aaF n h,by omega,aZ ?_⟩
 rw[uA,show min (bitsLen n) (IntKind.bits .u64)=bitsLen n by simp[IntKind.bits];omega,show(1:Int)*2^bitsLen n=((2^bitsLen n:Nat):Int) by simp]
 generalize 2^bitsLen n=m at*;have:wrap .u64 (m:Int)=m:=by simp[wrap,IntKind.signed,IntKind.bits];omega
 rw[this]
def aez(c:Int):∃n,ak 346 [.az 0 0] [.aH [vU c]] [vU n] [.aH [vU n]]:=⟨_,ael c ⟨by decide,by decide,by decide,fi⟩⟩
def YG(y:Int)(c:1<=M)(d:M<=2^42):∃o:Nat,o<M/\wrap .i64 (cf .and .u64 y (wrap .u64 ((M:Int)-1)))=o:=by
 have e:wrap .u64 ((M:Int)-1)=((M-1:Nat):Int):=by simp[wrap,IntKind.signed,IntKind.bits];omega
 have a:cf .and .u64 y ((M-1:Nat):Int)=wrap .u64 ((BitVec.ofInt 64 y &&& BitVec.ofInt 64 ((M-1:Nat):Int)).toNat:Int):=rfl;have b:(BitVec.ofInt 64 y &&& BitVec.ofInt 64 ((M-1:Nat):Int)).toNat<=M-1:=by
  rw[BitVec.toNat_and];refine dX Nat.and_le_right ?_;rw[BitVec.toNat_ofInt];omega
 rw[e,a];generalize(BitVec.ofInt 64 y &&& BitVec.ofInt 64 ((M-1:Nat):Int)).toNat=o at*;exact⟨o,by omega,by simp[wrap,IntKind.signed,IntKind.bits];omega⟩
def quarter{n:Nat}(h:n<2^62):wrap .i64 (tdiv (n:Int) 4)=((n/4:Nat):Int):=by
 rw[yv (by omega),ra au]
 omega
def Mg{a n b M:Nat}(v:a+n=b)(u:8<=n)(p:1<=M)(D:M<=2*n):∀(k idx:Nat)(d:Array Int)(c:Int),a+n/4*2+2<=idx+k->a<=idx->b<=d.size->d.size<=2^40 ->
  ∃e,PermIn a b d e/\zH a n M idx (rA d) c [] [.bn 1 (rA e)]
 |k,idx,d,c,m,x,s,w=>by
  have q:=quarter (n:=n) (by omega)
  by_cases h:idx<=a+n/4*2+1
  .obtain⟨y,r⟩:=aez c
   obtain⟨o,E,t⟩:=YG y p (by omega)
   have key:∀o':Nat,o'<n->∃e,PermIn a b d e/\sP a n M idx o' (rA d) y [] [.bn 1 (rA e)]:=by
    intro o' G;match k,m with
    |0,m=>omega
    |k+1,m=>
     obtain⟨e,l,g⟩:=Mg v u p D k (idx+1) (swp d idx (a+o')) y (by omega) (by omega) (by rw[swp_size];exact s) (by rw[swp_size];exact w)
     refine⟨e,permIn_trans _ _ _ _ _ (swp_permIn d a b idx (a+o') x (by omega) (by omega) (by omega) s) l,UM _ _ _ _ _ _ _ ⟨au,au,dR (i:=a+o') (by omega) (by omega) (dR (i:=idx) rfl (by omega) (tJ (i:=idx) (j:=a+o') rfl (by omega) (by omega) (by omega) ⟨au,?_⟩))⟩⟩
     rw[jL (i:=idx) (j:=a+o') rfl (by omega)]
     exact g
   have fin:∀e:Array Int,(aI (decide ((o:Int)>=n)) (aq ((o:Int)-n)/\sP a n M idx ((o:Int)-n) (rA d) y [] [.bn 1 (rA e)])
     (sP a n M idx o (rA d) y [] [.bn 1 (rA e)]))->zH a n M idx (rA d) c [] [.bn 1 (rA e)]:=fun e H=>
    QW _ _ _ _ _ _ (by
     rw[q];exact⟨by decide,au,au,au,ad (fun _=>⟨_,_,r,by rw[t];exact H⟩) fun f=>by simp at f;omega⟩)
   by_cases z:o<n
   .obtain⟨e,l,g⟩:=key o z
    exact⟨e,l,fin e (ad (fun f=>by simp at f;omega) fun _=>g)⟩
   .obtain⟨e,l,g⟩:=key (o-n) (by omega)
    exact⟨e,l,fin e (ad (fun _=>⟨au,by rw[show(o:Int)-n=((o-n:Nat):Int) by omega];exact g⟩) fun f=>by simp at f;omega)⟩
  .exact⟨d,permIn_refl _ _ _,QW _ _ _ _ _ _ (by
    rw[q];exact⟨by decide,au,au,au,ad (fun f=>by simp at f;omega) fun _=>fi⟩)⟩
def aeA(k:b<=d.size)(l:d.size<=2^40)(o:a+8<=b):∃c,PermIn a b d c/\ak 298 [.bA 0,vN a,vN b] [.bn 1 (rA d)] [] [.bn 1 (rA c)]:=by
 have q:=quarter (n:=b-a) (by omega)
 have e:(b:Int)-a=((b-a:Nat):Int):=by omega
 have i:=Sort.two_pow_bitsLen_le (n:=b-a) (by omega)
 have g:1<=2^bitsLen (b-a):=Nat.one_le_two_pow;obtain⟨c,m,j⟩:=Mg (a:=a) (n:=b-a) (b:=b) (by omega) (by omega) g i 4 (a+(b-a)/4*2-1) d (wrap .u64 ((b-a:Nat):Int)) (by omega) (by omega) k l
 refine⟨c,m,aec _ _ _ ?_⟩;rw[e,q];refine⟨au,ad (fun _=>⟨_,aey (b-a) (by omega),by decide,au,au,au,?_⟩) fun f=>by simp at f;omega⟩
 rw[show(a:Int)+((b-a)/4:Nat)*2-1=((a+(b-a)/4*2-1:Nat):Int) by omega]
 exact j
def YH(c:a<d.size)(e:b<d.size)(f:d.size<=2^40)(g:s<=100):
  ∃x y t:Nat,(x=a/\y=b\/x=b/\y=a)/\t<=s+1/\ak 360 [.bA 0,vN a,vN b,.az 1 0] [.bn 1 (rA d),.aH [vN s]] [vN x,vN y] [.bn 1 (rA d),.aH [vN t]]:=by
 cases hl:ltInt d[b]! d[a]!
 .exact⟨a,b,s,.inl ⟨rfl,rfl⟩,by omega,aaC _ _ _ _ (dR (i:=b) rfl e (dR (i:=a) rfl c (KJ (fun h=>by rw[hl]at h;simp at h) fun _=>fi)))⟩
 .exact⟨b,a,s+1,.inr ⟨rfl,rfl⟩,by omega,aaC _ _ _ _ (dR (i:=b) rfl e (dR (i:=a) rfl c (KJ (fun _=>⟨au,fi⟩) fun h=>by rw[hl]at h;simp at h)))⟩
def YI(f:a<d.size)(g:b<d.size)(i:c<d.size)(e:d.size<=2^40)(D:s<=50):
  ∃m t:Nat,(m=a\/m=b\/m=c)/\t<=s+3/\ak 348 [.bA 0,vN a,vN b,vN c,.az 1 0] [.bn 1 (rA d),.aH [vN s]] [vN m] [.bn 1 (rA d),.aH [vN t]]:=by
 obtain⟨p,u,n,z,w,j⟩:=YH f g e (s:=s) (by omega)
 obtain⟨q,G,t2,h,x,k⟩:=YH (a:=u) (b:=c) (d:=d) (by omega) i e (s:=n) (by omega)
 obtain⟨E,v,o,r,y,l⟩:=YH (a:=p) (b:=q) (d:=d) (by omega) (by omega) e (s:=t2) (by omega)
 exact⟨v,o,by omega,by omega,aen _ _ _ _ _ ⟨_,_,_,j,_,_,_,k,_,_,_,l,fi⟩⟩
def YJ(l:1<=a)(f:a+1<d.size)(g:d.size<=2^40)(i:s<=50):
  ∃m t:Nat,a<=m+1/\m<=a+1/\t<=s+3/\ak 347 [.bA 0,vN a,.az 1 0] [.bn 1 (rA d),.aH [vN s]] [vN m] [.bn 1 (rA d),.aH [vN t]]:=by
 obtain⟨m,t,j,e,k⟩:=YI (a:=a-1) (b:=a) (c:=a+1) (d:=d) (s:=s) (by omega) (by omega) f g i
 refine⟨m,t,by omega,by omega,e,aem _ _ _ ⟨au,au,_,_,?_,fi⟩⟩
 rw[show(a:Int)-1=((a-1:Nat):Int) by omega]
 exact k
def CC(s:Int):Int:=bif s==0 then 1 else bif s==12 then 2 else 0
def Mh:aI (s==0) (Fi [vN m,vN (CC s)] h [vN m,vN 1] h) (aI (s==12) (Fi [vN m,vN (CC s)] h [vN m,vN 2] h) (Fi [vN m,vN (CC s)] h [vN m,vN 0] h)):=by
 unfold CC;exact ad (fun h=>aZ (by rw[h];rfl)) fun h=>ad (fun a=>aZ (by rw[h,a];rfl)) fun a=>aZ (by rw[h,a];rfl)
def aeB(J:b<=d.size)(i:d.size<=2^40)(I:a+8<=b):∃(p:Nat)(h:Int),a<=p/\p<b/\ak 299 [.bA 0,vN a,vN b] [.bn 1 (rA d)] [vN p,vN h] [.bn 1 (rA d)]:=by
 have q:=quarter (n:=b-a) (by omega)
 have e:(b:Int)-a=((b-a:Nat):Int):=by omega
 have j:(a:Int)+((b-a)/4:Nat)*1=((a+(b-a)/4*1:Nat):Int):=by omega
 have l:(a:Int)+((b-a)/4:Nat)*2=((a+(b-a)/4*2:Nat):Int):=by omega
 have o:(a:Int)+((b-a)/4:Nat)*3=((a+(b-a)/4*3:Nat):Int):=by omega
 by_cases T:50<=b-a
 .obtain⟨x,r,E,K,f1,u⟩:=YJ (a:=a+(b-a)/4*1) (d:=d) (s:=0) (by omega) (by omega) i (by omega)
  obtain⟨y,t2,G,M,f2,v⟩:=YJ (a:=a+(b-a)/4*2) (d:=d) (s:=r) (by omega) (by omega) i (by omega)
  obtain⟨z,D,H,Q,f3,w⟩:=YJ (a:=a+(b-a)/4*3) (d:=d) (s:=t2) (by omega) (by omega) i (by omega)
  obtain⟨m,t,g,f,k⟩:=YI (a:=x) (b:=y) (c:=z) (d:=d) (s:=D) (by omega) (by omega) (by omega) i (by omega)
  refine⟨m,CC t,by omega,by omega,aay _ _ _ ?_⟩
  rw[e,q,j,l,o];exact⟨au,by decide,au,au,by decide,au,au,by decide,au,au,
   ad (fun _=>ad (fun _=>⟨_,_,u,_,_,v,_,_,w,_,_,k,Mh⟩) fun h=>by simp at h;omega) fun h=>by simp at h;omega⟩
 .obtain⟨m,t,g,f,k⟩:=YI (a:=a+(b-a)/4*1) (b:=a+(b-a)/4*2) (c:=a+(b-a)/4*3) (d:=d) (s:=0) (by omega) (by omega) (by omega) i (by omega)
  refine⟨m,CC t,by omega,by omega,aay _ _ _ ?_⟩
  rw[e,q,j,l,o];exact⟨au,by decide,au,au,by decide,au,au,by decide,au,au,
   ad (fun _=>ad (fun h=>by simp at h;omega) fun _=>⟨_,_,k,Mh⟩) fun h=>by simp at h;omega⟩
end Go.Ac.S4
end
section
namespace Go.Ac.S4
open Go Go.Proofs Go.Proofs.Tryz Go.Ac
open Go.IntKind (wrap)
open Int (toNat tdiv tmod fdiv)
open List (drop take replicate)
set_option maxRecDepth 100000
section
open Go.Sort (ltInt swp swp_size PermIn SortedIn permIn_refl permIn_trans bitsLen swo_ltInt)
def Sd(a b:Nat)(d:Array Int)(K:List AV->List Bx->Prop):Prop:=∃c,PermIn a b d c/\SortedIn ltInt a b c/\K [] [.bn 1 (rA c)]
def Sd.mono(h:Sd a b d K)(e:∀r h,K r h->c r h):Sd a b d c:=
 let ⟨d',h1,h2,h3⟩:=h;⟨d',h1,h2,e _ _ h3⟩
def Sd.perm(e:PermIn a b d c)(h:Sd a b c K):Sd a b d K:=
 let ⟨d',h1,h2,h3⟩:=h;⟨d',permIn_trans _ _ _ _ _ e h1,h2,h3⟩
structure Pq (a b:Nat) (d:Array Int) (ed:Nat):Prop where
 B:Sort.Below ltInt a b d
 ab:a<=b
 l:ed<=2^40
 b:b<=d.size
 d:d.size<=2^40
def Pq.perm{a b:Nat}{d e:Array Int}{l:Nat}(h:Pq a b d l)(c:PermIn a b d e):Pq a b e l:=
 ⟨h.B.perm h.b c,h.ab,h.l,by rw[c.1];exact h.b,by rw[c.1];exact h.d⟩
def Re(n:Nat):Prop:=∀(d:Array Int)(a b ed:Nat)(wb wp:Bool),b-a<n->Pq a b d ed->Sd a b d (Lp f232 0 (ng a b ed wb wp (rA d)) 1)
def aeC(a b ed length d:Int)(l:Rw)(r:List AV)(h:List Bx):Prop:=
 ∃p q c,ak 304 [.bA 0,vN a,vN b,vN d] [.bn 1 l] [vN p,vB q] [.bn 1 c]/\aq (p-a)/\aq (b-p)/\(8:Int)≠0/\aI (decide ((p-a)<(b-p))) (∃y,ak 232 [.bA 0,vN a,vN p,vN ed] [.bn 1 c] [] [.bn 1 y]/\aq (p+1)/\Lp f232 0 (ng (p+1) b ed (decide ((p-a)>=(wrap .i64 (tdiv length 8)))) q y) 1 r h)
  (aq (p+1)/\∃y,ak 232 [.bA 0,vN (p+1),vN b,vN ed] [.bn 1 c] [] [.bn 1 y]/\Lp f232 0 (ng a p ed (decide ((b-p)>=(wrap .i64 (tdiv length 8)))) q y) 1 r h)
def US(f:Re n)(J:b-a<=n)(c:Pq a b d ed)(v:a<=p)(w:p<b):Sd a b d (aeC a b ed length p (rA d)):=by
 have k:=aev c.b c.d v w;have g:Sort.partition ltInt d a b p=((Sort.partition ltInt d a b p).1,(Sort.partition ltInt d a b p).2.1,(Sort.partition ltInt d a b p).2.2):=rfl;generalize(Sort.partition ltInt d a b p).1=mid at g k;generalize(Sort.partition ltInt d a b p).2.1=ap at g k;generalize(Sort.partition ltInt d a b p).2.2=d4 at g k;obtain⟨x,E,K,y,z,r,D⟩:=Sort.round_part swo_ltInt (Sort.partition_holds ltInt) v w c.b c.B g;have G:=c.b;have H:=c.d;by_cases I:mid-a<b-mid
 .obtain⟨L,e,i,j⟩:=f d4 a mid ed true true (by omega) ⟨y,x,c.l,by omega,by omega⟩
  obtain⟨t,u⟩:=r L e i;obtain⟨R,o,q,s⟩:=f L (mid+1) b ed (decide ((mid:Int)-a>=(wrap .i64 (tdiv length 8)))) ap (by omega) ⟨t,by omega,c.l,by rw[e.1];omega,by rw[e.1];omega⟩
  obtain⟨l,m⟩:=u R o q;exact⟨R,l,m,_,_,_,k,au,au,by decide,ad (fun _=>⟨_,Yi _ _ _ _ j,au,s⟩) fun h=>by simp at h;omega⟩
 .obtain⟨L,e,i,j⟩:=f d4 (mid+1) b ed true true (by omega) ⟨z,by omega,c.l,by omega,by omega⟩
  obtain⟨t,u⟩:=D L e i;obtain⟨R,o,q,s⟩:=f L a mid ed (decide ((b:Int)-mid>=(wrap .i64 (tdiv length 8)))) ap (by omega) ⟨t,by omega,c.l,by rw[e.1];omega,by rw[e.1];omega⟩
  obtain⟨l,m⟩:=u R o q;exact⟨R,l,m,_,_,_,k,au,au,by decide,ad (fun h=>by simp at h;omega) fun _=>⟨au,_,Yi _ _ _ _ j,s⟩⟩
def Wn{wb wp:Bool}(j:Re n)(q:b-a<=n)(c:Pq a b d ed)(e:a<=p)(f:p<b):
  Sd a b d (Rp f232 17 (yB a b ed wb wp length p (rA d)) 1):=by
 have D:=c.b;have E:=c.d;have l:=US (length:=length) j q c e f;by_cases o:0<a
 .cases hl:ltInt d[a-1]! d[p]!
  .have k:=aeu c.b c.d e f
   have g:Sort.partitionEqual ltInt d a b p=((Sort.partitionEqual ltInt d a b p).1,(Sort.partitionEqual ltInt d a b p).2):=rfl;generalize(Sort.partitionEqual ltInt d a b p).1=mid at g k;generalize(Sort.partitionEqual ltInt d a b p).2=d4 at g k;obtain⟨z,m,G,x,y⟩:=Sort.round_eq swo_ltInt (Sort.partitionEqual_holds ltInt) o e f c.b c.B hl g;obtain⟨R,u,v,w⟩:=j d4 mid b ed wb wp (by omega) ⟨x,m,c.l,by omega,by omega⟩
   obtain⟨s,t⟩:=y R u v;exact⟨R,s,t,EK _ _ _ _ _ _ _ _ (ad (fun _=>⟨au,dR (i:=a-1) (by omega) (by omega) (dR (i:=p) rfl (by omega) (EY (fun _=>⟨_,_,k,w⟩) fun h=>by rw[hl]at h;simp at h))⟩) fun h=>by simp at h;omega)⟩
  .exact l.mono fun r h H=>EK _ _ _ _ _ _ _ _ (ad (fun _=>⟨au,dR (i:=a-1) (by omega) (by omega) (dR (i:=p) rfl (by omega) (EY (fun h=>by rw[hl]at h;simp at h) fun _=>H))⟩) fun h=>by simp at h;omega)
 .exact l.mono fun r h H=>EK _ _ _ _ _ _ _ _ (ad (fun h=>by simp at h;omega) fun _=>H)
def Wo{wb wp:Bool}(f:Re n)(j:b-a<=n)(c:Pq a b d ed)(g:a<=p)(i:p<b):
  Sd a b d (Rp f232 15 (yA a b ed wb wp length p hint (rA d)) 1):=by
 cases hc:(bif(bif wb then wp else false)then(hint==1)else false)
 .exact(Wn (wb:=wb) (wp:=wp) (length:=length) f j c g i).mono fun r h H=>EJ _ _ _ _ _ _ _ _ _ (ad (fun h=>by rw[hc]at h;simp at h) fun _=>H)
 .have k:=aew c.b c.d (show a<b by omega)
  obtain⟨e,l⟩:=Sort.partialInsertionSort_holds swo_ltInt d a b (by omega) c.b c.B
  generalize(Sort.partialInsertionSort ltInt d a b).1=d1 at*;generalize(Sort.partialInsertionSort ltInt d a b).2=res at*;cases res
  .exact((Wn (wb:=wb) (wp:=wp) (length:=length) f j (c.perm e) g i).perm e).mono fun r h H=>EJ _ _ _ _ _ _ _ _ _ (ad (fun _=>⟨_,_,k,ad (fun h=>by simp at h) fun _=>H⟩) fun h=>by rw[hc]at h;simp at h)
  .exact⟨d1,e,l rfl,EJ _ _ _ _ _ _ _ _ _ (ad (fun _=>⟨_,_,k,ad (fun _=>fi) fun h=>by simp at h⟩) fun h=>by rw[hc]at h;simp at h)⟩
def Wp{wb wp:Bool}(e:Re n)(g:b-a<=n)(c:Pq a b d ed)(l:a+8<=b):
  Sd a b d (Rp f232 10 (sO a b ed wb wp length (rA d)) 1):=by
 obtain⟨p,hint,i,j,k⟩:=aeB c.b c.d l;have m:=c.b;have o:=c.d;cases hc:hint==2
 .exact(Wo (wb:=wb) (wp:=wp) (length:=length) (hint:=hint) e g c i j).mono fun r h H=>L9 _ _ _ _ _ _ _ ⟨_,_,k,ad (fun h=>by rw[hc]at h;simp at h) fun _=>H⟩
 .have f:=Sort.reverseRange_holds d a b c.ab c.b
  refine((Wo (p:=b-1-(p-a)) (wb:=wb) (wp:=wp) (length:=length) (hint:=1) e g (c.perm f) (by omega) (by omega)).perm f).mono fun r h H=>L9 _ _ _ _ _ _ _ ⟨_,_,k,ad (fun _=>⟨_,aes c.b c.d (by omega),au,au,au,?_⟩) fun h=>by rw[hc]at h;simp at h⟩
  rw[show(b:Int)-1-((p:Int)-a)=((b-1-(p-a):Nat):Int) by omega]
  exact H
def Rf:∀n,Re n
 |0=>fun d a b ed wb wp q=>absurd q (by omega)
 |n+1=>fun d a b ed wb wp q c=>by
  have p:=Rf n;have u:=c.b;have v:=c.d;have w:=c.l;have z:=c.ab;by_cases x:b-a<=12
  .obtain⟨f,i⟩:=Sort.insertionSort_holds swo_ltInt d a b c.ab c.b
   exact⟨_,f,i,QI _ _ _ _ _ _ ⟨au,ad (fun _=>⟨_,aer c.b c.d c.ab,fi⟩) fun h=>by simp at h;omega⟩⟩
  .have j:∀{e:Array Int},(aI ((ed:Int)==0) (∃y,ak 297 [.bA 0,vN a,vN b] [.bn 1 (rA d)] [] [.bn 1 y]/\Fi [] [.bn 1 (rA e)] [] [.bn 1 y])
     (aI (!wb) (∃y,ak 298 [.bA 0,vN a,vN b] [.bn 1 (rA d)] [] [.bn 1 y]/\aq ((ed:Int)-1)/\Rp f232 10 (sO a b ((ed:Int)-1) wb wp ((b:Int)-a) y) 1 [] [.bn 1 (rA e)])
     (Rp f232 10 (sO a b ed wb wp ((b:Int)-a) (rA d)) 1 [] [.bn 1 (rA e)])))->Lp f232 0 (ng a b ed wb wp (rA d)) 1 [] [.bn 1 (rA e)]:=fun H=>
    QI _ _ _ _ _ _ ⟨au,ad (fun h=>by simp at h;omega) fun _=>H⟩
   by_cases t:ed=0
   .obtain⟨f,i⟩:=Sort.heapSort_holds swo_ltInt d a b c.ab c.b
    exact⟨_,f,i,j (ad (fun _=>⟨_,aet c.b c.d (by omega),fi⟩) fun h=>by simp at h;omega)⟩
   .cases wb
    .obtain⟨s,f,k⟩:=aeA c.b c.d (show a+8<=b by omega)
     have g:=c.perm f;obtain⟨e,l,m,o⟩:=(Wp (ed:=ed-1) (wb:=false) (wp:=wp) (length:=(b:Int)-a) p (by omega) ⟨g.B,g.ab,by omega,g.b,g.d⟩ (by omega)).perm f
     refine⟨e,l,m,j (ad (fun h=>by simp at h;omega) fun _=>ad (fun _=>⟨_,k,au,?_⟩) fun h=>by simp at h)⟩
     rw[show(ed:Int)-1=((ed-1:Nat):Int) by omega]
     exact o
    .obtain⟨e,l,m,o⟩:=Wp (wb:=true) (wp:=wp) (length:=(b:Int)-a) p (by omega) c (by omega)
     exact⟨e,l,m,j (ad (fun h=>by simp at h;omega) fun _=>ad (fun h=>by simp at h) fun _=>o)⟩
def aeD(z:List Int)(n:z.length<=2^40):ak 164 [.bA 0] [.bn 1 (z.map fun x=>[W x])] [] [.bn 1 ((z.mergeSort fun x y=>decide (x<=y)).map fun x=>[W x])]:=by
 have d:z.toArray.size=z.length:=by simp
 have m:bitsLen z.length<=41:=(Sort.bitsLen_le_iff z.length 41).2 (by omega)
 obtain⟨a,k,l,f⟩:=Rf (z.length+1) z.toArray 0 z.length (bitsLen z.length) true true (by omega) ⟨.inl rfl,dV _,by omega,by omega,by omega⟩
 have g:rA z.toArray=z.map fun x=>[W x]:=by simp[rA]
 have i:a.toList=z.mergeSort fun x y=>decide (x<=y):=by
  have h:=Sort.sorted_unique_holds (lt:=ltInt) swo_ltInt (fun x y b c=>by unfold ltInt at b c;simp at b c;omega) z.toArray a (by rw[d];exact k) (by rw[d];exact l)
  rw[h];simp only[List.toList_toArray];congr 1
  funext x y
  unfold ltInt;by_cases h:x<=y
  .simp[h]
  .simp[h];omega
 have j:rA a=(z.mergeSort fun x y=>decide (x<=y)).map fun x=>[W x]:=by rw[rA,i]
 rw[g,j]at f;refine ad3 _ ⟨(bitsLen z.length:Nat),?_,_,Yi _ _ _ _ ?_,fi⟩
 .have e:wrap .u64 (((z.map fun x=>[W x]).length:Nat):Int)=z.length:=by simp[wrap,IntKind.signed,IntKind.bits];omega
  rw[e];exact aaF z.length (by omega)
 .simpa using f
end
section
open Go.RowKit Go.Maps
def wJ(w:World)(a:Nat)(v:Value)(l:List Int):Prop:=
 (l=[]/\∃A,v = .slice A 0 0)\/∃g cap X e,v = .slice (some ⟨g,0,none⟩) l.length cap/\a<=g/\w.heap[g]?=some (.cells X e (0,0))/\l.length<=cap/\cap<=X.size/\∀(i:Nat)x,l[i]?=some x->X[i]?=some (kz x)
def YK{d e:Nat}(h:w.ownsRow d e 1 v l.length (l.map kz)):wJ w d v l:=by
 obtain⟨-,⟨a,f⟩|⟨g,cap,c,a,j,n,k,p,q,m⟩⟩:=h
 .exact .inl ⟨ir.1 f,none,a⟩
 .refine .inr ⟨g,cap,c,e,a,j,n,k,by omega,fun i x b=>?_⟩
  have o:i<l.length:=(aE.1 b).1;have:(c.toList.take (l.length*1))[i]?=some (kz x):=by rw[m,bu,b];rfl
  rw[ff,aG (by omega)]at this
  simpa using this
def Rg(w:World)(g b:Nat):Nat:=if b=g then 0 else oZ w b
def UT{w:World}(h:w.cell? ⟨b,o,none⟩=some v):b<w.heap.size:=by
 rcases bY b w.heap.size with a|a
 .exact a
 .simp[World.cell?,sE a]at h
def Wq(d:Laid l w)(e:Below w.heap.size w a)(n:w.heap.size<=g):Laid (Rg a g) a:=by
 have key:∀(b o:Nat)(v:Value),w.cell? ⟨b,o,none⟩=some v->a.cell? ⟨b,o,none⟩=some v/\o<Rg a g b:=fun b o v h=>by
  have k:=UT h;have c:a.cell? ⟨b,o,none⟩=some v:=(World.cell?_of_block (e.block b k)).trans h;exact⟨c,by unfold Rg;rw[aN (by omega)];exact(mO c).1⟩
 exact⟨fun i f=>key _ _ _ (d.tab i f).1,d.num.elim fun m j=>⟨m,key _ _ _ j.1⟩⟩
def KK(a:Below w.heap.size w d)(j:w.heap.size<=g)(b:Inv prog d i (· = g) G f e):Below w.heap.size w e:=
 ⟨b.frame.os.trans a.os,b.frame.tape.trans a.tape,b.frame.output.trans a.output,dX a.size b.frame.size,fun k c=>(b.frame.Ej k (gL c a.size) (by show¬k=g;omega)).1.trans (a.block k c)⟩
def OA(Y:Laid a4 w)(k:Below w.heap.size w a)(hv:wJ a w.heap.size v l)(hz:l.length<=2^40):
  Calls prog 164 #[v] a fun e d=>e = .returned (.tuple #[])/\Below w.heap.size w d/\wJ d w.heap.size v (l.mergeSort fun x y=>decide (x<=y)):=by
 have M:=aeD l hz;have fin:∀{Q:Value->World->Prop},dH prog (callFunc 164 #[v]) a Q->(∀u d,Q u d->u = .tuple #[]/\Below w.heap.size w d/\wJ d w.heap.size v (l.mergeSort fun x y=>decide (x<=y)))->
   Calls prog 164 #[v] a fun e d=>e = .returned (.tuple #[])/\Below w.heap.size w d/\wJ d w.heap.size v (l.mergeSort fun x y=>decide (x<=y)):=fun{Q}E hq=>by
  unfold dH at E;rw[(enters_of func164 rfl rfl:ZR 164)]at E;refine Calls.mono E fun e w'⟨u,he,h⟩=>?_
  obtain⟨f,c⟩:=hq u w' h;exact⟨by rw[he,f],c⟩
 have hlen:(l.mergeSort fun x y=>decide (x<=y)).length=l.length:=List.length_mergeSort _
 rcases hv with⟨rfl,A,rfl⟩|⟨g,cap,X,e,rfl,t,T,a3,a7,a5⟩
 .have J:=Wq (g:=w.heap.size) Y k (ar _)
  let G:Gh:=⟨Rg a w.heap.size,fun _=>none,fun _=>.slice A 0 0,fun b=>b=0⟩
  have m:∀x n,G.h x≠some n:=fun x n h=>by simp[G]at h
  have H:Inv prog a G.bX (· = w.heap.size) G [.bn 1 []] a:=by
   refine⟨m4.refl _ _ _ (fun b k=>by show(if b=w.heap.size then 0 else oZ a b)=0;split<;>simp[oZ,sE k]) J,fun b h=>?_,fun b bx h=>?_,fun x y n h=>absurd h (m _ _),fun x n h=>absurd h (m _ _),fun b n _=>m _ _⟩
   .show b<1
    have:b=0:=h;omega
   .match b with
    |0=>simp at h;subst h;exact⟨rfl,by simp,.inr ⟨rfl,A,rfl⟩⟩
    |b+1=>simp at h
  refine fin (M.GU a G (· = w.heap.size) [.slice A 0 0] H (ei (.bA (G:=G) (b:=0) rfl rfl))) fun u d⟨K,I,s,⟨f,_⟩,z,_⟩=>?_
  obtain rfl:I=[]:=ir.1 f;exact⟨z,KK k (ar _) s,.inl ⟨by simp,A,rfl⟩⟩
 .have J:=Wq (g:=g) Y k t
  have a1:g<a.heap.size:=(ia.1 T).1;let G:Gh:=⟨Rg a g,fun|.box 0=>some g|_=>none,fun _=>.slice (some ⟨g,0,none⟩) l.length cap,fun b=>b=0⟩
  have m:∀x n,G.h x=some n->x = .box 0/\n=g:=fun x n h=>by
   cases x with
   |box b=>
    cases b with
    |zero=>exact⟨rfl,(ax h).symm⟩
    |succ b=>cases h
   |_=>cases h
  have H:Inv prog a G.bX (· = g) G [.bn 1 (l.map fun x=>[W x])] a:=by
   refine⟨m4.refl _ _ _ (fun b k=>by show(if b=g then 0 else oZ a b)=0;split<;>simp[oZ,sE k]) J,fun b h=>?_,fun b bx h=>?_,fun x y n f c=>by rw[(m x n f).1,(m y n c).1],fun x n h=>by rw[(m x n h).2];exact⟨a1,fun _=>rfl⟩,fun b n h=>?_⟩
   .show b<1
    have:b=0:=h;omega
   .match b with
    |b+1=>simp at h
    |0=>
     simp at h;subst h;refine⟨rfl,fun r hr=>?_,.inl ⟨g,X,e,cap,rfl,by simp[G],by simpa using a3,T,by omega,aG rfl,fun i j v p f c=>?_⟩⟩
     .obtain⟨x,-,rfl⟩:=bh.1 hr;rfl
     .simp only[kf,bu]at c
      cases q:l[i]? with
      |none=>rw[q]at c;simp at c
      |some x=>
       rw[q]at c;match j,c with
       |0,c=>
        simp at c;subst c;rw[show i*1+0=i by omega,a5 i x q]at f
        obtain rfl:=ax f;exact .int _ _
   .match b with
    |0=>simp at h
    |b+1=>simp at h
  refine fin (M.GU a G (· = g) [.slice (some ⟨g,0,none⟩) l.length cap] H (ei (.bA (G:=G) (b:=0) rfl rfl))) fun u d⟨K,I,s,⟨f,_⟩,z,a0⟩=>?_
  obtain rfl:I=[]:=ir.1 f;have R:K.val 0 = .slice (some ⟨g,0,none⟩) l.length cap:=(a0 0 rfl).2;obtain⟨-,-,⟨a6,D,e',a9,-,o,k3,k4,k5,-,k7⟩|⟨k1,A,o⟩⟩:=s.box 0 _ rfl
  .rw[R]at o
   simp only[Value.slice.injEq,ay,Addr.mk.injEq]at o;obtain⟨⟨rfl,-,-⟩,-,rfl⟩:=o;refine⟨z,KK k t s,.inr ⟨g,cap,D,e',by rw[hlen],t,k4,by omega,by omega,fun i x q=>?_⟩⟩
   have a8:=(aE.1 q).1;have Z:i<D.size:=by omega
   have hp:=k7 i 0 D[i] (W x) (by rw[show i*1+0=i by omega];exact cX Z) (by simp[kf,q])
   rw[cX Z,wC hp]
  .have F:(l.mergeSort fun x y=>decide (x<=y))=[]:=by simpa using k1
   have a2:l.length=0:=by rw[<-hlen,F];rfl
   rw[R]at o;simp only[Value.slice.injEq]at o;obtain⟨-,-,rfl⟩:=o;exact⟨z,KK k t s,.inl ⟨F,some ⟨g,0,none⟩,by rw[a2]⟩⟩
end
def aeE(a:List (PV×AV))(H:Fi r h [.fn (.func 165) [] [.az 1 0]] [.map 209 a,.aH [.mp 0]]):
  ak 110 [.mp 0] [.map 209 a] r h:=.of func110 {} H
section
open Go.RowKit Go.Maps
open Go.WideElems (Fit rd rg rd_key rg_of)
def aeF(c:List (PV×AV)):ak 110 [.mp 0] [.map 209 c] [.fn (.func 165) [] [.az 1 0]] [.map 209 c,.aH [.mp 0]]:=aeE c fi
def wK(n:Int):∀l:List Int,(nR n l).Perm (n::l)
 |[]=>.refl _
 |m::l=>by
  unfold nR;cases decide (n<=m)
  .exact((wK n l).cons m).trans (.swap _ _ _)
  .exact .refl _
def tK:∀l:List Int,(gx l).Perm l
 |[]=>.refl _
 |n::l=>(wK n _).trans ((tK l).cons n)
def Mi(n:Int):∀{l:List Int},l.Pairwise (· <= ·)->(nR n l).Pairwise (· <= ·)
 |[],_=>by simp[nR]
 |m::l,h=>by
  obtain⟨c,d⟩:=lF.1 h;unfold nR;cases b:decide (n<=m)
  .refine lF.2 ⟨fun x a=>?_,Mi n d⟩
   have b:m<n:=by simpa using b
   rcases aY.1 ((wK n l).mem_iff.1 a)with rfl|a
   .omega
   .exact c x a
  .refine lF.2 ⟨fun x a=>?_,h⟩
   have b:n<=m:=by simpa using b
   rcases aY.1 a with rfl|a
   .exact b
   .exact Int.le_trans b (c x a)
def HA:∀l:List Int,(gx l).Pairwise (· <= ·)
 |[]=>.nil
 |n::l=>Mi n (HA l)
def UU{l k:List Int}(h:l.Perm k):(l.mergeSort fun x y=>decide (x<=y))=gx k:=by
 refine List.Perm.eq_of_pairwise (le:=(· <= ·)) (fun a b _ _ d e=>Int.le_antisymm d e) ?_ (HA k) (((List.mergeSort_perm l _).trans h).trans (tK k).symm)
 have:=List.pairwise_mergeSort (le:=fun x y:Int=>decide (x<=y)) (fun a b c d e=>by simp at*; omega) (fun a b=>by simp;omega) l
 exact this.imp fun h=>by simpa using h
def E0:Value->Option (DataW Unit×List MemPlace):=fun _=>some (.nil,[])
def Rh{w:World}(J:w.heap[b]?=some (.map c clock))(d:x0 c clock a.length)(l:∀(i:Nat)e k,c[i]?=some e->a[i]?=some k->e.key=kz k)(u:a.Nodup)(M:∀k∈a,0<=k/\k<4294967296)(Z:a.length<=2^20):∃t,sN t a/\w.ownsMap prog 29 E0 b a.length t:=by
 have v:∀x∈c.toList,∃(i:Nat)(k:Int),c[i]?=some x/\a[i]?=some k/\x.key=kz k/\rg prog 29 E0 x=(Lit.int .u32 k,(.nil:DataW Unit))/\∃y,rd prog 29 E0 x=some y:=by
  intro x m;obtain⟨i,f⟩:=sD.1 m;have q:c[i]?=some x:=by simpa using f
  have s:i<a.length:=by rw[<-d.1];exact(ia.1 q).1
  have g:=l i x a[i] q (bo s);obtain⟨A,R⟩:=M _ (fL s);have r:rd prog 29 E0 x=some (Lit.int .u32 a[i],(.nil:DataW Unit)):=by
   have T:keyOf prog 29 x.key=some (.int .u32 a[i]):=by
    rw[g];simp[keyOf,u29,mapKey,Lit.wf,IntKind.min,IntKind.max,IntKind.signed,IntKind.bits];omega
   simp[rd,T,E0]
  exact⟨i,a[i],q,bo s,g,rg_of r,_,r⟩
 have a0:c.toList.length=a.length:=by rw[mA,d.1]
 have D:c.toList.map (fun x=>rg prog 29 E0 x)=a.map fun k=>(Lit.int .u32 k,(.nil:DataW Unit)):=by
  apply fe;intro i;rw[bu,bu];by_cases f:i<a.length
  .have z:i<c.toList.length:=by rw[mA,d.1];exact f
   obtain⟨F,k,X,Y,H,I,-⟩:=v c.toList[i] (fL z);have g:=l i c.toList[i] a[i] (by simp) (bo f)
   rw[H]at g;have g:k=a[i]:=by simpa[kz]using g
   rw[bo z,bo f];simp only[de];rw[I,g]
  .rw[eJ (show c.toList.length<=i by omega),eJ (show a.length<=i by omega)];rfl
 refine⟨.map ((c.toList.map (rg prog 29 E0)).foldr DataW.insert []),⟨fun x=>?_,u,?_⟩,c,clock,J,⟨by rw[d.1];simp[maxLen];omega,(MapKept.stamped_iff _ _).2 ⟨d.2.1,d.2.2,?_⟩,fun x m=>(v x m).elim fun i h=>h.elim fun k h=>h.2.2.2.2⟩,by rw[d.1];exact ar _,rfl⟩
 .rw[has_eq,mY]
  constructor
  .rintro⟨p,n,K⟩
   have n:=mem_sorted.1 n;rw[show(c.toList.map (rg prog 29 E0))=_ from D]at n
   obtain⟨k,l,rfl⟩:=bh.1 n;have:k=x:=by simpa[Lit.sameKey]using K
   exact this▸l
  .intro m
   refine⟨(Lit.int .u32 x,.nil),mem_sorted.2 ?_,by simp[Lit.sameKey]⟩
   rw[show(c.toList.map (rg prog 29 E0))=_ from D]
   exact bh.2 ⟨x,m,rfl⟩
 .simp[Maps.size,length_sorted,d.1]
 .rw[yt]
  intro i j f o Q;rw[mA,d.1]at f o;have E:=l i c.toList[i] a[i] (by simp) (bo f)
  have G:=l j c.toList[j] a[j] (by simp) (bo o)
  rw[E,G];intro e;have e:a[i]=a[j]:=by simpa[kz]using e
  have:=(yt.1 u) i j f o Q;exact this e
set_option maxHeartbeats 1000000 in
theorem aeG(c:List (PV×AV))(d:List Int)(M:c.map (·.1)=d.map W)(hn:d.Nodup)(hw:∀k∈d,0<=k/\k<4294967296)(Q:d.length<=2^20):
  ak 109 [.fn (.func 165) [] [.az 0 0]] [.aH [.mp 1],.map 209 c] [vL 1 ((gx d).map fun k=>[W k])] [.aH [.mp 1],.map 209 c]:=by
 constructor
 intro w y O vs q E;obtain⟨v,rfl,D⟩:=LZ E;obtain⟨n,X,elem,he,hh,b4,J,a3,-,a2⟩:=q.box 0 _ rfl;obtain⟨b,b1,clock,-,c2,b7,hb,hB,-,-,hc⟩:=q.box 1 _ rfl;have a4:c.length=d.length:=by have:=congrArg List.length M;simpa using this
 have b2:∀(i:Nat)e k,b1[i]?=some e->d[i]?=some k->e.key=kz k:=fun i e k D h2=>by
  have t:(c.map (·.1))[i]?=some (W k):=by rw[M,bu,h2];rfl
  rw[bu]at t;cases m:c[i]? with
  |none=>rw[m]at t;simp at t
  |some x=>
   rw[m]at t;have R:x.1=W k:=by simpa using t
   have:=(hc i e x D m).1;rw[R]at this;exact wC this
 obtain⟨F,a6,b3⟩:=Rh hb (a4▸hB) b2 hn hw Q;have b5:w.cell? ⟨n,0,none⟩=some (.map (some b)):=by
  have Z:0<X.size:=by rw[a3];simp
  obtain⟨-,h⟩:=a2 0 X[0] (.mp 1) (cX Z) rfl;have s:X[0]=.map (some b):=by
   have h:aS y [] w X[0] (.mp 1):=h;generalize X[0]=u at h;cases h;exact b7
  simp[World.cell?,J,cX Z,s]
 obtain⟨lb,rfl,a7⟩:∃lb:Array Value,v = .func (.func 165) #[] lb/\lb = #[.pointer (some ⟨n,0,none⟩)]:=by
  cases D with
  |@fn f fi o first cap g1 g2 g3 g4=>
   obtain rfl:fi = #[]:=Array.eq_empty_of_size_eq_zero (by simpa using g1)
   refine⟨o,rfl,?_⟩;have G:o.size=1:=by simpa using g2
   have l:=g4 0 o[0] (.az 0 0) (cX (by omega)) rfl
   have s:o[0]=.pointer (some ⟨n,0,none⟩):=by
    generalize o[0]=u at l;cases l with
    |az _ h=>rw[b4]at h;simp only[Value.pointer.injEq,ay,Addr.mk.injEq]at h;rw[h.1]
   apply Array.ext
   .simp[G]
   .intro i c3 c4
    have:i=0:=by omega
    subst this;simpa using s
 subst a7;have a1:n<w.heap.size:=(ia.1 J).1;have b6:SeqGives FW 2 prog 165 #[.pointer (some ⟨n,0,none⟩)] kz (fun H=>H.Perm d) d.length w:=BZ 2 (by omega) n b d.length F a6 w a1 b5 b3
 have hC:CallsIn FW 5 prog 109 #[.func (.func 165) #[] #[.pointer (some ⟨n,0,none⟩)]] w fun e I=>∃v,e = .returned v/\Below w.heap.size w I/\wJ I w.heap.size v (gx d):=by
  have mixed:=mixed;have t0:=underlying0;have a0:=isAgg0;have z0:=sizeOf0;have v0:=zeroValue0;have a9:=underlying60;have b9:=isAgg60;have d1:=sizeOf60;have c9:=zeroValue60;have b0:=underlying219;have c0:=isAgg219;have d2:=sizeOf219;have d0:=zeroValue219;have u0:=run_underlying t0;have c7:=run_underlying a9;have c8:=run_underlying b0;have e8:∀args w,(callFunc 163 args).run prog w = .ok (.enter 163 args) w:=enters_of func163 rfl rfl;have e9:∀args w,(callFunc 164 args).run prog w = .ok (.enter 164 args) w:=enters_of func164 rfl rfl;refine callsIn_of_wp func109 rfl trivial ?_ rfl;simp only[show f109.ntmps=9 from rfl,sy,aD,cS,Nat.reduceAdd,Nat.reduceSub,yl,yk,uy,ye,dP,dt]
  gi_wp2
  refine⟨trivial,(Kk 4 (by omega) 165 _ (enters_of func165 rfl rfl) _ d.length (by simp[maxLen];omega) (by omega) _ b6).mono ?_⟩
  rintro e w1 ⟨v,H,rfl,Ws,x9,-,Ri⟩;gi_wp2
  have hlen:H.length=d.length:=Ws.length_eq;have G:=OA q.frame.Ca Ri (YK x9) (by omega)
  refine⟨trivial,(callsIn_wide.2 G).mono ?_⟩;rintro e I ⟨rfl,ZT,hh2⟩;gi_wp2
  go_ret
  rw[UU Ws]at hh2;exact⟨_,rfl,ZT,hh2⟩
 refine eQ (enters_of func109 rfl rfl) (callsIn_wide.1 hC) ?_;rintro e w' ⟨v,rfl,Ri,s⟩;have c6:(gx d).length<=2^20:=by rw[(tK d).length_eq];exact Q
 generalize gx d=z at*;rcases s with⟨rfl,A,rfl⟩|⟨g,cap,Y,e,rfl,hg,K,a8,c1,b8⟩
 .refine⟨_,rfl,o1 y w w'.heap.size 0 false,[.slice A 0 0],pR q Ri ⟨Ri.size,.inr ⟨rfl,rfl⟩⟩,ei (.v ?_),rfl,fun b h=>⟨h,rfl⟩⟩
  cases A with
  |none=>exact .m3 1
  |some a=>exact .Jo a 1
 .have a5:g<w'.heap.size:=(ia.1 K).1
  refine⟨_,rfl,o1 y w g z.length false,[.slice (some ⟨g,0,none⟩) z.length cap],pR q Ri ⟨hg,.inl a5⟩,ei (.v ?_),rfl,fun b h=>⟨h,rfl⟩⟩
  have T:∀(i j:Nat)p,kf (z.map fun k=>[W k]) i j=some p->∃x,z[i]?=some x/\j=0/\p=W x:=fun i j p l=>by
   simp only[kf,bu]at l;cases m:z[i]? with
   |none=>rw[m]at l;simp at l
   |some x=>
    rw[m]at l;match j,l with
    |0,l=>exact⟨x,rfl,rfl,by simpa using l.symm⟩
  refine .sl g 0 z.length cap 1 _ (fun i _=>kz (z.getD i 0)) (by simp) a8 (fun r E=>by obtain⟨x,-,rfl⟩:=bh.1 E;rfl) (fun i j p l=>?_) fun i j p l=>?_
  .obtain⟨x,m,rfl,rfl⟩:=T i j p l
   have c5:=(aE.1 m).1;refine⟨?_,?_⟩
   .show w'.cell? ⟨g,0+i*1+0,none⟩=_
    rw[show 0+i*1+0=i by omega,bR,m]
    simp[World.cell?,K,b8 i x m]
   .show 0+i*1+0<(if g<w.heap.size then y.bX g else if g=g then z.length else 0)
    rw[aN (by omega),aG rfl]
    omega
  .obtain⟨x,m,rfl,rfl⟩:=T i j p l
   rw[bR,m];exact .int _ _
end
def W78(a:By)(b:Int)(H:(0<=(0:Int)/\(0:Int)<=(if(if(a.length:Int)<b then(a.length:Int)else b)>0 then(if(a.length:Int)<b then(a.length:Int)else b)else 0)/\(if(if(a.length:Int)<b then(a.length:Int)else b)>0 then(if(a.length:Int)<b then(a.length:Int)else b)else 0)<=(a.length:Int))/\∃c,ak 101 [vC (some (4607182418800017408,4607182418800017408)),vS (drop 0 (take (toNat (if(if(a.length:Int)<b then(a.length:Int)else b)>0 then(if(a.length:Int)<b then(a.length:Int)else b)else 0)) a))] [] [vC c] []/\Fi r h [vC c] []):
  ak 78 [vS a,vN b] [] r h:=.of func78 {an:=[(1,7,ah)]} H
def aeH(b:Cx)(a:By)(H:kQ 140 [vS a,vS [10]] [] fun c=>aI (c==0) (Fi r h [vC none] [])
 (kQ 141 [vS a,vS [10]] [] fun d=>aq ((a.length:Int)-d)/\Fi r h [vC none] [])):
  ak 101 [vC b,vS a] [] r h:=.of func101 {an:=[(1,1,ah),(4,8,ah)]} H
abbrev zN(a b c:Int)(d:Cx)(e:By)(f:Int)(g:Cx)(i:Rw)r h:=Lp f129 0 ⟨aO 56 [(1,vN a),(5,.az 0 0),(6,.az 1 0)],[],[.aH [vN b,vN c,vC d],.aH [vS e,vN f,vC g,O 4 i]]⟩ 0 r h
def aaG:df:={an:=[(6,2,aa),(6,3,aa)],mod:=[(7,2,[(0,[0,2])]),(8,4,[(0,[0,2,3])])],cut:=[(4,{bl:=[1,5,6]})]}
def aeI(b:By)(a:Int)(H:bP ((b.length:Int)>20000) (Fi r h [vL 4 [],.agg [N 9,N a,C (some (4607182418800017408,4607182418800017408))]] [])
 (zN a 0 0 (some (0,0)) b a (some (4607182418800017408,4607182418800017408)) [] r h)):
  ak 129 [vS b,vN a] [] r h:=.of func129 aaG H
def YL(c f g:Int)(i:Cx)(d:By)(a:Int)(e:Cx)(b:Rw)(H:aI (!(d==[])) (LY 178 [.az 0 0] [.aH [vS d,vN a,vC e,O 4 b]] fun p q=>aI (bif q then(decide (p>0))else false) (∃k l,ak 179 [.az 0 0,vN p] [.aH [vS d,vN a,vC e,O 4 b]] [] [.aH [vS k,vN a,vC l,O 4 b]]/\zN c f g i k a l b r h)
 (aI (!q) (Fi r h [vL 4 [],.agg [N 3,N c,C e]] []) (∃m n j o,ak 180 [.az 0 0] [.aH [vS d,vN a,vC e,O 4 b]] [vB m] [.aH [vS n,vN a,vC j,O 4 o]]/\aI (!m) (Fi r h [vL 4 [],.agg [N 3,N c,C j]] [])
 (zN c f g i n a j o r h))))
 (Fi r h [vL 4 b,.agg [N 0,N 0,C (some (0,0))]] [])):
  zN c f g i d a e b r h:=.of aaG H
def aeJ(a:By)(b:Int)(c:Cx)(d:Rw)(H:cb 243 [vS a,vS [47,47]] [] fun f=>aI f (kQ 244 [vS a,.fn (.func 245) [] []] [] fun g=>Fi r h [vN g,vB true] [.aH [vS a,vN b,vC c,O 4 d]])
 (cb 243 [vS a,vS [47,42]] [] fun i=>aI i ((0<=(2:Int)/\(2:Int)<=(a.length:Int)/\(a.length:Int)<=(a.length:Int))/\kQ 197 [vS (drop 2 (take a.length a)),vS [42,47]] [] fun e=>aq (e+2)/\aq ((e+2)+2)/\Fi r h [vN ((e+2)+2),vB (decide (e>=0))] [.aH [vS a,vN b,vC c,O 4 d]])
 (kQ 244 [vS a,.fn (.func 246) [] []] [] fun j=>Fi r h [vN j,vB true] [.aH [vS a,vN b,vC c,O 4 d]]))):
  ak 178 [.az 0 0] [.aH [vS a,vN b,vC c,O 4 d]] r h:=.of func178 {an:=[(1,4,ah),(3,4,ah),(4,5,ah)]} H
def aeK(a:By)(c:Int)(d:Cx)(e:Rw)(b:Int)(H:(0<=(0:Int)/\(0:Int)<=b/\b<=(a.length:Int))/\∃f,ak 101 [vC d,vS (drop 0 (take (toNat b) a))] [] [vC f] []/\(0<=b/\b<=(a.length:Int)/\(a.length:Int)<=(a.length:Int))/\Fi r h [] [.aH [vS (drop (toNat b) (take a.length a)),vN c,vC f,O 4 e]]):
  ak 179 [.az 0 0,vN b] [.aH [vS a,vN c,vC d,O 4 e]] r h:=.of func179 {an:=[(0,11,ah)]} H
def aeL(a:By)(b:Int)(c:Cx)(d:Rw)(H:(0<=(0:Int)/\0<(a.length:Int))/\cb 247 [vY (UInt8.toNat (List.getD a (toNat 0) 0):Int)] [] fun G=>aI G (kQ 244 [vS a,.fn (.func 248) [] []] [] fun g=>(0<=(0:Int)/\(0:Int)<=g/\g<=(a.length:Int))/\∃i j k,ak 249 [.az 0 0,vN 1,vN g,vS (drop 0 (take (toNat g) a))] [.aH [vS a,vN b,vC c,O 4 d]] [] [.aH [vS i,vN b,vC j,O 4 k]]/\Fi r h [vB true] [.aH [vS i,vN b,vC j,O 4 k]])
 (cb 250 [vY (UInt8.toNat (List.getD a (toNat 0) 0):Int)] [] fun I=>aI I (kQ 244 [vS a,.fn (.func 248) [] []] [] fun e=>(0<=(0:Int)/\(0:Int)<=e/\e<=(a.length:Int))/\∃E l,ak 251 [vS (drop 0 (take (toNat e) a))] [] [vU E,vB l] []/\aI (!l) (Fi r h [vB false] [.aH [vS a,vN b,vC c,O 4 d]])
 ((0<=(0:Int)/\(0:Int)<=e/\e<=(a.length:Int))/\∃m n o,ak 249 [.az 0 0,vN 2,vN e,vS (drop 0 (take (toNat e) a))] [.aH [vS a,vN b,vC c,O 4 d]] [] [.aH [vS m,vN b,vC n,O 4 o]]/\Fi r h [vB true] [.aH [vS m,vN b,vC n,O 4 o]]))
 (aI ((UInt8.toNat (List.getD a (toNat 0) 0):Int)==34) (∃p q s t,ak 252 [.az 0 0] [.aH [vS a,vN b,vC c,O 4 d]] [vB p] [.aH [vS q,vN b,vC s,O 4 t]]/\Fi r h [vB p] [.aH [vS q,vN b,vC s,O 4 t]])
 (aI ((UInt8.toNat (List.getD a (toNat 0) 0):Int)==35) (∃u v w x,ak 253 [.az 0 0] [.aH [vS a,vN b,vC c,O 4 d]] [vB u] [.aH [vS v,vN b,vC w,O 4 x]]/\Fi r h [vB u] [.aH [vS v,vN b,vC w,O 4 x]])
 (kQ 254 [vS a] [] fun f=>bP (f>0) ((0<=(0:Int)/\(0:Int)<=f/\f<=(a.length:Int))/\∃y z D,ak 249 [.az 0 0,vN 3,vN f,vS (drop 0 (take (toNat f) a))] [.aH [vS a,vN b,vC c,O 4 d]] [] [.aH [vS y,vN b,vC z,O 4 D]]/\Fi r h [vB (decide (f>0))] [.aH [vS y,vN b,vC z,O 4 D]])
 (Fi r h [vB (decide (f>0))] [.aH [vS a,vN b,vC c,O 4 d]])))))):
  ak 180 [.az 0 0] [.aH [vS a,vN b,vC c,O 4 d]] r h:=.of func180 {an:=[(2,1,ah),(6,1,ah),(8,6,ah),(17,4,ah)],mod:=[(4,8,[(0,[0,2,3])]),(11,8,[(0,[0,2,3])]),(14,1,[(0,[0,2,3])]),(16,1,[(0,[0,2,3])]),(19,8,[(0,[0,2,3])])]} H
def aeM(a:By)(H:aI (!(a==[])) ((0<=(0:Int)/\0<(a.length:Int))/\cb 247 [vY (UInt8.toNat (List.getD a (toNat 0) 0):Int)] [] fun b=>aI b (kQ 244 [vS a,.fn (.func 248) [] []] [] fun c=>Fi r h [vB (c==(a.length:Int))] []) (Fi r h [vB false] [])) (Fi r h [vB false] [])):
  ak 202 [vS a] [] r h:=.of func202 {an:=[(1,5,ah)]} H
def qd(a:By)(b:Int):St:=⟨aO 20 [(0,vS a),(1,.fn (.func 245) [] []),(5,vN b)],[],[]⟩
def HB:df:={cut:=[(2,{bl:=[0,1,5]})]}
def Rj(a:By)(H:Lp f244 0 (qd a 0) 0 r h):
  ak 244 [vS a,.fn (.func 245) [] []] [] r h:=.of func244 HB H
def KL(b:By)(a:Int)(H:bP (a<(b.length:Int)) ((0<=a/\a<(b.length:Int))/\cb 245 [vY (UInt8.toNat (List.getD b (toNat a) 0):Int)] [] fun c=>aI c (aq (a+1)/\Lp f244 0 (qd b (a+1)) 0 r h)
 (Fi r h [vN a] [])) (Fi r h [vN a] [])):
  Lp f244 0 (qd b a) 0 r h:=.of HB H
def qe(a:By)(b:Int):St:=⟨aO 20 [(0,vS a),(1,.fn (.func 246) [] []),(5,vN b)],[],[]⟩
def HC:df:={cut:=[(2,{bl:=[0,1,5]})]}
def Rk(a:By)(H:Lp f244 0 (qe a 0) 0 r h):
  ak 244 [vS a,.fn (.func 246) [] []] [] r h:=.of func244 HC H
def KM(b:By)(a:Int)(H:bP (a<(b.length:Int)) ((0<=a/\a<(b.length:Int))/\cb 246 [vY (UInt8.toNat (List.getD b (toNat a) 0):Int)] [] fun c=>aI c (aq (a+1)/\Lp f244 0 (qe b (a+1)) 0 r h)
 (Fi r h [vN a] [])) (Fi r h [vN a] [])):
  Lp f244 0 (qe b a) 0 r h:=.of HC H
def qf(a:By)(b:Int):St:=⟨aO 20 [(0,vS a),(1,.fn (.func 248) [] []),(5,vN b)],[],[]⟩
def HD:df:={cut:=[(2,{bl:=[0,1,5]})]}
def Rl(a:By)(H:Lp f244 0 (qf a 0) 0 r h):
  ak 244 [vS a,.fn (.func 248) [] []] [] r h:=.of func244 HD H
def KN(b:By)(a:Int)(H:bP (a<(b.length:Int)) ((0<=a/\a<(b.length:Int))/\cb 248 [vY (UInt8.toNat (List.getD b (toNat a) 0):Int)] [] fun c=>aI c (aq (a+1)/\Lp f244 0 (qf b (a+1)) 0 r h)
 (Fi r h [vN a] [])) (Fi r h [vN a] [])):
  Lp f244 0 (qf b a) 0 r h:=.of HD H
def qg(a:By)(b:Int):St:=⟨aO 20 [(0,vS a),(1,.fn (.func 317) [] []),(5,vN b)],[],[]⟩
def HE:df:={cut:=[(2,{bl:=[0,1,5]})]}
def Rm(a:By)(H:Lp f244 0 (qg a 0) 0 r h):
  ak 244 [vS a,.fn (.func 317) [] []] [] r h:=.of func244 HE H
def KO(b:By)(a:Int)(H:bP (a<(b.length:Int)) ((0<=a/\a<(b.length:Int))/\cb 317 [vY (UInt8.toNat (List.getD b (toNat a) 0):Int)] [] fun c=>aI c (aq (a+1)/\Lp f244 0 (qg b (a+1)) 0 r h)
 (Fi r h [vN a] [])) (Fi r h [vN a] [])):
  Lp f244 0 (qg b a) 0 r h:=.of HE H
def aeN(a:Int)(H:Fi r h [vB (a !=10)] []):
  ak 245 [vY a] [] r h:=.of func245 {} H
def aeO(a:Int)(H:Fi r h [vB (bif(bif(bif(a==32)then true else(a==9))then true else(a==10))then true else(a==13))] []):
  ak 246 [vY a] [] r h:=.of func246 {an:=[(1,3,aa),(1,4,aa),(1,7,aa),(1,8,aa),(1,11,aa),(1,12,aa)]} H
def aeP(a:Int)(H:Fi r h [vB (bif(bif(a==95)then true else(bif(decide (a>=97))then(decide (a<=122))else false))then true else(bif(decide (a>=65))then(decide (a<=90))else false))] []):
  ak 247 [vY a] [] r h:=.of func247 {an:=[(1,3,aa),(1,4,aa),(1,5,aa),(1,6,aa),(1,7,aa),(1,8,aa),(1,11,aa),(1,12,aa),(1,13,aa),(1,14,aa),(1,15,aa),(1,16,aa)]} H
def aeQ(a:Int)(H:cb 247 [vY a] [] fun b=>aI b (Fi r h [vB true] []) (cb 250 [vY a] [] fun c=>Fi r h [vB c] [])):
  ak 248 [vY a] [] r h:=.of func248 {an:=[(1,1,ah),(1,4,ah)]} H
abbrev tL(a:Int)(b:By)(c:Int)(d:Cx)(e:Rw)r h:=Rp f249 1 ⟨aO 31 [(0,.az 0 0),(2,vN a)],[],[.aH [vS b,vN c,vC d,O 4 e]]⟩ 1 r h
def aaH:df:={an:=[(0,4,jj),(0,10,fv),(0,14,fv),(0,20,jj)],mod:=[(1,2,[(0,[0,2])])],join:=[(1,{bl:=[0,2]})]}
def aeR(f:By)(a:Int)(b:Cx)(c:Rw)(d g:Int)(e:By)(H:((c++([[N d,S e,N a,C b]]:Rw)).length*48<=2^47/\tL g f a b (c++([[N d,S e,N a,C b]]:Rw)) r h)/\(((c++([[N d,S e,N a,C b]]:Rw)).length*48<=2^47/\tL g f a b (c++([[N d,S e,N a,C b]]:Rw)) r h)/\((c++([[N d,S e,N a,C b]]:Rw)).length*48<=2^47/\tL g f a b (c++([[N d,S e,N a,C b]]:Rw)) r h))/\(((c++([[N d,S e,N a,C b]]:Rw)).length*48<=2^47/\tL g f a b (c++([[N d,S e,N a,C b]]:Rw)) r h)/\((c++([[N d,S e,N a,C b]]:Rw)).length*48<=2^47/\tL g f a b (c++([[N d,S e,N a,C b]]:Rw)) r h))):
  ak 249 [.az 0 0,vN d,vN g,vS e] [.aH [vS f,vN a,vC b,O 4 c]] r h:=.of func249 aaH H
def YM(c:Int)(d:By)(a:Int)(e:Cx)(b:Rw)(H:∃f g,ak 179 [.az 0 0,vN c] [.aH [vS d,vN a,vC e,O 4 b]] [] [.aH [vS f,vN a,vC g,O 4 b]]/\Fi r h [] [.aH [vS f,vN a,vC g,O 4 b]]):
  tL c d a e b r h:=x7.of aaH H
def aeS(a:Int)(H:Fi r h [vB (bif(decide (a>=48))then(decide (a<=57))else false)] []):
  ak 250 [vY a] [] r h:=.of func250 {an:=[(1,3,aa),(1,4,aa)]} H
abbrev zO(a:Int)(b:By)(c d e:Int)r h:=Lp f251 0 ⟨aO 57 [(4,vU a),(5,vS b),(7,vU c),(21,vN d),(22,vN e)],[],[]⟩ 0 r h
def aaI:df:={an:=[(2,1,ah),(9,3,ah),(10,2,ah),(11,2,ah),(12,4,aa),(12,5,aa),(12,8,aa),(12,9,aa)],cut:=[(7,{bl:=[4,5,7,21,22]})]}
def aeT(b:By)(H:Wi 313 [vS b,vS [48,120]] [] fun a c=>aI c (zO 16 a 0 (a.length:Int) 0 r h)
 (zO 10 a 0 (a.length:Int) 0 r h)):
  ak 251 [vS b] [] r h:=.of func251 aaI H
def Rn(c:Int)(b:By)(d e a:Int)(H:bP (a<e) ((0<=a/\a<(b.length:Int))/\Ke 314 [vY (UInt8.toNat (List.getD b (toNat a) 0):Int)] [] fun k=>∃f g,ak 315 [vU d,vU c] [] [vU f,vU g] []/\∃i j,ak 316 [vU g,vU k,vU 0] [] [vU i,vU j] []/\aI (bif(bif(decide (k>=c))then true else(f !=0))then true else(j !=0)) (Fi r h [vU 0,vB false] [])
 (aq (a+1)/\zO c b i e (a+1) r h))
 (Fi r h [vU d,vB (!(b==[]))] [])):
  zO c b d e a r h:=.of aaI H
def aeU(a:By)(c:Int)(d:Cx)(e:Rw)(H:(0<=(1:Int)/\(1:Int)<=(a.length:Int)/\(a.length:Int)<=(a.length:Int))/\kQ 244 [vS (drop 1 (take a.length a)),.fn (.func 317) [] []] [] fun b=>aq (b+1)/\aI ((b+1)==(a.length:Int)) (Fi r h [vB false] [.aH [vS a,vN c,vC d,O 4 e]]) (aq (b+1)/\(0<=(b+1)/\(b+1)<(a.length:Int))/\aI ((UInt8.toNat (List.getD a (toNat (b+1)) 0):Int) !=34) (Fi r h [vB false] [.aH [vS a,vN c,vC d,O 4 e]])
 (aq (b+2)/\aq (b+1)/\(0<=(1:Int)/\(1:Int)<=(b+1)/\(b+1)<=(a.length:Int))/\∃f g i,ak 249 [.az 0 0,vN 4,vN (b+2),vS (drop 1 (take (toNat (b+1)) a))] [.aH [vS a,vN c,vC d,O 4 e]] [] [.aH [vS f,vN c,vC g,O 4 i]]/\Fi r h [vB true] [.aH [vS f,vN c,vC g,O 4 i]]))):
  ak 252 [.az 0 0] [.aH [vS a,vN c,vC d,O 4 e]] r h:=.of func252 {mod:=[(4,10,[(0,[0,2,3])])]} H
def aeV(a:By)(c:Int)(d:Cx)(e:Rw)(H:(0<=(1:Int)/\(1:Int)<=(a.length:Int)/\(a.length:Int)<=(a.length:Int))/\kQ 244 [vS (drop 1 (take a.length a)),.fn (.func 248) [] []] [] fun b=>aq ((1:Int)+b)/\(0<=(0:Int)/\(0:Int)<=((1:Int)+b)/\((1:Int)+b)<=(a.length:Int))/\aI (bif(!((drop 0 (take (toNat ((1:Int)+b)) a))==[35,105,110,99,108,117,100,101]))then(!((drop 0 (take (toNat ((1:Int)+b)) a))==[35,100,101,102,105,110,101]))else false) (Fi r h [vB false] [.aH [vS a,vN c,vC d,O 4 e]])
 ((0<=(0:Int)/\(0:Int)<=((1:Int)+b)/\((1:Int)+b)<=(a.length:Int))/\∃f g i,ak 249 [.az 0 0,vN 5,vN ((1:Int)+b),vS (drop 0 (take (toNat ((1:Int)+b)) a))] [.aH [vS a,vN c,vC d,O 4 e]] [] [.aH [vS f,vN c,vC g,O 4 i]]/\Fi r h [vB true] [.aH [vS f,vN c,vC g,O 4 i]])):
  ak 253 [.az 0 0] [.aH [vS a,vN c,vC d,O 4 e]] r h:=.of func253 {an:=[(3,3,aa),(3,4,aa)],mod:=[(5,8,[(0,[0,2,3])])]} H
def aeW(a:By)(H:bP ((a.length:Int)>1) ((0<=(0:Int)/\(0:Int)<=2/\(2:Int)<=(a.length:Int))/\cb 203 [vL 1 [[S [38,38]],[S [124,124]],[S [61,61]],[S [33,61]],[S [60,61]],[S [62,61]]],vS (drop 0 (take 2 a))] [] fun b=>aI b (Fi r h [vN 2] [])
 ((0<=(0:Int)/\0<(a.length:Int))/\kQ 318 [vS [123,125,40,41,44,33,38,124,60,62],vY (UInt8.toNat (List.getD a (toNat 0) 0):Int)] [] fun c=>bP (c>=0) (Fi r h [vN 1] [])
 (Fi r h [vN 0] []))) ((0<=(0:Int)/\0<(a.length:Int))/\kQ 318 [vS [123,125,40,41,44,33,38,124,60,62],vY (UInt8.toNat (List.getD a (toNat 0) 0):Int)] [] fun d=>bP (d>=0) (Fi r h [vN 1] [])
 (Fi r h [vN 0] []))):
  ak 254 [vS a] [] r h:=.of func254 {an:=[(1,7,ah),(3,2,ah)]} H
def aeX(a:Int)(H:cb 250 [vY a] [] fun b=>aI b (Fi r h [vU (wrap .u64 (wrap .u8 (a-48)))] [])
 (aI (bif(decide (a>=97))then(decide (a<=102))else false) (Fi r h [vU (wrap .u64 ((wrap .u64 (wrap .u8 (a-97)))+10))] [])
 (aI (bif(decide (a>=65))then(decide (a<=70))else false) (Fi r h [vU (wrap .u64 ((wrap .u64 (wrap .u8 (a-65)))+10))] [])
 (Fi r h [vU 16] [])))):
  ak 314 [vY a] [] r h:=.of func314 {an:=[(1,1,ah),(3,3,aa),(3,4,aa),(5,3,aa),(5,4,aa)]} H
def aeY(a:Int)(H:Fi r h [vB (bif(a !=34)then(a !=10)else false)] []):
  ak 317 [vY a] [] r h:=.of func317 {an:=[(1,3,aa),(1,4,aa)]} H
def Ro(s:By)(l:List By)(d:l.length<=2^40):ak 267 [vL 1 (aJ l),vS s] [] [vN (idx (s == ·) l)] []:=
 ad7 _ _ (eZ (Hd:=EM _ _ _) d fun i r h b c=>Yk _ _ _ _ (fg (l:=l) (by simp[aJ]) (fun x a=>⟨x,by omega,aP a,b x a⟩) c))
def gh(s:By)(l:List By):Bool:=l.any (s == ·)
def UW(s:By)(l:List By)(a:l.length<=2^40):ak 203 [vL 1 (aJ l),vS s] [] [vB (gh s l)] []:=
 ad5 _ _ ⟨_,Ro s l a,aZ (by rw[mG];rfl)⟩
def dj(c:Int):Bool:=bif(bif(c==95)then true else(bif(decide (c>=97))then(decide (c<=122))else false))then true else(bif(decide (c>=65))then(decide (c<=90))else false)
def gQ(c:Int):Bool:=bif(decide (c>=48))then(decide (c<=57))else false
def bS(c:Int):Bool:=bif dj c then true else gQ c
def gy(c:Int):Bool:=bif(bif(bif(c==32)then true else(c==9))then true else(c==10))then true else(c==13)
def Mj(c:Int):Bool:=c !=10
def o3(c:Int):Bool:=bif(c !=34)then(c !=10)else false
def YN(c:Int):ak 247 [vY c] [] [vB (dj c)] []:=aeP c fi
def YO(c:Int):ak 250 [vY c] [] [vB (gQ c)] []:=aeS c fi
def aeZ(c:Int):ak 248 [vY c] [] [vB (bS c)] []:=
 aeQ c ⟨_,YN c,ad (fun h=>aZ (by rw[bS,h];rfl)) fun h=>⟨_,YO c,aZ (by rw[bS,h];rfl)⟩⟩
def ae0(c:Int):ak 246 [vY c] [] [vB (gy c)] []:=aeO c fi
def ae1(c:Int):ak 245 [vY c] [] [vB (Mj c)] []:=aeN c fi
def ae2(c:Int):ak 317 [vY c] [] [vB (o3 c)] []:=aeY c fi
def runN(p:Int->Bool):By->Nat
 |[]=>0
 |c::t=>bif p c.toNat then runN p t+1 else 0
def mH(p:Int->Bool):∀s,runN p s<=s.length
 |[]=>ar _
 |c::t=>by
  have:=mH p t;unfold runN;cases p c.toNat<;>simp;omega
def byte_at{s:By}{i:Nat}(h:s[i]?=some c):(UInt8.toNat (List.getD s (toNat (i:Int)) 0):Int)=c.toNat:=by
 rw[toNat_cast,bR,h];rfl
def vj{Hd:Int->St}(s:By)(l:s.length<=2^40)(g:∀c:Int,ak q [vY c] [] [vB (p c)] [])(step:∀(n:Int)(r:List AV)(h:List Bx),aI (decide (n<(s.length:Int))) ((0<=n/\n<(s.length:Int))/\∃b,ak q [vY (UInt8.toNat (List.getD s (toNat n) 0):Int)] [] [vB b] []/\aI b (aq (n+1)/\mN fn d (Hd (n+1)) 0 r h) (Fi r h [vN n] [])) (Fi r h [vN n] [])->mN fn d (Hd n) 0 r h):
  mN fn d (Hd 0) 0 [vN (runN p s)] []:=by
 have key:∀(t:By)(i:Nat),s.drop i=t->mN fn d (Hd i) 0 [vN ((i+runN p t:Nat):Int)] []:=by
  intro t;induction t with
  |nil=>intro i a;exact step _ _ _ (aQ rfl a (aZ (by simp[runN])))
  |cons c t j=>
   intro i a;obtain⟨e,f,k⟩:=bM a;refine step _ _ _ (aL rfl a ⟨⟨by omega,by omega⟩,_,g _,?_⟩)
   rw[byte_at e];unfold runN;refine ad (fun h=>⟨au,?_⟩) fun h=>aZ (by rw[h];simp)
   rw[h];have:=j (i+1) f;rw[show i+1+runN p t=i+(runN p t+1) by omega]at this
   exact this
 have:=key s 0 rfl;rw[cv]at this;exact this
def Rq(s:By)(a:s.length<=2^40):ak 244 [vS s,.fn (.func 245) [] []] [] [vN (runN Mj s)] []:=Rj s (vj (Hd:=qd s) s a ae1 fun n r h H=>KL s n H)
def Rr(s:By)(a:s.length<=2^40):ak 244 [vS s,.fn (.func 246) [] []] [] [vN (runN gy s)] []:=Rk s (vj (Hd:=qe s) s a ae0 fun n r h H=>KM s n H)
def vk(s:By)(a:s.length<=2^40):ak 244 [vS s,.fn (.func 248) [] []] [] [vN (runN bS s)] []:=Rl s (vj (Hd:=qf s) s a aeZ fun n r h H=>KN s n H)
def Rs(s:By)(a:s.length<=2^40):ak 244 [vS s,.fn (.func 317) [] []] [] [vN (runN o3 s)] []:=Rm s (vj (Hd:=qg s) s a ae2 fun n r h H=>KO s n H)
def mo(s:By):Bool:=bif s==[]then false else bif dj (UInt8.toNat (s.getD 0 0):Int)then((runN bS s:Int)==(s.length:Int))else false
def ae3(s:By)(c:s.length<=2^40):ak 202 [vS s] [] [vB (mo s)] []:=by
 refine aeM s (ad (fun h=>?_) fun h=>aZ (by rw[mo];simp at h;simp[h]))
 have b:(s==[])=false:=by simpa using h
 have d:0<s.length:=by cases s with|nil=>simp at h|cons=>simp
 refine⟨⟨by omega,by omega⟩,_,YN _,ad (fun a=>⟨_,vk s c,aZ ?_⟩) fun a=>aZ ?_⟩
 .rw[mo,b,show toNat 0=0 from rfl]at*; rw[show dj (UInt8.toNat (s.getD 0 0):Int)=true from a];rfl
 .rw[mo,b,show toNat 0=0 from rfl]at*; rw[show dj (UInt8.toNat (s.getD 0 0):Int)=false from a];rfl
def eR(c:Int):Int:=bif gQ c then wrap .u64 (wrap .u8 (c-48))else
 bif(bif(decide (c>=97))then(decide (c<=102))else false)then wrap .u64 ((wrap .u64 (wrap .u8 (c-97)))+10)else
 bif(bif(decide (c>=65))then(decide (c<=70))else false)then wrap .u64 ((wrap .u64 (wrap .u8 (c-65)))+10)else 16
def ae4(c:Int):ak 314 [vY c] [] [vU (eR c)] []:=by
 refine aeX c ⟨_,YO c,ad (fun h=>aZ (by rw[eR,h];rfl)) fun h=>ad (fun a=>aZ (by rw[eR,h,a];rfl)) fun a=>ad (fun b=>aZ (by rw[eR,h,a,b];rfl)) fun b=>aZ (by rw[eR,h,a,b];rfl)⟩
def zP{k:IntKind}(a:k.signed=false)(n:Int):0<=k.wrap n/\k.wrap n<2^k.bits:=by
 have b:(0:Int)<2^k.bits:=oL (by decide)
 unfold wrap;simp only[a];exact⟨mX _ (by omega),pA _ b⟩
def E1(c:Int):0<=eR c/\eR c<18446744073709551616:=by
 have a:∀n,0<=wrap .u64 n/\wrap .u64 n<18446744073709551616:=fun n=>zP rfl n
 unfold eR;cases gQ c<;>simp only[ai,af]
 .cases(bif(decide (c>=97))then(decide (c<=102))else false)<;>simp only[ai,af]
  .cases(bif(decide (c>=65))then(decide (c<=70))else false)<;>simp only[ai,af]
   .omega
   .exact a _
  .exact a _
 .exact a _
def o4(a:Int):By->Int->Option Int
 |[],n=>some n
 |c::t,n=>bif(bif decide (eR c.toNat>=a)then true else decide (n*a+eR c.toNat>=18446744073709551616))then none else o4 a t (n*a+eR c.toNat)
def o5(s:By):Int×Bool:=
 let a:=List.isPrefixOf [48,120] s
 let b:=bif a then s.drop 2 else s
 match o4 (bif a then 16 else 10) b 0 with
 |none=>(0,false)
 |some n=>(n,!(b==[]))
def YP(a:Int)(p:a=16\/a=10)(s:By)(u:s.length<=2^40):∀(t:By)(i:Nat)(n:Int),s.drop i=t->0<=n/\n<18446744073709551616 ->
  zO a s n (s.length:Int) i (match o4 a t n with|none=>[vU 0,vB false]|some m=>[vU m,vB (!(s==[]))]) []
 |[],i,n,h,d=>Rn _ _ _ _ _ (aQ rfl h fi)
 |c::t,i,n,h,d=>by
  obtain⟨k,l,y⟩:=bM h;have w:=E1 c.toNat;have q:0<=n*a%18446744073709551616/\n*a%18446744073709551616<18446744073709551616:=⟨mX _ (by decide),pA _ (by decide)⟩
  have z:0<=n*a:=uw d.1 (by omega)
  refine Rn _ _ _ _ _ (aL rfl h ⟨⟨by omega,by omega⟩,_,by rw[byte_at k];exact ae4 _,_,_,adS _ _ d (by omega),_,_,adT _ _ q w,?_⟩)
  have e:(bif(bif(decide (eR c.toNat>=a))then true else(n*a/18446744073709551616 !=0))then true else((n*a%18446744073709551616+eR c.toNat)/18446744073709551616 !=0))=(bif decide (eR c.toNat>=a)then true else decide (n*a+eR c.toNat>=18446744073709551616)):=by
   cases decide (eR c.toNat>=a)with
   |true=>rfl
   |false=>
    simp only[af];generalize n*a=x at*;generalize eR c.toNat=v at*;by_cases f:x/18446744073709551616=0
    .rw[f]
     simp only[bne_self_eq_false,af];by_cases g:(x%18446744073709551616+v)/18446744073709551616=0
     .rw[g,bB (by omega)];rfl
     .rw[bw (by omega)];simpa using g
    .rw[bw (by omega)]
     have:(x/18446744073709551616 !=0)=true:=by simpa using f
     rw[this];rfl
  rw[e];unfold o4;refine ad (fun b=>aZ (by rw[b];rfl)) fun b=>⟨au,?_⟩
  rw[b];have o:n*a+eR c.toNat<18446744073709551616:=by
   have:decide (n*a+eR c.toNat>=18446744073709551616)=false:=by
    revert b
    cases decide (eR c.toNat>=a)<;>simp
   have:=bI this;omega
  have j:(n*a%18446744073709551616+eR c.toNat)%18446744073709551616=n*a+eR c.toNat:=by
   generalize n*a=x at*;omega
  rw[j];exact YP a p s u t (i+1) _ l ⟨by omega,o⟩
def YQ(s:By)(a:s.length<=2^40):ak 251 [vS s] [] [vU (o5 s).1,vB (o5 s).2] []:=by
 refine aeT s ⟨_,_,adO s [48,120],ad (fun h=>?_) fun h=>?_⟩
 .have:=YP 16 (.inl rfl) (s.drop 2) (by simp;omega) _ 0 0 rfl (by omega)
  simp only[o5,h,ai]at this⊢;simp only[fK]at this;split at this<;>exact this
 .have:=YP 10 (.inr rfl) s a _ 0 0 rfl (by omega)
  simp only[o5,h,af]at this⊢;simp only[fK]at this;split at this<;>exact this
def rN(c:UInt8):∀s,-1<=jW c s/\jW c s<s.length
 |[]=>by simp[jW]
 |d::t=>by
  have:=rN c t;unfold jW;simp only[aD];cases h:decide (jW c t>=0)<;>simp only[ai,af]
  .cases d==c<;>simp only[ai,af]<;>omega
  .omega
def aaJ(p:Cx)(s:By)(a:s.length<=2^40):ak 101 [vC p,vS s] [] [vC none] []:=by
 have:=rN 10 s;exact aeH p s ⟨_,adQ s 10 a,ad (fun _=>fi) fun _=>⟨_,aas s 10 a,au,fi⟩⟩
def C78(s:By)(b:s.length<=2^40):ak 78 [vS s,vN s.length] [] [vC none] []:=by
 have a:(if(if(s.length:Int)<(s.length:Int)then(s.length:Int)else s.length)>0 then(if(s.length:Int)<(s.length:Int)then(s.length:Int)else s.length)else 0)=(s.length:Int):=by
  simp only[Int.lt_irrefl,if_false];split<;>omega
 refine W78 s _ ?_;rw[a];exact⟨⟨by omega,by omega,by omega⟩,_,aaJ _ _ (by simp;omega),fi⟩
abbrev rd(s:By)(c:Int)(a:Cx)(b:List Tok):Bx:=.aH [vS s,vN c,vC a,O 4 (b.map Tok.row)]
def aaK(s:By)(a:Int)(b:Cx)(c:List Tok)(n:Nat)(d:n<=s.length)(e:s.length<=2^40):ak 179 [.az 0 0,vN n] [rd s a b c] [] [rd (s.drop n) a none c]:=by
 refine aeK s a b _ n ⟨⟨by omega,by omega,by omega⟩,_,aaJ _ _ (by simp;omega),⟨by omega,by omega,by omega⟩,bE rfl ?_⟩
 simp[dE]
def Rt(s:By)(a:Int)(b:Cx)(c:List Tok)(kind:Int)(n:Nat)(d:By)(f:n<=s.length)(g:s.length<=2^40)(i:c.length<=2^40):
  ak 249 [.az 0 0,vN kind,vN n,vS d] [rd s a b c] [] [rd (s.drop n) a none (c++[⟨kind,d,a,b⟩])]:=by
 have e:(c.map Tok.row++([[N kind,S d,N a,C b]]:Rw))=(c++[(⟨kind,d,a,b⟩:Tok)]).map Tok.row:=by simp[Tok.row]
 have key:(c.map Tok.row++([[N kind,S d,N a,C b]]:Rw)).length*48<=2^47/\tL n s a b (c.map Tok.row++([[N kind,S d,N a,C b]]:Rw)) [] [rd (s.drop n) a none (c++[⟨kind,d,a,b⟩])]:=by
  refine⟨by simp;omega,?_⟩
  rw[e];exact YM _ _ _ _ _ ⟨_,_,aaK s a b _ n f g,fi⟩
 exact aeR s a b _ kind n d ⟨key,⟨key,key⟩,key,key⟩
def ee(s:By):Int×Bool:=
 bif List.isPrefixOf [47,47] s then((runN Mj s:Int),true)else
 bif List.isPrefixOf [47,42] s then(jk [42,47] (s.drop 2)+2+2,decide (jk [42,47] (s.drop 2)>=0))else
 ((runN gy s:Int),true)
def qh(p:By):∀s,-1<=jk p s/\jk p s<=s.length/\(0<=jk p s->jk p s+p.length<=s.length)
 |[]=>by
  unfold jk;cases p<;>simp
 |c::t=>by
  have:=qh p t;unfold jk;simp only[aD];cases h:p.isPrefixOf (c::t)<;>simp only[ai,af]
  .cases h:decide (jk p t<0)<;>simp only[ai,af]
   .have:=bI h;omega
   .omega
  .have:p.length<=(c::t).length:=D2 (D6.1 h)
   simp at this;omega
def ae5(s:By)(c:Int)(b:Cx)(f:List Tok)(j:s.length<=2^31):ak 178 [.az 0 0] [rd s c b f] [vN (ee s).1,vB (ee s).2] [rd s c b f]:=by
 have d:s.length<=2^40:=by omega
 refine aeJ s c b _ ⟨_,Yf _ _,ad (fun h=>⟨_,Rq s d,aZ (by rw[ee,h];rfl)⟩) fun h=>⟨_,Yf _ _,ad (fun a=>?_) fun a=>⟨_,Rr s d,aZ (by rw[ee,h,a];rfl)⟩⟩⟩
 have i:2<=s.length:=by simpa using D2 (D6.1 a)
 have e:drop 2 (take s.length s)=s.drop 2:=by rw[dE (ar _)]
 rw[e];have:=qh [42,47] (s.drop 2);have g:(s.drop 2).length<=2^31:=by simp;omega
 exact⟨⟨by omega,by omega,by omega⟩,_,adR _ _ g (by decide),au,au,aZ (by rw[ee,h,a];rfl)⟩
def OB(s:By)(h:(ee s).2=true):0<=(ee s).1/\(ee s).1<=s.length:=by
 unfold ee at h⊢;revert h
 cases h1:List.isPrefixOf [47,47] s<;>simp only[ai,af]
 .cases h2:List.isPrefixOf [47,42] s<;>simp only[ai,af]
  .intro _;have:=mH gy s;omega
  .intro h
   have h:=aU h;have:=(qh [42,47] (s.drop 2)).2.2 h;have a:2<=s.length:=by simpa using D2 (D6.1 h2)
   simp at this;omega
 .intro _;have:=mH Mj s;omega
def lk:List By:=[[38,38],[124,124],[61,61],[33,61],[60,61],[62,61]]
def rO:By:=[123,125,40,41,44,33,38,124,60,62]
def jX(s:By):Nat:=bif(bif decide ((s.length:Int)>1)then gh (s.take 2) lk else false)then 2 else bif decide (indexB (UInt8.toNat (s.getD 0 0):Int) rO>=0)then 1 else 0
def ae6(s:By)(b:0<s.length):ak 254 [vS s] [] [vN (jX s)] []:=by
 have one:(0<=(0:Int)/\0<(s.length:Int))/\∃i,ak 318 [vS [123,125,40,41,44,33,38,124,60,62],vY (UInt8.toNat (List.getD s (toNat 0) 0):Int)] [] [vN i] []/\aI (decide (i>=0)) (Fi [vN (bif decide (indexB (UInt8.toNat (s.getD 0 0):Int) rO>=0)then(1:Nat)else 0:Nat)] [] [vN 1] []) (Fi [vN (bif decide (indexB (UInt8.toNat (s.getD 0 0):Int) rO>=0)then(1:Nat)else 0:Nat)] [] [vN 0] []):=
  ⟨⟨by omega,by omega⟩,_,adP _ _ (by decide),ad (fun h=>aZ (by rw[show decide (indexB (UInt8.toNat (s.getD 0 0):Int) rO>=0)=true from h];rfl)) fun h=>aZ (by rw[show decide (indexB (UInt8.toNat (s.getD 0 0):Int) rO>=0)=false from h];rfl)⟩
 refine aeW s (ad (fun h=>?_) fun h=>?_)
 .have c:=aU h
  refine⟨⟨by omega,by omega,by omega⟩,_,UW (drop 0 (take 2 s)) lk (by decide),ad (fun a=>?_) fun a=>?_⟩
  .exact aZ (by rw[jX,h,show gh (s.take 2) lk=true from a];rfl)
  .rw[jX,h,show gh (s.take 2) lk=false from a]
   exact one
 .rw[jX,h]
  exact one
def HF(s:By)(a:0<s.length):jX s<=s.length:=by
 unfold jX;cases h:decide ((s.length:Int)>1)with
 |true=>
  have:=aU h;cases gh (s.take 2) lk<;>simp only[ai,af]
  .cases decide (indexB (UInt8.toNat (s.getD 0 0):Int) rO>=0)<;>simp only[ai,af]<;>omega
  .omega
 |false=>cases decide (indexB (UInt8.toNat (s.getD 0 0):Int) rO>=0)<;>simp only[ai,af]<;>omega
def o6(s:By):Option Nat:=
 bif(bif((runN o3 (s.drop 1):Int)+1==(s.length:Int))then true else((UInt8.toNat (s.getD (runN o3 (s.drop 1)+1) 0):Int) !=34))then none else some (runN o3 (s.drop 1))
def ju:By:=[35,105,110,99,108,117,100,101]
def bW:By:=[35,100,101,102,105,110,101]
def qF(s:By):Option Nat:=
 bif(bif(!((s.take (1+runN bS (s.drop 1)))==ju))then(!((s.take (1+runN bS (s.drop 1)))==bW))else false)then none else some (1+runN bS (s.drop 1))
def Ml(s:By)(a:0<s.length):drop 1 (take s.length s)=s.drop 1/\(s.drop 1).length+1=s.length:=by
 rw[dE (ar _)];simp;omega
def ae7(s:By)(a:Int)(b:Cx)(c:List Tok)(f:0<s.length)(j:s.length<=2^40)(g:c.length<=2^40):
  ak 252 [.az 0 0] [rd s a b c] [vB (o6 s).isSome] [match o6 s with|none=>rd s a b c|some m=>rd (s.drop (m+2)) a none (c++[⟨4,(s.take (m+1)).drop 1,a,b⟩])]:=by
 obtain⟨e,k⟩:=Ml s f;have l:=mH o3 (s.drop 1);refine aeU s a b _ ⟨⟨by omega,by omega,by omega⟩,_,by rw[e];exact Rs _ (by omega),au,ad (fun h=>?_) fun h=>⟨au,⟨by omega,?_⟩,ad (fun d=>?_) fun d=>?_⟩⟩
 .have:o6 s=none:=by unfold o6;simp only[h,ai]
  rw[this];exact fi
 .have:=gV h
  omega
 .have:o6 s=none:=by
   unfold o6;simp only[h,af];rw[show((UInt8.toNat (s.getD (runN o3 (s.drop 1)+1) 0):Int) !=34)=true from d]
   rfl
  rw[this];exact fi
 .have i:o6 s=some (runN o3 (s.drop 1)):=by
   unfold o6;simp only[h,af];rw[show((UInt8.toNat (s.getD (runN o3 (s.drop 1)+1) 0):Int) !=34)=false from d]
   rfl
  have n:=gV h;rw[i];exact⟨au,au,⟨by omega,by omega,by omega⟩,_,_,_,Rt s a b c 4 (runN o3 (s.drop 1)+2) _ (by omega) j g,fi⟩
def ae8(s:By)(a:Int)(b:Cx)(c:List Tok)(f:0<s.length)(i:s.length<=2^40)(g:c.length<=2^40):
  ak 253 [.az 0 0] [rd s a b c] [vB (qF s).isSome] [match qF s with|none=>rd s a b c|some n=>rd (s.drop n) a none (c++[⟨5,s.take n,a,b⟩])]:=by
 obtain⟨d,j⟩:=Ml s f;have k:=mH bS (s.drop 1);have e:((1:Int)+(runN bS (s.drop 1):Int))=((1+runN bS (s.drop 1):Nat):Int):=by omega
 refine aeV s a b _ ⟨⟨by omega,by omega,by omega⟩,_,by rw[d];exact vk _ (by omega),au,⟨by omega,by omega,by omega⟩,?_⟩
 rw[e];simp only[toNat_cast,fK];refine ad (fun h=>?_) fun h=>?_
 .have:qF s=none:=by unfold qF;rw[show(bif(!((s.take (1+runN bS (s.drop 1)))==ju))then(!((s.take (1+runN bS (s.drop 1)))==bW))else false)=true from h];rfl
  rw[this];exact fi
 .have:qF s=some (1+runN bS (s.drop 1)):=by unfold qF;rw[show(bif(!((s.take (1+runN bS (s.drop 1)))==ju))then(!((s.take (1+runN bS (s.drop 1)))==bW))else false)=false from h];rfl
  rw[this];exact⟨⟨by omega,by omega,by omega⟩,_,_,_,Rt s a b c 5 _ _ (by omega) i g,fi⟩
def jM(s:By):Option (Int×Nat×By):=
 bif dj (UInt8.toNat (s.getD 0 0):Int)then some (1,runN bS s,s.take (runN bS s))else
 bif gQ (UInt8.toNat (s.getD 0 0):Int)then(bif !(o5 (s.take (runN bS s))).2 then none else some (2,runN bS s,s.take (runN bS s)))else
 bif((UInt8.toNat (s.getD 0 0):Int)==34)then(o6 s).map fun m=>(4,m+2,(s.take (m+1)).drop 1)else
 bif((UInt8.toNat (s.getD 0 0):Int)==35)then(qF s).map fun n=>(5,n,s.take n)else
 bif decide ((jX s:Int)>0)then some (3,jX s,s.take (jX s))else none
def ae9(s:By)(a:Int)(d:Cx)(f:List Tok)(o:0<s.length)(i:s.length<=2^40)(l:f.length<=2^40):
  ak 180 [.az 0 0] [rd s a d f] [vB (jM s).isSome] [match jM s with|none=>rd s a d f|some (k,n,t)=>rd (s.drop n) a none (f++[⟨k,t,a,d⟩])]:=by
 have q:=mH bS s;have u:=HF s o;refine aeL s a d _ ⟨⟨by omega,by omega⟩,_,YN _,ad (fun h=>?_) fun h=>⟨_,YO _,ad (fun g=>?_) fun g=>ad (fun b=>?_) fun b=>ad (fun p=>?_) fun p=>?_⟩⟩<;>rw[show toNat 0=0 from rfl]at*
 .have:jM s=some (1,runN bS s,s.take (runN bS s)):=by unfold jM;rw[h];rfl
  rw[this];exact⟨_,vk s i,⟨by omega,by omega,by omega⟩,_,_,_,Rt s a d f 1 _ _ q i l,fi⟩
 .refine⟨_,vk s i,⟨by omega,by omega,by omega⟩,_,_,YQ _ (by simp;omega),ad (fun b=>?_) fun b=>?_⟩
  .have:jM s=none:=by unfold jM;rw[h,g,show(!(o5 (s.take (runN bS s))).2)=true from b];rfl
   rw[this];exact fi
  .have:jM s=some (2,runN bS s,s.take (runN bS s)):=by unfold jM;rw[h,g,show(!(o5 (s.take (runN bS s))).2)=false from b];rfl
   rw[this];exact⟨⟨by omega,by omega,by omega⟩,_,_,_,Rt s a d f 2 _ _ q i l,fi⟩
 .have e:jM s=(o6 s).map fun m=>(4,m+2,(s.take (m+1)).drop 1):=by unfold jM;rw[h,g,b];rfl
  have c:=ae7 s a d f o i l;rw[e];cases hq:o6 s<;>rw[hq]at c<;>exact⟨_,_,_,_,c,fi⟩
 .have e:jM s=(qF s).map fun n=>(5,n,s.take n):=by unfold jM;rw[h,g,b,p];rfl
  have c:=ae8 s a d f o i l;rw[e];cases hq:qF s<;>rw[hq]at c<;>exact⟨_,_,_,_,c,fi⟩
 .refine⟨_,ae6 s o,ad (fun j=>?_) fun j=>?_⟩
  .have:jM s=some (3,jX s,s.take (jX s)):=by unfold jM;rw[h,g,b,p,j];rfl
   rw[this];exact⟨⟨by omega,by omega,by omega⟩,_,_,_,Rt s a d f 3 _ _ u i l,aZ (by rw[j];rfl)⟩
  .have:jM s=none:=by unfold jM;rw[h,g,b,p,j];rfl
   rw[this];exact aZ (by rw[j];rfl)
def HG(a:0<s.length)(h:p (UInt8.toNat (s.getD 0 0):Int)=true):0<runN p s:=by
 cases s with
 |nil=>simp at a
 |cons c t=>
  have h:p c.toNat=true:=h;unfold runN;rw[h];exact Nat.succ_pos _
def Ru(a:0<s.length)(h:o6 s=some m):m+2<=s.length:=by
 unfold o6 at h;have d:=mH o3 (s.drop 1);obtain⟨b,c⟩:=Ml s a;cases h1:((runN o3 (s.drop 1):Int)+1==(s.length:Int))<;>rw[h1]at h<;>simp only[ai,af]at h
 .have:=gV h1
  cases h2:((UInt8.toNat (s.getD (runN o3 (s.drop 1)+1) 0):Int) !=34)<;>rw[h2]at h<;>simp only[ai,af]at h
  .obtain rfl:=ax h;omega
  .simp at h
 .simp at h
def E2(b:0<s.length)(h:jM s=some (k,n,t)):0<n/\n<=s.length:=by
 have g:=mH bS s;have i:=HF s b;have inner:∀c,dj c=true\/gQ c=true->bS c=true:=by
  intro c h;unfold bS;cases hl:dj c with
  |true=>rfl
  |false=>rcases h with h|h;rw[hl]at h;simp at h;exact h
 unfold jM at h;cases h1:dj (UInt8.toNat (s.getD 0 0):Int)<;>rw[h1]at h<;>simp only[ai,af]at h
 .cases h2:gQ (UInt8.toNat (s.getD 0 0):Int)<;>rw[h2]at h<;>simp only[ai,af]at h
  .cases h3:((UInt8.toNat (s.getD 0 0):Int)==34)<;>rw[h3]at h<;>simp only[ai,af]at h
   .cases h4:((UInt8.toNat (s.getD 0 0):Int)==35)<;>rw[h4]at h<;>simp only[ai,af]at h
    .cases h5:decide ((jX s:Int)>0)<;>rw[h5]at h<;>simp only[ai,af]at h
     .simp at h
     .have:=aU h5
      simp only[ay,aA]at h;omega
    .obtain⟨m,a,e⟩:=bc.1 h
     simp only[aA]at e;unfold qF at a;obtain⟨d,f⟩:=Ml s b;have:=mH bS (s.drop 1);cases h6:(bif(!((s.take (1+runN bS (s.drop 1)))==ju))then(!((s.take (1+runN bS (s.drop 1)))==bW))else false)<;>rw[h6]at a<;>simp only[ai,af]at a
     .simp only[ay]at a;omega
     .simp at a
   .obtain⟨m,a,e⟩:=bc.1 h
    simp only[aA]at e;have:=Ru b a;omega
  .have:=HG b (inner _ (.inr h2))
   cases h3:(!(o5 (s.take (runN bS s))).2)<;>rw[h3]at h<;>simp only[ai,af]at h
   .simp only[ay,aA]at h;omega
   .simp at h
 .have:=HG b (inner _ (.inl h1))
  simp only[ay,aA]at h;omega
def dm(c:Int):Nat->By->Cx->List Tok->Except Cx (List Tok)
 |0,_,_,a=>.ok a
 |f+1,s,b,a=>bif s==[]then .ok a else
  bif(bif(ee s).2 then decide ((ee s).1>0)else false)then dm c f (s.drop (ee s).1.toNat) none a else
  bif !(ee s).2 then .error b else
  match jM s with
  |none=>.error b
  |some (k,n,t)=>dm c f (s.drop n) none (a++[⟨k,t,c,b⟩])
abbrev xA:Cx:=some (4607182418800017408,4607182418800017408)
abbrev E3:Cx:=some (0,0)
def jN(s:By)(a:Int):Except (Int×Cx) (List Tok):=
 bif decide ((s.length:Int)>20000)then .error (9,xA)else
 match dm a (s.length+1) s xA []with
 |.ok l=>.ok l
 |.error c=>.error (3,c)
def Rv(a:Int):Except (Int×Cx) (List Tok)->List AV
 |.ok l=>[vL 4 (l.map Tok.row),.agg [N 0,N 0,C E3]]
 |.error (e,c)=>[vL 4 [],.agg [N e,N a,C c]]
def YR(a c p:Int)(q:Cx):∀(f:Nat)(s:By)(d:Cx)(b:List Tok),s.length<f->b.length+s.length<=2^31 ->
  zN a c p q s a d (b.map Tok.row) (Rv a (match dm a f s d b with|.ok l=>.ok l|.error c=>.error (3,c))) []
 |0,s,d,b,w,y=>by omega
 |f+1,s,d,b,w,y=>by
  refine YL _ _ _ _ _ _ _ _ (ad (fun h=>?_) fun h=>?_)
  .have m:(s==[])=false:=by simpa using h
   have v:0<s.length:=by cases s with|nil=>simp at h|cons=>simp
   refine⟨_,_,ae5 s a d b (by omega),ad (fun i=>?_) fun i=>ad (fun j=>?_) fun j=>?_⟩
   .have u:(ee s).2=true:=by revert i;cases(ee s).2<;>simp
    rw[u]at i;have G:=aU (show decide ((ee s).1>0)=true from i)
    have E:=OB s u;have e:(ee s).1=(((ee s).1.toNat:Nat):Int):=by omega
    have g:dm a (f+1) s d b=dm a f (s.drop (ee s).1.toNat) none b:=by
     conv=>lhs;unfold dm
     rw[m,u,show decide ((ee s).1>0)=true from i];rfl
    rw[g,e];exact⟨_,_,aaK s a d b _ (by omega) (by omega),YR a c p q f _ _ _ (by simp;omega) (by simp;omega)⟩
   .have g:dm a (f+1) s d b = .error d:=by
     conv=>lhs;unfold dm
     rw[m,i,j];rfl
    rw[g];exact fi
   .have o:=ae9 s a d b v (by omega) (by omega)
    cases hq:jM s with
    |none=>
     rw[hq]at o;have g:dm a (f+1) s d b = .error d:=by
      conv=>lhs;unfold dm
      rw[m,i,j,hq];rfl
     rw[g];exact⟨_,_,_,_,o,fi⟩
    |some x=>
     obtain⟨k,n,t⟩:=x;rw[hq]at o;obtain⟨r,D⟩:=E2 v hq;have g:dm a (f+1) s d b=dm a f (s.drop n) none (b++[⟨k,t,a,d⟩]):=by
      conv=>lhs;unfold dm
      rw[m,i,j,hq];rfl
     rw[g];exact⟨_,_,_,_,o,YR a c p q f _ _ _ (by simp;omega) (by simp;omega)⟩
  .have z:s=[]:=by simpa using h
   subst z;have g:dm a (f+1) [] d b = .ok b:=by unfold dm;rfl
   rw[g];exact fi
def afa(s:By)(a:Int)(b:s.length<=2^40):ak 129 [vS s,vN a] [] (Rv a (jN s a)) []:=by
 refine aeI s a (ad (fun h=>?_) fun h=>?_)
 .have:jN s a = .error (9,xA):=by unfold jN;rw[h];rfl
  rw[this];exact fi
 .have:jN s a=(match dm a (s.length+1) s xA []with|.ok l=>.ok l|.error c=>.error (3,c)):=by unfold jN;rw[h];rfl
  rw[this];exact YR a 0 0 (some (0,0)) (s.length+1) s xA [] (by omega) (by have:=bI h;simp;omega)
def rP(c:Int):∀(f:Nat)(s:By)(b:Cx)(a l:List Tok),dm c f s b a = .ok l->l.length<=a.length+s.length
 |0,s,b,a,l,h=>by unfold dm at h;cases h;omega
 |f+1,s,b,a,l,h=>by
  unfold dm at h;cases h1:(s==[])<;>rw[h1]at h<;>simp only[ai,af]at h
  .have d:0<s.length:=by cases s with|nil=>simp at h1|cons=>simp
   cases h2:(bif(ee s).2 then decide ((ee s).1>0)else false)<;>rw[h2]at h<;>simp only[ai,af]at h
   .cases h3:(!(ee s).2)<;>rw[h3]at h<;>simp only[ai,af]at h
    .cases hq:jM s with
     |none=>rw[hq]at h;simp at h
     |some x=>
      obtain⟨k,n,t⟩:=x;rw[hq]at h;have:=rP c f _ _ _ l h;have:=E2 d hq;simp at*;omega
    .simp at h
   .have:=rP c f _ _ _ l h
    simp at this;omega
  .cases h;omega
def zQ(h:jN s c = .ok l):l.length<=20000:=by
 unfold jN at h;cases a:decide ((s.length:Int)>20000)<;>rw[a]at h<;>simp only[ai,af]at h
 .have a:=bI a
  split at h
  .rename_i d b
   cases h;have:=rP _ _ _ _ _ _ b;simp at this;omega
  .simp at h
 .simp at h
def OC(h:jM s=some (k,n,t)):t.length<=s.length:=by
 unfold jM at h;have tk:∀n,(s.take n).length<=s.length:=fun n=>by simp;omega
 revert h
 cases dj (UInt8.toNat (s.getD 0 0):Int)<;>simp only[ai,af]
 .cases gQ (UInt8.toNat (s.getD 0 0):Int)<;>simp only[ai,af]
  .cases((UInt8.toNat (s.getD 0 0):Int)==34)<;>simp only[ai,af]
   .cases((UInt8.toNat (s.getD 0 0):Int)==35)<;>simp only[ai,af]
    .cases decide ((jX s:Int)>0)<;>simp only[ai,af]
     .intro h;simp at h
     .intro h;simp only[ay,aA]at h;rw[<-h.2.2];exact tk _
    .intro h
     obtain⟨m,-,e⟩:=bc.1 h;simp only[aA]at e;rw[<-e.2.2];exact tk _
   .intro h
    obtain⟨m,-,e⟩:=bc.1 h;simp only[aA]at e;rw[<-e.2.2];have:=tk (m+1);simp only[gY];omega
  .cases(!(o5 (s.take (runN bS s))).2)<;>simp only[ai,af]
   .intro h;simp only[ay,aA]at h;rw[<-h.2.2];exact tk _
   .intro h;simp at h
 .intro h;simp only[ay,aA]at h;rw[<-h.2.2];exact tk _
def qi(e:Int)(B:Nat):∀(f:Nat)(s:By)(d:Cx)(c l:List Tok),dm e f s d c = .ok l->s.length<=B->(∀t∈c,t.text.length<=B)->∀t∈l,t.text.length<=B
 |0,s,d,c,l,h,i,b=>by unfold dm at h;cases h;exact b
 |f+1,s,d,c,l,h,i,b=>by
  unfold dm at h;have g:∀n,(s.drop n).length<=B:=fun n=>by simp;omega
  cases h1:(s==[])<;>rw[h1]at h<;>simp only[ai,af]at h
  .cases h2:(bif(ee s).2 then decide ((ee s).1>0)else false)<;>rw[h2]at h<;>simp only[ai,af]at h
   .cases h3:(!(ee s).2)<;>rw[h3]at h<;>simp only[ai,af]at h
    .cases hq:jM s with
     |none=>rw[hq]at h;simp at h
     |some x=>
      obtain⟨k,n,t⟩:=x;rw[hq]at h;refine qi e B f _ _ _ l h (g _) fun u a=>?_
      rcases bp.1 a with a|a
      .exact b u a
      .simp at a;subst a
       have:=OC hq;show t.length<=B
       omega
    .simp at h
   .exact qi e B f _ _ _ l h (g _) b
  .cases h;exact b
def xB(h:jN s c = .ok l):∀t∈l,t.text.length<=20000:=by
 unfold jN at h;cases a:decide ((s.length:Int)>20000)<;>rw[a]at h<;>simp only[ai,af]at h
 .have a:=bI a
  split at h
  .rename_i d b
   cases h;exact qi _ 20000 _ _ _ _ _ b (by omega) (by simp)
  .simp at h
 .simp at h
def W76(b:Rw)(c:By)(H:Wi 94 [vS c] [] fun d e=>aI (!e) (Fi r h [vN 0,vB false] [])
 (kQ 95 [vL 2 b,.fn (.func 96) [] [.az 0 0]] [.aH [vS d]] fun a=>Fi r h [vN (if a>0 then a else 0),vB (decide (a>=0))] [])):
  ak 76 [vL 2 b,vS c] [] r h:=.of func76 {an:=[(1,1,ah)]} H
abbrev CD(a:Rw)(b c:Int)(d:Rw)r h:=Lp f94 0 ⟨aO 43 [(4,.bA 0),(8,vL 1 a),(9,vN b),(10,vN c)],[],[.bn 1 d]⟩ 0 r h
def A94:df:={an:=[(2,1,ah),(4,1,ah),(5,2,aX),(5,4,aX),(6,3,aa),(6,4,aa),(8,3,aX),(9,1,aX),(12,1,{uK:=true}),(12,3,aX)],cut:=[(3,{bl:=[4,8,9,10],iV:=[(4,1)]})]}
def W94(a:By)(H:Hb 131 [vS a,vS [47]] [] fun b=>CD b (b.length:Int) 0 [] r h):
  ak 94 [vS a] [] r h:=.of func94 A94 H
def Wt(c:Rw)(d b:Int)(a:Rw)(H:bP (b<d) (Hc c b fun e=>aI (bif(e==[])then true else(e==[46])) (aq (b+1)/\CD c d (b+1) a r h)
 (aI (!(e==[46,46])) ((a++([[S e]]:Rw)).length*16<=2^47/\aq (b+1)/\CD c d (b+1) (a++([[S e]]:Rw)) r h)
 (aI ((a.length:Int)==0) (Fi r h [vS [],vB false] [])
 (aq ((a.length:Int)-1)/\(0<=((a.length:Int)-1)/\((a.length:Int)-1)<=(a.length:Int))/\aq (b+1)/\CD c d (b+1) (take (toNat ((a.length:Int)-1)) a) r h))))
 (x8 132 [vL 1 a,vS [47]] [] fun f=>Fi r h [vS f,vB (decide ((a.length:Int)>0))] [])):
  CD c d b a r h:=.of A94 H
def W96(b c a:By)(H:Wi 94 [vS b] [] fun d e=>Fi r h [vB (bif e then(d==a)else false)] [.aH [vS a]]):
  ak 96 [.agg [S b,S c],.az 0 0] [.aH [vS a]] r h:=.of func96 {an:=[(1,2,ah),(2,2,aa),(2,3,aa),(2,4,aa)]} H
def afb(a b:By)(H:cb 243 [vS b,vS [47]] [] fun d=>aI d (Wi 94 [vS b] [] fun e f=>Fi r h [vS e,vB f] [])
 (kQ 141 [vS a,vS [47]] [] fun c=>aq (c+1)/\(0<=(0:Int)/\(0:Int)<=(c+1)/\(c+1)<=(a.length:Int))/\(drop 0 (take (toNat (c+1)) a)).length+b.length<=9223372036854775807/\Wi 94 [vS ((drop 0 (take (toNat (c+1)) a))++b)] [] fun g i=>Fi r h [vS g,vB i] [])):
  ak 181 [vS a,vS b] [] r h:=.of func181 {an:=[(1,1,ah),(2,1,ah),(3,2,ah),(3,7,ah)]} H
def W75(a:Rw)(c:By)(H:LY 76 [vL 2 a,vS c] [] fun j k=>aI (!k) (Fi r h [vL 4 [],.agg [N 4,N (-1),C (some (0,0))]] [])
 (∃b d e g i f,ak 93 [.az 0 0,vN j] [.aH [vL 2 a,O 1 [],vN 0,O 4 []]] [.agg [N b,N d,C e]] [.aH [vL 2 a,vL 1 g,vN i,O 4 f]]/\aI (b !=0) (Fi r h [vL 4 [],.agg [N b,N d,C e]] [])
 (Fi r h [vL 4 f,.agg [N 0,N 0,C (some (0,0))]] []))):
  ak 75 [vL 2 a,vS c] [] r h:=.of func75 {an:=[(1,2,ah)],mod:=[(5,2,[(0,[1001,2,3])])]} H
def zR(a:Rw)(b:Int)(c d:Rw)(e:Int)(f:Rw)(g i:Int)(j:Cx):St:=⟨aO 117 [(0,.az 0 0),(4,.az 1 0),(5,vL 4 a),(7,vN b)],[],[.aH [vL 2 c,O 1 d,vN e,O 4 f],.aH [vN g,vN i,vC j]]⟩
def oB(a:Rw)(b:Int)(c d:Rw)(e:Int)(f:Rw)(g i:Int)(j:Cx):St:=⟨aO 117 [(0,.az 0 0),(4,.az 1 0),(5,vL 4 a),(7,vN b)],[],[.aH [vL 2 c,vL 1 d,vN e,O 4 f],.aH [vN g,vN i,vC j]]⟩
def A93:df:={an:=[(1,7,ah),(1,9,ah),(4,4,{take:=true}),(4,10,{take:=true}),(8,4,ah),(8,11,ah),(9,4,{take:=true}),(9,8,ah),(9,13,{take:=true}),(12,5,ah),(12,10,ah)],mod:=[(10,4,[(0,[2])]),(13,2,[(0,[1001,2,3])])],cut:=[(6,{bl:=[0,4,5,7]})]}
def W93(b c:Rw)(d:Int)(e:Rw)(a:Int)(H:Qj b a fun l k=>∃g f i j,ak 129 [vS k,vN a] [] [vL 4 g,.agg [N f,N i,C j]] []/\aI (f !=0) (Fi r h [.agg [N f,N i,C j]] [.aH [vL 2 b,O 1 c,vN d,O 4 e]])
 ((c++([[N a]]:Rw)).length*8<=2^47/\Lp f93 0 (zR g 0 b (c++([[N a]]:Rw)) d e 0 0 (some (0,0))) 1 r h)):
  ak 93 [.az 0 0,vN a] [.aH [vL 2 b,O 1 c,vN d,O 4 e]] r h:=.of func93 A93 H
def Rx(b:Rw)(a:Int)(d c:Rw)(f:Int)(e:Rw)(g i:Int)(j:Cx)(H:bP (a<(b.length:Int)) (di b a fun G M Q T=>aI (G !=5) (di b a fun u v w x=>(e++([[N u,S v,N w,C x]]:Rw)).length*48<=2^47/\aq (a+1)/\Lp f93 0 (zR b (a+1) d c f (e++([[N u,S v,N w,C x]]:Rw)) g i j) 1 r h) (di b a fun X I Y Z=>aI (!(I==[35,105,110,99,108,117,100,101])) (di b a fun y z D E=>(e++([[N y,S z,N D,C E]]:Rw)).length*48<=2^47/\aq (a+1)/\Lp f93 0 (zR b (a+1) d c f (e++([[N y,S z,N D,C E]]:Rw)) g i j) 1 r h)
 ((0<=a/\a<=(b.length:Int)/\(b.length:Int)<=(b.length:Int))/\∃q k l,ak 130 [.az 0 0,vL 4 (drop (toNat a) (take b.length b))] [.aH [vL 2 d,O 1 c,vN f,O 4 e]] [vN q,vN k] [.aH [vL 2 d,O 1 c,vN l,O 4 e]]/\aI (k !=0) (di b a fun F A J R=>di b a fun a3 a4 a5 K=>Fi r h [.agg [N k,N J,C K]] [.aH [vL 2 d,O 1 c,vN l,O 4 e]])
 (∃m s t n o p,ak 93 [.az 0 0,vN q] [.aH [vL 2 d,O 1 c,vN l,O 4 e]] [.agg [N m,N s,C t]] [.aH [vL 2 d,vL 1 n,vN o,O 4 p]]/\aI (m !=0) (Fi r h [.agg [N m,N s,C t]] [.aH [vL 2 d,vL 1 n,vN o,O 4 p]])
 (aq (a+1)/\aq ((a+1)+1)/\Lp f93 0 (oB b ((a+1)+1) d n o p g i j) 1 r h)))))
 (aq ((c.length:Int)-1)/\(0<=(0:Int)/\(0:Int)<=((c.length:Int)-1)/\((c.length:Int)-1)<=(c.length:Int))/\Fi r h [.agg [N 0,N 0,C (some (0,0))]] [.aH [vL 2 d,vL 1 (drop 0 (take (toNat ((c.length:Int)-1)) c)),vN f,O 4 e]])):
  Lp f93 0 (zR b a d c f e g i j) 1 r h:=.of A93 H
def Ry(b:Rw)(a:Int)(d c:Rw)(f:Int)(e:Rw)(g i:Int)(j:Cx)(H:bP (a<(b.length:Int)) (di b a fun G M Q T=>aI (G !=5) (di b a fun u v w x=>(e++([[N u,S v,N w,C x]]:Rw)).length*48<=2^47/\aq (a+1)/\Lp f93 0 (oB b (a+1) d c f (e++([[N u,S v,N w,C x]]:Rw)) g i j) 1 r h) (di b a fun X I Y Z=>aI (!(I==[35,105,110,99,108,117,100,101])) (di b a fun y z D E=>(e++([[N y,S z,N D,C E]]:Rw)).length*48<=2^47/\aq (a+1)/\Lp f93 0 (oB b (a+1) d c f (e++([[N y,S z,N D,C E]]:Rw)) g i j) 1 r h)
 ((0<=a/\a<=(b.length:Int)/\(b.length:Int)<=(b.length:Int))/\∃q k l,ak 130 [.az 0 0,vL 4 (drop (toNat a) (take b.length b))] [.aH [vL 2 d,vL 1 c,vN f,O 4 e]] [vN q,vN k] [.aH [vL 2 d,vL 1 c,vN l,O 4 e]]/\aI (k !=0) (di b a fun F A J R=>di b a fun a3 a4 a5 K=>Fi r h [.agg [N k,N J,C K]] [.aH [vL 2 d,vL 1 c,vN l,O 4 e]])
 (∃m s t n o p,ak 93 [.az 0 0,vN q] [.aH [vL 2 d,vL 1 c,vN l,O 4 e]] [.agg [N m,N s,C t]] [.aH [vL 2 d,vL 1 n,vN o,O 4 p]]/\aI (m !=0) (Fi r h [.agg [N m,N s,C t]] [.aH [vL 2 d,vL 1 n,vN o,O 4 p]])
 (aq (a+1)/\aq ((a+1)+1)/\Lp f93 0 (oB b ((a+1)+1) d n o p g i j) 1 r h)))))
 (aq ((c.length:Int)-1)/\(0<=(0:Int)/\(0:Int)<=((c.length:Int)-1)/\((c.length:Int)-1)<=(c.length:Int))/\Fi r h [.agg [N 0,N 0,C (some (0,0))]] [.aH [vL 2 d,vL 1 (drop 0 (take (toNat ((c.length:Int)-1)) c)),vN f,O 4 e]])):
  Lp f93 0 (oB b a d c f e g i j) 1 r h:=.of A93 H
def afd(b a:Rw)(c:Int)(d e:Rw)(H:bP ((e.length:Int)<2) (Fi r h [vN (-1),vN 3] [.aH [vL 2 b,O 1 a,vN c,O 4 d]]) (di e 1 fun g p q s=>aI (g !=4) (Fi r h [vN (-1),vN 3] [.aH [vL 2 b,O 1 a,vN c,O 4 d]])
 (aq ((a.length:Int)-1)/\Rdn a ((a.length:Int)-1) fun i=>Qj b i fun j t=>di e 1 fun u k v w=>Wi 181 [vS j,vS k] [] fun l m=>aI (!m) (Fi r h [vN (-1),vN 4] [.aH [vL 2 b,O 1 a,vN c,O 4 d]])
 (LY 76 [vL 2 b,vS l] [] fun f n=>aI (!n) (Fi r h [vN (-1),vN 4] [.aH [vL 2 b,O 1 a,vN c,O 4 d]])
 (cb 182 [vL 1 a,vN f] [] fun o=>aI o (Fi r h [vN (-1),vN 5] [.aH [vL 2 b,O 1 a,vN c,O 4 d]])
 (bP ((a.length:Int)>=8) (Fi r h [vN (-1),vN 6] [.aH [vL 2 b,O 1 a,vN c,O 4 d]])
 (bP (c>=1000) (Fi r h [vN (-1),vN 9] [.aH [vL 2 b,O 1 a,vN c,O 4 d]])
 (aq (c+1)/\Fi r h [vN f,vN 0] [.aH [vL 2 b,O 1 a,vN (c+1),O 4 d]])))))))):
  ak 130 [.az 0 0,vL 4 e] [.aH [vL 2 b,O 1 a,vN c,O 4 d]] r h:=.of func130 {an:=[(1,7,ah),(3,15,ah),(3,18,ah),(3,22,ah),(3,23,ah),(6,5,ah),(9,5,ah)]} H
def tM(c:UInt8):∀s,(splitB c s).length<=s.length+1/\ic (splitB c s)<=s.length
 |[]=>by simp[splitB,ic]
 |d::t=>by
  have a:=tM c t;unfold splitB;cases d==c<;>simp only[ai,af]
  .revert a
   cases splitB c t with
   |nil=>simp[ic]
   |cons x l=>simp[ic];omega
  .simp[ic]at a⊢; omega
def kC:List By->List By->By×Bool
 |[],c=>(lW 47 c,decide ((c.length:Int)>0))
 |x::t,c=>bif(bif x==[]then true else x==[46])then kC t c else bif !(x==[46,46])then kC t (c++[x])else
  bif(c.length:Int)==0 then([],false)else kC t (c.take (c.length-1))
def ll(a:By):By×Bool:=kC (splitB 47 a) []
def CE(c:List By)(n:Nat):ic (c.take n)<=ic c:=by
 induction c generalizing n with
 |nil=>simp[ic]
 |cons x c a=>
  cases n with
  |zero=>simp[ic]
  |succ n=>have:=a n;simp[ic]at this⊢; omega
def HH(a b:List By):ic (a++b)=ic a+ic b:=by simp[ic]
def L94(l:List By)(g:l.length<=2^39):∀(t:List By)(i:Nat)(c:List By),l.drop i=t->c.length<=i->i<=l.length->ic c+ic t<=2^40 ->
  CD (aJ l) ((aJ l).length:Int) i (aJ c) [vS (kC t c).1,vB (kC t c).2] []
 |[],i,c,h,m,n,k=>Wt _ _ _ _ (aQ (l:=l) (by simp[aJ]) h ⟨_,adZ c 47 (by omega) (by omega),aZ (by simp[kC,aJ])⟩)
 |x::t,i,c,h,m,n,k=>by
  obtain⟨j,e,f⟩:=bM h;have o:(aJ c).length=c.length:=by simp[aJ]
  have p:ic (x::t)=x.length+ic t:=by simp[ic]
  refine Wt _ _ _ _ (aL (l:=l) (by simp[aJ]) h ⟨x,by omega,aP j,?_⟩)
  unfold kC;refine ad (fun a=>⟨au,?_⟩) fun a=>ad (fun b=>⟨?_,au,?_⟩) fun b=>?_
  .rw[a]
   exact L94 l g t (i+1) c e (by omega) f (by omega)
  .simp[aJ];omega
  .rw[a,b]
   have:=L94 l g t (i+1) (c++[x]) e (by simp;omega) f (by rw[HH,show ic [x]=x.length by simp[ic]];omega)
   rw[show aJ (c++[x])=aJ c++[[S x]] by simp[aJ,He]]at this
   exact this
  .rw[o]
   refine ad (fun d=>aZ (by rw[a,b,d];rfl)) fun d=>?_
   have q:=gV d;refine⟨au,⟨by omega,by omega⟩,au,?_⟩
   rw[a,b,d,show toNat ((c.length:Int)-1)=c.length-1 by omega]
   have:=CE c (c.length-1);have:=L94 l g t (i+1) (c.take (c.length-1)) e (by simp;omega) f (by omega)
   rw[show aJ (c.take (c.length-1))=(aJ c).take (c.length-1) by simp[aJ,iD]]at this
   exact this
def C94(a:By)(b:a.length<=2^31):ak 94 [vS a] [] [vS (ll a).1,vB (ll a).2] []:=by
 have:=tM 47 a;exact W94 a ⟨_,adX a 47 (by omega),L94 (splitB 47 a) (by omega) _ 0 [] rfl (by simp) (by omega) (by simp[ic]at this⊢; omega)⟩
def o7(b a:By):By×Bool:=bif List.isPrefixOf [47] a then ll a else ll (b.take (jW 47 b+1).toNat++a)
def afe(a b:By)(c:a.length<=2^30)(d:b.length<=2^30):ak 181 [vS a,vS b] [] [vS (o7 a b).1,vB (o7 a b).2] []:=by
 have:=rN 47 a;refine afb a b ⟨_,Yf _ _,ad (fun h=>⟨_,_,C94 b (by omega),aZ (by rw[o7,h];rfl)⟩) fun h=>⟨_,aas a 47 (by omega),au,⟨by omega,by omega,by omega⟩,by simp;omega,_,_,C94 _ (by simp;omega),aZ (by rw[o7,h];rfl)⟩⟩
structure Fl where
 path:By
 text:By
def Fl.row(f:Fl):List PV:=[S f.path,S f.text]
def E4(want:By)(f:Fl):Bool:=bif(ll f.path).2 then((ll f.path).1==want)else false
def fF(l:List Fl)(a:By):Int×Bool:=
 bif !(ll a).2 then(0,false)else
 ((if idx (E4 (ll a).1) l>0 then idx (E4 (ll a).1) l else 0),decide (idx (E4 (ll a).1) l>=0))
def C95(l:List Fl)(want:By)(d:l.length<=2^40)(e:∀f∈l,f.path.length<=2^31):
  ak 95 [vL 2 (l.map Fl.row),.fn (.func 96) [] [.az 0 0]] [.aH [vS want]] [vN (idx (E4 want) l)] [.aH [vS want]]:=
 Yh _ _ (eZ (Hd:=fun i=>vf _ _ i _) d fun i r h b c=>Qz _ _ _ _ (fg (l:=l) (by simp) (fun f a=>⟨_,_,by omega,aP a,_,W96 _ _ _ ⟨_,_,C94 _ (e f (aK a)),fi⟩,b f a⟩) c))
def C76(l:List Fl)(a:By)(b:l.length<=2^40)(c:∀f∈l,f.path.length<=2^31)(d:a.length<=2^31):ak 76 [vL 2 (l.map Fl.row),vS a] [] [vN (fF l a).1,vB (fF l a).2] []:=
 W76 _ _ ⟨_,_,C94 a d,ad (fun h=>aZ (by rw[fF,h];rfl)) fun h=>⟨_,C95 l _ b c,aZ (by rw[fF,h];rfl)⟩⟩
def aaL(n:Int)(l:List Int)(d:l.length<=2^40):ak 182 [vL 1 (l.map fun n=>[N n]),vN n] [] [vB (l.any (n == ·))] []:=
 ad4 _ _ ⟨_,ad6 _ _ (eZ (p:=(n == ·)) (l:=l) (Hd:=EL _ _ _) d fun i r h b c=>Yj _ _ _ _ (fg (l:=l) (by simp) (fun x a=>⟨x,by omega,aP a,b x a⟩) c)),aZ (by rw[mG])⟩
structure Wv where
 stack:List Int
 n:Int
 fq:List Tok
abbrev wv(l:List Fl)(x:Wv):Bx:=.aH [vL 2 (l.map Fl.row),O 1 (x.stack.map fun n=>[N n]),vN x.n,O 4 (x.fq.map Tok.row)]
abbrev ZV(l:List Fl)(x:Wv):Bx:=.aH [vL 2 (l.map Fl.row),vL 1 (x.stack.map fun n=>[N n]),vN x.n,O 4 (x.fq.map Tok.row)]
structure WOK (l:List Fl) (x:Wv):Prop where
 len:l.length<=2^40
 path:∀f∈l,f.path.length<=2^30/\f.text.length<=2^30
 stack:∀s∈x.stack,0<=s/\s.toNat<l.length
 deep:x.stack.length<=2^30
 n:0<=x.n/\x.n<=2^40
def fO(l:List Fl)(x:Wv)(t:Tok):Int×Int:=
 bif t.kind !=4 then(-1,3)else
 bif !(o7 (l.getD (x.stack.getLastD 0).toNat ⟨[],[]⟩).path t.text).2 then(-1,4)else
 bif !(fF l (o7 (l.getD (x.stack.getLastD 0).toNat ⟨[],[]⟩).path t.text).1).2 then(-1,4)else
 bif x.stack.any ((fF l (o7 (l.getD (x.stack.getLastD 0).toNat ⟨[],[]⟩).path t.text).1).1 == ·)then(-1,5)else
 bif decide ((x.stack.length:Int)>=8)then(-1,6)else
 bif decide (x.n>=1000)then(-1,9)else((fF l (o7 (l.getD (x.stack.getLastD 0).toNat ⟨[],[]⟩).path t.text).1).1,0)
def vl(l:List Fl)(x:Wv):List Tok->Int×Int
 |_::t::_=>fO l x t
 |_=>(-1,3)
def n9:∀(t c:List By),(kC t c).1.length<=ic c+ic t+c.length+t.length
 |[],c=>by
  have:∀(c:List By),(lW 47 c).length<=ic c+c.length:=by
   intro c;induction c with
   |nil=>simp[lW]
   |cons x l a=>
    cases l with
    |nil=>simp[lW,ic]
    |cons y l=>simp[lW,ic]at a⊢; omega
  have:=this c;simp[kC];omega
 |x::t,c=>by
  have d:ic (x::t)=x.length+ic t:=by simp[ic]
  unfold kC;cases(bif x==[]then true else x==[46])<;>simp only[ai,af]
  .cases !(x==[46,46])<;>simp only[ai,af]
   .cases(c.length:Int)==0<;>simp only[ai,af]
    .have:=n9 t (c.take (c.length-1))
     have b:=CE c (c.length-1);have:(c.take (c.length-1)).length<=c.length:=by simp
     simp only[aD];omega
    .simp
   .have:=n9 t (c++[x])
    rw[HH,show ic [x]=x.length by simp[ic]]at this
    simp only[aD,dC,cS]at this⊢;omega
  .have:=n9 t c
   simp only[aD];omega
def zS(p:By):(ll p).1.length<=2*p.length+1:=by
 have:=n9 (splitB 47 p) [];have:=tM 47 p;unfold ll;simp[ic]at*;omega
def OD(f p:By):(o7 f p).1.length<=2*(f.length+p.length)+1:=by
 unfold o7;cases List.isPrefixOf [47] p<;>simp only[ai,af]
 .have:=zS (f.take (jW 47 f+1).toNat++p)
  simp at this⊢;omega
 .have:=zS p
  omega
def vm(h:(fF l p).2=true):0<=(fF l p).1/\(fF l p).1.toNat<l.length:=by
 unfold fF at h⊢;cases h1 : !(ll p).2<;>rw[h1]at h<;>simp only[ai,af]at h⊢
 .have h:=aU h
  obtain⟨x,a,-⟩:=ve h;have:=(aE.1 a).1;split<;>omega
 .simp at h
def afg(l:List Fl)(x:Wv)(e:List Tok)(ok:WOK l x)(k:x.stack≠[])(q:∀t∈e,t.text.length<=2^28)(m:∀f∈l,f.path.length<=2^28):
  ak 130 [.az 0 0,vL 4 (e.map Tok.row)] [wv l x] [vN (vl l x e).1,vN (vl l x e).2] [wv l {x with n:=bif(vl l x e).2==0 then x.n+1 else x.n}]:=by
 refine afd _ _ _ _ _ (ad (fun h=>?_) fun h=>?_)
 .have h:=aU h
  match e,h with
  |[],_=>exact fi
  |[_],_=>exact fi
  |_::_::_,h=>simp at h;omega
 .have h:=bI h
  match e,h with
  |[],h=>simp at h
  |[_],h=>simp at h
  |t0::t::w,_=>
   have E:=q t (by simp)
   have p:x.stack.getLast?=some (x.stack.getLastD 0):=by
    rw[jH k,kq,jH k];rfl
   have y:x.stack.getLastD 0∈x.stack:=by
    have:=uD p;exact this
   obtain⟨s,o⟩:=ok.stack _ y;have hlen:0<x.stack.length:=by cases hx:x.stack with|nil=>exact absurd hx k|cons=>simp
   have v:(x.stack.map fun n=>[N n])[toNat (((x.stack.map fun n=>[N n]).length:Int)-1)]?=some [N (x.stack.getLastD 0)]:=by
    rw[al,show toNat ((x.stack.length:Int)-1)=x.stack.length-1 by omega,bu,<-yr,p]
    rfl
   have j:=bo o;have u:l.getD (x.stack.getLastD 0).toNat ⟨[],[]⟩=l[(x.stack.getLastD 0).toNat]:=by rw[bR,j];rfl
   have D:=m _ (fL o);have G:=ok.deep;refine⟨t.kind,t.text,t.file,t.spot,by omega,by simp[Tok.row],?_⟩
   rw[show vl l x (t0::t::w)=fO l x t from rfl]
   unfold fO;refine ad (fun i=>bE (by rw[i];rfl) (by rw[i];rfl)) fun i=>⟨au (by simp;omega) (by simp;omega),_,by simp;omega,v,_,_,s,by rw[bu,j];rfl,t.kind,t.text,t.file,t.spot,by omega,by simp[Tok.row],?_⟩
   rw[i,u];have z:=OD l[(x.stack.getLastD 0).toNat].path t.text;refine⟨_,_,afe _ _ (by omega) (by omega),ad (fun a=>bE (by rw[a];rfl) (by rw[a];rfl)) fun a=>⟨_,_,C76 l _ ok.len (fun f j=>by have:=m f j;omega) (by omega),ad (fun b=>bE (by rw[a,b];rfl) (by rw[a,b];rfl)) fun b=>⟨_,aaL _ _ (by omega),ad (fun d=>bE (by rw[a,b,d];rfl) (by rw[a,b,d];rfl)) fun d=>ad (fun c=>?_) fun c=>ad (fun g=>?_) fun g=>?_⟩⟩⟩
   .rw[al]at c
    exact bE (by rw[a,b,d,c];rfl) (by rw[a,b,d,c];rfl)
   .rw[al]at c
    exact bE (by rw[a,b,d,c,g];rfl) (by rw[a,b,d,c,g];rfl)
   .rw[al]at c
    have r:=ok.n;exact⟨au,bE (by rw[a,b,d,c,g];rfl) (by rw[a,b,d,c,g];rfl)⟩
abbrev Mm(a b c:Rw)(d e f g:Int)(i:Cx)(j:Rw)(k l:Int)(m:Cx)(n o p:Rw)(q s t u:Int)(v:Cx)r h:=Lp f77 0 ⟨aO 47 [(4,.az 0 0),(5,.az 1 0),(6,.az 2 0)],[],[.aH [O 6 a,O 2 b,O 1 c,vN d,vN e],.aH [vN f,vN g,vC i],K7 j k l m n o p q s t u v]⟩ 0 r h
def A77:df:={an:=[(2,3,aa),(2,4,aa),(2,5,aa),(2,6,aa),(2,7,aa),(2,8,aa),(7,4,gw),(7,5,fv),(7,6,eP)],mod:=[(3,1,[(0,[0,4,5,6,7,8,9,10,11])]),(5,3,[(0,[9,10,11])])],cut:=[(2,{bl:=[4,5,6],wc:=[(2,6)]})]}
def W77(H:Mm [] [] [] 0 0 0 0 (some (0,0)) a b c d [] [] [] 0 0 0 0 (some (0,0)) r h):
  ak 77 [vL 4 a,.agg [N b,N c,C d]] [] r h:=.of func77 A77 H
def aaN(H:cb 97 [.az 0 0] [K7 j b c d e f a g i k l m] fun Z=>aI (bif Z then(decide ((j.length:Int)>0))else false) (∃z D E G I J K M Q,ak 98 [.az 0 0] [K7 j b c d e f a g i k l m] [] [K7 z b c d D E G I J K M Q]/\Mm q s t u v w x y z b c d D E G I J K M Q r h)
 (aI ((a.length:Int)==0) (∃T X Y,ak 100 [.az 0 0] [K7 j b c d e f a g i k l m] [.agg [N T,N X,C Y]] [K7 j b c d e f a g i k l m]/\∃n o p,ak 99 [.az 0 0,.agg [N T,N X,C Y],vN 11] [K7 j b c d e f a g i k l m] [] [K7 j b c d e f a g i n o p]/\cb 97 [.az 0 0] [K7 j b c d e f a g i n o p] fun F=>aI (!F) (Fi r h [.agg [L 6 [],L 2 [],L 1 [],N 0,N 0],.agg [N n,N o,C p]] [])
 (Fi r h [.agg [L 6 e,L 2 f,L 1 a,N g,N i],.agg [N 0,N 0,C (some (0,0))]] []))
 (cb 97 [.az 0 0] [K7 j b c d e f a g i k l m] fun A=>aI (!A) (Fi r h [.agg [L 6 [],L 2 [],L 1 [],N 0,N 0],.agg [N k,N l,C m]] [])
 (Fi r h [.agg [L 6 e,L 2 f,L 1 a,N g,N i],.agg [N 0,N 0,C (some (0,0))]] [])))):
  Mm q s t u v w x y j b c d e f a g i k l m r h:=.of A77 H
def W97(H:Fi r h [vB (a==0)] [K7 b c d e f g i j k a l m]):
  ak 97 [.az 0 0] [K7 b c d e f g i j k a l m] r h:=.of func97 {} H
def afh(H:Fi r h [vB (a==0)] [K8 b c d e f g i j k a l m]):
  ak 97 [.az 0 0] [K8 b c d e f g i j k a l m] r h:=.of func97 {} H
def W98(c9:∃p q s,ak 100 [.az 0 0] [K7 o c d e a b f g i j k l] [.agg [N p,N q,C s]] [K7 o c d e a b f g i j k l]/\∃Z t,ak 133 [.az 0 0,vN 5,vS [35,100,101,102,105,110,101]] [K7 o c d e a b f g i j k l] [vB Z] [K7 t c d e a b f g i j k l]/\aI Z (∃m u v w x,ak 134 [.az 0 0] [K7 t c d e a b f g i j k l] [vS m] [K7 u c d e a b f g i v w x]/\(∃y z D E G H F A R,ak 135 [.az 0 0] [K8 u c d e a b f g i v w x] [.agg [N y,S z,S D,U E,L 5 G]] [K8 H c d e a b f g i F A R]/\(a++([[S m,N y,S z,S D,U E,L 5 G]]:Rw)).length*88<=2^47/\Fi r h [] [K7 H c d e (a++([[S m,N y,S z,S D,U E,L 5 G]]:Rw)) b f g i F A R])/\(∃I J K M Q a4 a5 a6 a7,ak 135 [.az 0 0] [K7 u c d e a b f g i v w x] [.agg [N I,S J,S K,U M,L 5 Q]] [K7 a4 c d e a b f g i a5 a6 a7]/\(a++([[S m,N I,S J,S K,U M,L 5 Q]]:Rw)).length*88<=2^47/\Fi r h [] [K7 a4 c d e (a++([[S m,N I,S J,S K,U M,L 5 Q]]:Rw)) b f g i a5 a6 a7]))
 (∃a8 T,ak 133 [.az 0 0,vN 1,vS [80,79,76,73,67,89]] [K7 t c d e a b f g i j k l] [vB a8] [K7 T c d e a b f g i j k l]/\aI a8 (∃a9 b0 b1 b2 b3,ak 134 [.az 0 0] [K7 T c d e a b f g i j k l] [vS a9] [K7 b0 c d e a b f g i b1 b2 b3]/\∃b4 b5 b6 b7 X Y,ak 136 [.az 0 0,.fn (.func 137) [] [.az 1 0,.az 2 0]] [K7 b0 c d e a b f g i b1 b2 b3,.aH [vS a9,O 4 []],.aH [.az 0 0]] [] [K7 b4 c d e a b f g i b5 b6 b7,.aH [vS X,O 4 Y],.aH [.az 0 0]]/\(b++([[S X,L 4 Y]]:Rw)).length*40<=2^47/\Fi r h [] [K7 b4 c d e a (b++([[S X,L 4 Y]]:Rw)) f g i b5 b6 b7])
 (∃b8 n,ak 133 [.az 0 0,vN 1,vS [85,83,69]] [K7 T c d e a b f g i j k l] [vB b8] [K7 n c d e a b f g i j k l]/\aI b8 (∃b9 c0 c1 c2 c3 c4 c5,ak 139 [.az 0 0,.agg [N p,N q,C s]] [K7 n c d e a b f g i j k l] [] [K7 b9 c d e a b c0 c1 c2 c3 c4 c5]/\Fi r h [] [K7 b9 c d e a b c0 c1 c2 c3 c4 c5])
 (∃c6 c7 c8,ak 99 [.az 0 0,.agg [N p,N q,C s],vN 3] [K7 n c d e a b f g i j k l] [] [K7 n c d e a b f g i c6 c7 c8]/\Fi r h [] [K7 n c d e a b f g i c6 c7 c8])))):
  ak 98 [.az 0 0] [K7 o c d e a b f g i j k l] r h:=.of func98 {an:=[(5,0,eP),(5,1,eP),(5,5,jj),(5,7,eP),(5,8,fv),(5,15,jj),(9,0,eP),(9,1,eP),(9,5,jj),(9,6,{fb:=some [3]}),(9,12,jj)],mod:=[(2,2,[(0,[9,10,11])]),(3,1,[(0,[0])]),(4,1,[(0,[0,9,10,11])]),(5,8,[(0,[0,9,10,11])]),(6,1,[(0,[0])]),(7,1,[(0,[0,9,10,11])]),(8,2,[(0,[0,9,10,11]),(1,[])]),(10,1,[(0,[0])]),(11,2,[(0,[0,6,7,8,9,10,11])])]} c9
def afi(H:cb 97 [.az 0 0] [K8 a b c d e f g i j k l m] fun s=>aI s (Fi r h [] [K8 a b c d e f g i j p n o])
 (Fi r h [] [K8 a b c d e f g i j k l m])):
  ak 99 [.az 0 0,.agg [N q,N n,C o],vN p] [K8 a b c d e f g i j k l m] r h:=.of func99 {} H
def W99(H:cb 97 [.az 0 0] [K7 a b c d e f g i j k l m] fun s=>aI s (Fi r h [] [K7 a b c d e f g i j p n o])
 (Fi r h [] [K7 a b c d e f g i j k l m])):
  ak 99 [.az 0 0,.agg [N q,N n,C o],vN p] [K7 a b c d e f g i j k l m] r h:=.of func99 {} H
def afj(H:aI ((a.length:Int)==0) (Fi r h [.agg [N 0,N b,C c]] [K7 a d b c e f g i j k l m])
 (di a 0 fun p q n s=>di a 0 fun t u v o=>Fi r h [.agg [N 0,N n,C o]] [K7 a d b c e f g i j k l m])):
  ak 100 [.az 0 0] [K7 a d b c e f g i j k l m] r h:=.of func100 {an:=[(3,6,ah),(3,13,ah)]} H
def aaO(H:aI ((a.length:Int)==0) (Fi r h [.agg [N 0,N b,C c]] [K8 a d b c e f g i j k l m])
 (di a 0 fun p q n s=>di a 0 fun t u v o=>Fi r h [.agg [N 0,N n,C o]] [K8 a d b c e f g i j k l m])):
  ak 100 [.az 0 0] [K8 a d b c e f g i j k l m] r h:=.of func100 {an:=[(3,6,ah),(3,13,ah)]} H
def aaP(H:cb 187 [.az 0 0,vN o,vS p] [K8 a b c d e f g i j k l m] fun n=>aI n ((0<=(1:Int)/\(1:Int)<=(a.length:Int)/\(a.length:Int)<=(a.length:Int))/\Fi r h [vB n] [K8 (drop 1 (take a.length a)) b c d e f g i j k l m])
 (Fi r h [vB n] [K8 a b c d e f g i j k l m])):
  ak 133 [.az 0 0,vN o,vS p] [K8 a b c d e f g i j k l m] r h:=.of func133 {} H
def afk(H:cb 187 [.az 0 0,vN o,vS p] [K7 a b c d e f g i j k l m] fun n=>aI n ((0<=(1:Int)/\(1:Int)<=(a.length:Int)/\(a.length:Int)<=(a.length:Int))/\Fi r h [vB n] [K7 (drop 1 (take a.length a)) b c d e f g i j k l m])
 (Fi r h [vB n] [K7 a b c d e f g i j k l m])):
  ak 133 [.az 0 0,vN o,vS p] [K7 a b c d e f g i j k l m] r h:=.of func133 {} H
def aaQ(H:cb 188 [.az 0 0] [K8 a b c d e f g i j k l m] fun u=>aI (!u) (∃n o p,ak 100 [.az 0 0] [K8 a b c d e f g i j k l m] [.agg [N n,N o,C p]] [K8 a b c d e f g i j k l m]/\∃q s t,ak 99 [.az 0 0,.agg [N n,N o,C p],vN 3] [K8 a b c d e f g i j k l m] [] [K8 a b c d e f g i j q s t]/\Fi r h [vS []] [K8 a b c d e f g i j q s t])
 (di a 0 fun w v x y=>(0<=(1:Int)/\(1:Int)<=(a.length:Int)/\(a.length:Int)<=(a.length:Int))/\Fi r h [vS v] [K8 (drop 1 (take a.length a)) b c d e f g i j k l m])):
  ak 134 [.az 0 0] [K8 a b c d e f g i j k l m] r h:=.of func134 {an:=[(4,6,ah)],mod:=[(2,3,[(0,[9,10,11])])]} H
def afl(H:cb 188 [.az 0 0] [K7 a b c d e f g i j k l m] fun u=>aI (!u) (∃n o p,ak 100 [.az 0 0] [K7 a b c d e f g i j k l m] [.agg [N n,N o,C p]] [K7 a b c d e f g i j k l m]/\∃q s t,ak 99 [.az 0 0,.agg [N n,N o,C p],vN 3] [K7 a b c d e f g i j k l m] [] [K7 a b c d e f g i j q s t]/\Fi r h [vS []] [K7 a b c d e f g i j q s t])
 (di a 0 fun w v x y=>(0<=(1:Int)/\(1:Int)<=(a.length:Int)/\(a.length:Int)<=(a.length:Int))/\Fi r h [vS v] [K7 (drop 1 (take a.length a)) b c d e f g i j k l m])):
  ak 134 [.az 0 0] [K7 a b c d e f g i j k l m] r h:=.of func134 {an:=[(4,6,ah)],mod:=[(2,3,[(0,[9,10,11])])]} H
abbrev E5(a:Rw)(b c:Int)(d:Cx)(e f g:Rw)(i j k l:Int)(m:Cx)(n:Int)(o p:By)(q:Int)(s:Rw)(t:Int)(u v:By)(w:Int)(x:Rw)r h:=Lp f135 0 ⟨aO 14 [(0,.az 0 0),(2,.az 1 0),(3,.az 2 0)],[],[K7 a b c d e f g i j k l m,.aH [vN n,vS o,vS p,vU q,O 5 s],.aH [vN t,vS u,vS v,vU w,vL 5 x]]⟩ 1 r h
def aaR:df:={an:=[(3,0,gw),(3,2,fv),(3,5,gw)],mod:=[(1,1,[(0,[0,9,10,11])]),(2,1,[(0,[0])]),(3,2,[(0,[0,9,10,11])])],cut:=[(2,{bl:=[0,2,3]})]}
def afm(H:∃n o p q s t u v w,ak 189 [.az 0 0] [K7 j a b c d e f g i k l m] [.agg [N n,S o,S p,U q,L 5 s]] [K7 t a b c d e f g i u v w]/\E5 t a b c d e f g i u v w 0 [] [] 0 [] n o p q s r h):
  ak 135 [.az 0 0] [K7 j a b c d e f g i k l m] r h:=.of func135 aaR H
def YS(H:∃z s,ak 133 [.az 0 0,vN 3,vS [124]] [K7 t a b c d e f g i j k l] [vB z] [K7 s a b c d e f g i j k l]/\aI z (∃D E G I J K M Q T,ak 189 [.az 0 0] [K7 s a b c d e f g i j k l] [.agg [N D,S E,S G,U I,L 5 J]] [K7 K a b c d e f g i M Q T]/\E5 K a b c d e f g i M Q T u v w x y 8 [] [] 0 [[N m,S n,S o,U p,L 5 q],[N D,S E,S G,U I,L 5 J]] r h)
 (Fi r h [.agg [N m,S n,S o,U p,L 5 q]] [K7 s a b c d e f g i j k l])):
  E5 t a b c d e f g i j k l u v w x y m n o p q r h:=.of aaR H
abbrev yD(a:Rw)(b c:Int)(d:Cx)(e f g:Rw)(i j k l:Int)(m:Cx)(n:Int)(o p:By)(q:Int)(s:Rw)(t:Int)(u v:By)(w:Int)(x:Rw)r h:=Lp f135 0 ⟨aO 14 [(0,.az 0 0),(2,.az 1 0),(3,.az 2 0)],[],[K8 a b c d e f g i j k l m,.aH [vN n,vS o,vS p,vU q,O 5 s],.aH [vN t,vS u,vS v,vU w,vL 5 x]]⟩ 1 r h
def Wu:df:={an:=[(3,0,gw),(3,2,fv),(3,5,gw)],mod:=[(1,1,[(0,[0,9,10,11])]),(2,1,[(0,[0])]),(3,2,[(0,[0,9,10,11])])],cut:=[(2,{bl:=[0,2,3]})]}
def aaS(H:∃n o p q s t u v w,ak 189 [.az 0 0] [K8 j a b c d e f g i k l m] [.agg [N n,S o,S p,U q,L 5 s]] [K8 t a b c d e f g i u v w]/\yD t a b c d e f g i u v w 0 [] [] 0 [] n o p q s r h):
  ak 135 [.az 0 0] [K8 j a b c d e f g i k l m] r h:=.of func135 Wu H
def UX(H:∃z s,ak 133 [.az 0 0,vN 3,vS [124]] [K8 t a b c d e f g i j k l] [vB z] [K8 s a b c d e f g i j k l]/\aI z (∃D E G I J K M Q T,ak 189 [.az 0 0] [K8 s a b c d e f g i j k l] [.agg [N D,S E,S G,U I,L 5 J]] [K8 K a b c d e f g i M Q T]/\yD K a b c d e f g i M Q T u v w x y 8 [] [] 0 [[N m,S n,S o,U p,L 5 q],[N D,S E,S G,U I,L 5 J]] r h)
 (Fi r h [.agg [N m,S n,S o,U p,L 5 q]] [K8 s a b c d e f g i j k l])):
  yD t a b c d e f g i j k l u v w x y m n o p q r h:=.of Wu H
def ni(a:Bool)(b:Rw)(c d:Int)(e:Cx)(f g i:Rw)(j k l m:Int)(n:Cx)(o:By)(p:Rw):St:=⟨aO 23 [(0,.az 0 0),(1,.fn (.func 137) [] [.az 1 0,.az 2 0]),(4,vB a)],[],[K7 b c d e f g i j k l m n,.aH [vS o,O 4 p],.aH [.az 0 0]]⟩
def HI:df:={mod:=[(0,1,[(0,[0,9,10,11])]),(3,1,[(0,[1]),(2,[0,9,10,11])]),(4,1,[(0,[0])]),(5,1,[(0,[0,9,10,11])])],cut:=[(2,{bl:=[0,1,4]})]}
def Rz(H:∃p q s t,ak 190 [.az 0 0,vN 3,vS [123]] [K7 j a b c d e f g i k l m] [] [K7 p a b c d e f g i q s t]/\Lp f136 0 (ni false p a b c d e f g i q s t n o) 3 r h):
  ak 136 [.az 0 0,.fn (.func 137) [] [.az 1 0,.az 2 0]] [K7 j a b c d e f g i k l m,.aH [vS n,O 4 o],.aH [.az 0 0]] r h:=.of func136 HI H
def KP(H:cb 97 [.az 0 0] [K7 k a b c d e f g i l m n] fun A=>aI A (aI w (∃x y p q s,ak 137 [.az 0 0,.az 1 0] [.aH [vS j,O 4 o],.aH [.az 2 0],K7 k a b c d e f g i l m n] [] [.aH [vS j,O 4 x],.aH [.az 2 0],K7 y a b c d e f g i p q s]/\∃z D,ak 133 [.az 0 0,vN 3,vS [44]] [K7 y a b c d e f g i p q s] [vB z] [K7 D a b c d e f g i p q s]/\Lp f136 0 (ni z D a b c d e f g i p q s j x) 3 r h) (cb 187 [.az 0 0,vN 3,vS [125]] [K7 k a b c d e f g i l m n] fun R=>aI (!R) (∃E G t u v,ak 137 [.az 0 0,.az 1 0] [.aH [vS j,O 4 o],.aH [.az 2 0],K7 k a b c d e f g i l m n] [] [.aH [vS j,O 4 E],.aH [.az 2 0],K7 G a b c d e f g i t u v]/\∃I J,ak 133 [.az 0 0,vN 3,vS [44]] [K7 G a b c d e f g i t u v] [vB I] [K7 J a b c d e f g i t u v]/\Lp f136 0 (ni I J a b c d e f g i t u v j E) 3 r h)
 (∃K M Q T,ak 190 [.az 0 0,vN 3,vS [125]] [K7 k a b c d e f g i l m n] [] [K7 K a b c d e f g i M Q T]/\Fi r h [] [K7 K a b c d e f g i M Q T,.aH [vS j,O 4 o],.aH [.az 0 0]]))) (∃X Y Z F,ak 190 [.az 0 0,vN 3,vS [125]] [K7 k a b c d e f g i l m n] [] [K7 X a b c d e f g i Y Z F]/\Fi r h [] [K7 X a b c d e f g i Y Z F,.aH [vS j,O 4 o],.aH [.az 0 0]])):
  Lp f136 0 (ni w k a b c d e f g i l m n j o) 3 r h:=.of HI H
def nj(a:Bool)(b:Rw)(c d:Int)(e:Cx)(f g i:Rw)(j k l m:Int)(n:Cx)(o:By)(p q:Int)(s:Rw):St:=⟨aO 23 [(0,.az 0 0),(1,.fn (.func 192) [] [.az 1 0,.az 2 0]),(4,vB a)],[],[K7 b c d e f g i j k l m n,.aH [vS o,vN p,vN q,O 3 s],.aH [.az 0 0]]⟩
def HJ:df:={mod:=[(0,1,[(0,[0,9,10,11])]),(3,1,[(0,[3]),(2,[0,9,10,11])]),(4,1,[(0,[0])]),(5,1,[(0,[0,9,10,11])])],cut:=[(2,{bl:=[0,1,4]})]}
def RA(H:∃s t u v,ak 190 [.az 0 0,vN 3,vS [123]] [K7 j a b c d e f g i k l m] [] [K7 s a b c d e f g i t u v]/\Lp f136 0 (nj false s a b c d e f g i t u v n o p q) 3 r h):
  ak 136 [.az 0 0,.fn (.func 192) [] [.az 1 0,.az 2 0]] [K7 j a b c d e f g i k l m,.aH [vS n,vN o,vN p,O 3 q],.aH [.az 0 0]] r h:=.of func136 HJ H
def KQ(H:cb 97 [.az 0 0] [K7 m a b c d e f g i n o p] fun a3=>aI a3 (aI y (∃z D s t u,ak 192 [.az 0 0,.az 1 0] [.aH [vS j,vN k,vN l,O 3 q],.aH [.az 2 0],K7 m a b c d e f g i n o p] [] [.aH [vS j,vN k,vN l,O 3 z],.aH [.az 2 0],K7 D a b c d e f g i s t u]/\∃E G,ak 133 [.az 0 0,vN 3,vS [44]] [K7 D a b c d e f g i s t u] [vB E] [K7 G a b c d e f g i s t u]/\Lp f136 0 (nj E G a b c d e f g i s t u j k l z) 3 r h) (cb 187 [.az 0 0,vN 3,vS [125]] [K7 m a b c d e f g i n o p] fun a4=>aI (!a4) (∃I J v w x,ak 192 [.az 0 0,.az 1 0] [.aH [vS j,vN k,vN l,O 3 q],.aH [.az 2 0],K7 m a b c d e f g i n o p] [] [.aH [vS j,vN k,vN l,O 3 I],.aH [.az 2 0],K7 J a b c d e f g i v w x]/\∃K M,ak 133 [.az 0 0,vN 3,vS [44]] [K7 J a b c d e f g i v w x] [vB K] [K7 M a b c d e f g i v w x]/\Lp f136 0 (nj K M a b c d e f g i v w x j k l I) 3 r h)
 (∃Q T X Y,ak 190 [.az 0 0,vN 3,vS [125]] [K7 m a b c d e f g i n o p] [] [K7 Q a b c d e f g i T X Y]/\Fi r h [] [K7 Q a b c d e f g i T X Y,.aH [vS j,vN k,vN l,O 3 q],.aH [.az 0 0]]))) (∃Z F A R,ak 190 [.az 0 0,vN 3,vS [125]] [K7 m a b c d e f g i n o p] [] [K7 Z a b c d e f g i F A R]/\Fi r h [] [K7 Z a b c d e f g i F A R,.aH [vS j,vN k,vN l,O 3 q],.aH [.az 0 0]])):
  Lp f136 0 (nj y m a b c d e f g i n o p j k l q) 3 r h:=.of HJ H
def afn(j p:Rw)(H:∃k l m n u v w x,ak 138 [.az 0 0] [K7 p a b c d e f g i q s t] [.agg [S k,N l,N m,L 3 n]] [K7 u a b c d e f g i v w x]/\(j++([[S k,N l,N m,L 3 n]]:Rw)).length*56<=2^47/\Fi r h [] [.aH [vS o,O 4 (j++([[S k,N l,N m,L 3 n]]:Rw))],.aH [.az 2 0],K7 u a b c d e f g i v w x]):
  ak 137 [.az 0 0,.az 1 0] [.aH [vS o,O 4 j],.aH [.az 2 0],K7 p a b c d e f g i q s t] r h:=.of func137 {an:=[(0,1,jj),(0,2,eP),(0,3,gw),(0,7,jj)],mod:=[(0,3,[(0,[0,9,10,11])])]} H
def afo(H:∃o m,ak 133 [.az 0 0,vN 1,vS [85,83,69]] [K7 n a b c d e f g i j k l] [vB o] [K7 m a b c d e f g i j k l]/\aI o (∃p q s t u,ak 134 [.az 0 0] [K7 m a b c d e f g i j k l] [vS p] [K7 q a b c d e f g i s t u]/\Fi r h [.agg [S p,N 0,N 0,L 3 []]] [K7 q a b c d e f g i s t u])
 (∃v w x y z D,ak 191 [.az 0 0] [K7 m a b c d e f g i j k l] [.agg [N v,N w]] [K7 x a b c d e f g i y z D]/\∃E G I J K M Q T,ak 136 [.az 0 0,.fn (.func 192) [] [.az 1 0,.az 2 0]] [K7 x a b c d e f g i y z D,.aH [vS [],vN v,vN w,O 3 []],.aH [.az 0 0]] [] [K7 E a b c d e f g i G I J,.aH [vS K,vN M,vN Q,O 3 T],.aH [.az 0 0]]/\Fi r h [.agg [S K,N M,N Q,L 3 T]] [K7 E a b c d e f g i G I J])):
  ak 138 [.az 0 0] [K7 n a b c d e f g i j k l] r h:=.of func138 {mod:=[(1,1,[(0,[0])]),(2,1,[(0,[0,9,10,11])]),(3,1,[(0,[0,9,10,11])]),(4,2,[(0,[0,9,10,11]),(1,[])])]} H
def afp(H:∃k y z D E,ak 194 [.az 0 0] [K7 q a b c d e f g i s t u] [vL 1 k] [K7 y a b c d e f g i z D E]/\∃G I J K,ak 190 [.az 0 0,vN 1,vS [68,69,70,65,85,76,84]] [K7 y a b c d e f g i z D E] [] [K7 G a b c d e f g i I J K]/\∃l m j n o p,ak 191 [.az 0 0] [K7 G a b c d e f g i I J K] [.agg [N l,N m]] [K7 j a b c d e f g i n o p]/\bP ((f.length:Int)>0) (∃M Q T,ak 99 [.az 0 0,.agg [N v,N w,C x],vN 11] [K7 j a b c d e f g i n o p] [] [K7 j a b c d e f g i M Q T]/\Fi r h [] [K7 j a b c d e k l m M Q T])
 (Fi r h [] [K7 j a b c d e k l m n o p])):
  ak 139 [.az 0 0,.agg [N v,N w,C x]] [K7 q a b c d e f g i s t u] r h:=.of func139 {an:=[(6,3,gw),(6,7,fv),(6,11,fv)],mod:=[(1,1,[(0,[0,9,10,11])]),(2,1,[(0,[0,9,10,11])]),(3,1,[(0,[0,9,10,11])]),(5,2,[(0,[9,10,11])])]} H
def aaT(H:cb 97 [.az 0 0] [K8 a b c d e f g i j k l m] fun p=>aI (bif p then(decide ((a.length:Int)>0))else false) (di a 0 fun q t u v=>aI (q==n) (di a 0 fun w s x y=>Fi r h [vB (s==o)] [K8 a b c d e f g i j k l m]) (Fi r h [vB false] [K8 a b c d e f g i j k l m])) (Fi r h [vB false] [K8 a b c d e f g i j k l m])):
  ak 187 [.az 0 0,vN n,vS o] [K8 a b c d e f g i j k l m] r h:=.of func187 {an:=[(1,3,aa),(1,4,aa),(1,5,aa),(1,6,aa),(1,7,aa),(1,8,aa),(1,17,ah),(1,28,ah)]} H
def afq(H:cb 97 [.az 0 0] [K7 a b c d e f g i j k l m] fun p=>aI (bif p then(decide ((a.length:Int)>0))else false) (di a 0 fun q t u v=>aI (q==n) (di a 0 fun w s x y=>Fi r h [vB (s==o)] [K7 a b c d e f g i j k l m]) (Fi r h [vB false] [K7 a b c d e f g i j k l m])) (Fi r h [vB false] [K7 a b c d e f g i j k l m])):
  ak 187 [.az 0 0,vN n,vS o] [K7 a b c d e f g i j k l m] r h:=.of func187 {an:=[(1,3,aa),(1,4,aa),(1,5,aa),(1,6,aa),(1,7,aa),(1,8,aa),(1,17,ah),(1,28,ah)]} H
def afr(H:cb 97 [.az 0 0] [K7 a b c d e f g i j k l m] fun n=>aI (bif n then(decide ((a.length:Int)>0))else false) (di a 0 fun o s t u=>aI (o==1) (di a 0 fun v p w x=>cb 144 [vS p] [] fun q=>Fi r h [vB q] [K7 a b c d e f g i j k l m]) (Fi r h [vB false] [K7 a b c d e f g i j k l m])) (Fi r h [vB false] [K7 a b c d e f g i j k l m])):
  ak 188 [.az 0 0] [K7 a b c d e f g i j k l m] r h:=.of func188 {an:=[(1,3,aa),(1,4,aa),(1,5,aa),(1,6,aa),(1,7,aa),(1,8,aa),(1,17,ah),(1,27,ah),(1,28,ah)]} H
def aaU(H:cb 97 [.az 0 0] [K8 a b c d e f g i j k l m] fun n=>aI (bif n then(decide ((a.length:Int)>0))else false) (di a 0 fun o s t u=>aI (o==1) (di a 0 fun v p w x=>cb 144 [vS p] [] fun q=>Fi r h [vB q] [K8 a b c d e f g i j k l m]) (Fi r h [vB false] [K8 a b c d e f g i j k l m])) (Fi r h [vB false] [K8 a b c d e f g i j k l m])):
  ak 188 [.az 0 0] [K8 a b c d e f g i j k l m] r h:=.of func188 {an:=[(1,3,aa),(1,4,aa),(1,5,aa),(1,6,aa),(1,7,aa),(1,8,aa),(1,17,ah),(1,27,ah),(1,28,ah)]} H
def afs(H:cb 188 [.az 0 0] [K7 j a b c d e f g i k l m] fun y=>aI y (∃n o p q s,ak 134 [.az 0 0] [K7 j a b c d e f g i k l m] [vS n] [K7 o a b c d e f g i p q s]/\Fi r h [.agg [N 5,S [],S n,U 0,L 5 []]] [K7 o a b c d e f g i p q s])
 (∃t u v w x,ak 259 [.az 0 0,vU 18446744073709551615] [K7 j a b c d e f g i k l m] [vU t] [K7 u a b c d e f g i v w x]/\Fi r h [.agg [N 7,S [],S [],U t,L 5 []]] [K7 u a b c d e f g i v w x])):
  ak 189 [.az 0 0] [K7 j a b c d e f g i k l m] r h:=.of func189 {mod:=[(2,1,[(0,[0,9,10,11])]),(3,1,[(0,[0,9,10,11])])]} H
def aaV(H:cb 188 [.az 0 0] [K8 j a b c d e f g i k l m] fun y=>aI y (∃n o p q s,ak 134 [.az 0 0] [K8 j a b c d e f g i k l m] [vS n] [K8 o a b c d e f g i p q s]/\Fi r h [.agg [N 5,S [],S n,U 0,L 5 []]] [K8 o a b c d e f g i p q s])
 (∃t u v w x,ak 259 [.az 0 0,vU 18446744073709551615] [K8 j a b c d e f g i k l m] [vU t] [K8 u a b c d e f g i v w x]/\Fi r h [.agg [N 7,S [],S [],U t,L 5 []]] [K8 u a b c d e f g i v w x])):
  ak 189 [.az 0 0] [K8 j a b c d e f g i k l m] r h:=.of func189 {mod:=[(2,1,[(0,[0,9,10,11])]),(3,1,[(0,[0,9,10,11])])]} H
def aft(H:∃q m,ak 133 [.az 0 0,vN o,vS p] [K7 n a b c d e f g i j k l] [vB q] [K7 m a b c d e f g i j k l]/\aI (!q) (∃s t u,ak 100 [.az 0 0] [K7 m a b c d e f g i j k l] [.agg [N s,N t,C u]] [K7 m a b c d e f g i j k l]/\∃v w x,ak 99 [.az 0 0,.agg [N s,N t,C u],vN 3] [K7 m a b c d e f g i j k l] [] [K7 m a b c d e f g i v w x]/\Fi r h [] [K7 m a b c d e f g i v w x])
 (Fi r h [] [K7 m a b c d e f g i j k l])):
  ak 190 [.az 0 0,vN o,vS p] [K7 n a b c d e f g i j k l] r h:=.of func190 {mod:=[(0,3,[(0,[0])]),(1,3,[(0,[9,10,11])])]} H
def afu(H:LY 260 [.az 0 0] [K7 a b c d e f g i j k l m] fun n D=>aI (!D) (∃o p q,ak 100 [.az 0 0] [K7 a b c d e f g i j k l m] [.agg [N o,N p,C q]] [K7 a b c d e f g i j k l m]/\∃s t u,ak 99 [.az 0 0,.agg [N o,N p,C q],vN 3] [K7 a b c d e f g i j k l m] [] [K7 a b c d e f g i j s t u]/\Fi r h [.agg [N 0,N 0]] [K7 a b c d e f g i j s t u])
 ((0<=(1:Int)/\(1:Int)<=(a.length:Int)/\(a.length:Int)<=(a.length:Int))/\cb 182 [vL 1 [[N 3],[N 4],[N 5]],vN n] [] fun E=>aI E (∃v w x y z,ak 261 [.az 0 0] [K7 (drop 1 (take a.length a)) b c d e f g i j k l m] [vN v] [K7 w b c d e f g i j x y z]/\Fi r h [.agg [N n,N v]] [K7 w b c d e f g i j x y z])
 (Fi r h [.agg [N n,N 0]] [K7 (drop 1 (take a.length a)) b c d e f g i j k l m]))):
  ak 191 [.az 0 0] [K7 a b c d e f g i j k l m] r h:=.of func191 {an:=[(7,2,ah)],mod:=[(3,3,[(0,[9,10,11])]),(8,1,[(0,[0,9,10,11])])]} H
def afv(j q:Rw)(H:∃k l m v w x y,ak 193 [.az 0 0] [K7 q a b c d e f g i s t u] [.agg [S k,L 1 l,L 5 m]] [K7 v a b c d e f g i w x y]/\(j++([[S k,L 1 l,L 5 m]]:Rw)).length*64<=2^47/\Fi r h [] [.aH [vS n,vN o,vN p,O 3 (j++([[S k,L 1 l,L 5 m]]:Rw))],.aH [.az 2 0],K7 v a b c d e f g i w x y]):
  ak 192 [.az 0 0,.az 1 0] [.aH [vS n,vN o,vN p,O 3 j],.aH [.az 2 0],K7 q a b c d e f g i s t u] r h:=.of func192 {an:=[(0,1,jj),(0,2,eP),(0,3,gw),(0,7,jj)],mod:=[(0,3,[(0,[0,9,10,11])])]} H
def afw(j7:∃m b7 j k l,ak 134 [.az 0 0] [K7 b3 a b c d e f g i b4 b5 b6] [vS m] [K7 b7 a b c d e f g i j k l]/\∃b8 u,ak 133 [.az 0 0,vN 3,vS [40]] [K7 b7 a b c d e f g i j k l] [vB b8] [K7 u a b c d e f g i j k l]/\aI b8 (∃b9 v,ak 133 [.az 0 0,vN 3,vS [41]] [K7 u a b c d e f g i j k l] [vB b9] [K7 v a b c d e f g i j k l]/\aI (!b9) (∃w c0 c1 c2 c3,ak 194 [.az 0 0] [K7 v a b c d e f g i j k l] [vL 1 w] [K7 c0 a b c d e f g i c1 c2 c3]/\∃a9 n o p,ak 190 [.az 0 0,vN 3,vS [41]] [K7 c0 a b c d e f g i c1 c2 c3] [] [K7 a9 a b c d e f g i n o p]/\∃c4 c5 c6,ak 100 [.az 0 0] [K7 a9 a b c d e f g i n o p] [.agg [N c4,N c5,C c6]] [K7 a9 a b c d e f g i n o p]/\∃c7 b0,ak 133 [.az 0 0,vN 3,vS [123]] [K7 a9 a b c d e f g i n o p] [vB c7] [K7 b0 a b c d e f g i n o p]/\aI (!c7) (Fi r h [.agg [S m,L 1 w,L 5 []]] [K7 b0 a b c d e f g i n o p])
 (∃x y z D E q G I J,ak 262 [.az 0 0] [K7 b0 a b c d e f g i n o p] [.agg [N x,S y,S z,U D,L 5 E]] [K7 q a b c d e f g i G I J]/\cb 97 [.az 0 0] [K7 q a b c d e f g i G I J] fun j1=>aI j1 (kQ 263 [.agg [N x,S y,S z,U D,L 5 E]] [] fun j2=>bP (j2>30) (∃c8 c9 d0,ak 99 [.az 0 0,.agg [N c4,N c5,C c6],vN 6] [K7 q a b c d e f g i G I J] [] [K7 q a b c d e f g i c8 c9 d0]/\∃d1 d2 d3 d4,ak 190 [.az 0 0,vN 3,vS [125]] [K7 q a b c d e f g i c8 c9 d0] [] [K7 d1 a b c d e f g i d2 d3 d4]/\Fi r h [.agg [S m,L 1 w,L 5 [[N x,S y,S z,U D,L 5 E]]]] [K7 d1 a b c d e f g i d2 d3 d4])
 (∃d5 d6 d7 d8,ak 190 [.az 0 0,vN 3,vS [125]] [K7 q a b c d e f g i G I J] [] [K7 d5 a b c d e f g i d6 d7 d8]/\Fi r h [.agg [S m,L 1 w,L 5 [[N x,S y,S z,U D,L 5 E]]]] [K7 d5 a b c d e f g i d6 d7 d8])) (∃d9 e0 e1 e2,ak 190 [.az 0 0,vN 3,vS [125]] [K7 q a b c d e f g i G I J] [] [K7 d9 a b c d e f g i e0 e1 e2]/\Fi r h [.agg [S m,L 1 w,L 5 [[N x,S y,S z,U D,L 5 E]]]] [K7 d9 a b c d e f g i e0 e1 e2])))
 (∃e3 e4 e5,ak 100 [.az 0 0] [K7 v a b c d e f g i j k l] [.agg [N e3,N e4,C e5]] [K7 v a b c d e f g i j k l]/\∃e6 b1,ak 133 [.az 0 0,vN 3,vS [123]] [K7 v a b c d e f g i j k l] [vB e6] [K7 b1 a b c d e f g i j k l]/\aI (!e6) (Fi r h [.agg [S m,L 1 [],L 5 []]] [K7 b1 a b c d e f g i j k l])
 (∃K M Q T X s Y Z H,ak 262 [.az 0 0] [K7 b1 a b c d e f g i j k l] [.agg [N K,S M,S Q,U T,L 5 X]] [K7 s a b c d e f g i Y Z H]/\cb 97 [.az 0 0] [K7 s a b c d e f g i Y Z H] fun j3=>aI j3 (kQ 263 [.agg [N K,S M,S Q,U T,L 5 X]] [] fun j4=>bP (j4>30) (∃e7 e8 e9,ak 99 [.az 0 0,.agg [N e3,N e4,C e5],vN 6] [K7 s a b c d e f g i Y Z H] [] [K7 s a b c d e f g i e7 e8 e9]/\∃f0 f1 f2 f3,ak 190 [.az 0 0,vN 3,vS [125]] [K7 s a b c d e f g i e7 e8 e9] [] [K7 f0 a b c d e f g i f1 f2 f3]/\Fi r h [.agg [S m,L 1 [],L 5 [[N K,S M,S Q,U T,L 5 X]]]] [K7 f0 a b c d e f g i f1 f2 f3])
 (∃f4 f5 f6 f7,ak 190 [.az 0 0,vN 3,vS [125]] [K7 s a b c d e f g i Y Z H] [] [K7 f4 a b c d e f g i f5 f6 f7]/\Fi r h [.agg [S m,L 1 [],L 5 [[N K,S M,S Q,U T,L 5 X]]]] [K7 f4 a b c d e f g i f5 f6 f7])) (∃f8 f9 g0 g1,ak 190 [.az 0 0,vN 3,vS [125]] [K7 s a b c d e f g i Y Z H] [] [K7 f8 a b c d e f g i f9 g0 g1]/\Fi r h [.agg [S m,L 1 [],L 5 [[N K,S M,S Q,U T,L 5 X]]]] [K7 f8 a b c d e f g i f9 g0 g1])))) (∃g2 g3 g4,ak 100 [.az 0 0] [K7 u a b c d e f g i j k l] [.agg [N g2,N g3,C g4]] [K7 u a b c d e f g i j k l]/\∃g5 b2,ak 133 [.az 0 0,vN 3,vS [123]] [K7 u a b c d e f g i j k l] [vB g5] [K7 b2 a b c d e f g i j k l]/\aI (!g5) (Fi r h [.agg [S m,L 1 [],L 5 []]] [K7 b2 a b c d e f g i j k l])
 (∃F A R a4 a5 t a6 a7 a8,ak 262 [.az 0 0] [K7 b2 a b c d e f g i j k l] [.agg [N F,S A,S R,U a4,L 5 a5]] [K7 t a b c d e f g i a6 a7 a8]/\cb 97 [.az 0 0] [K7 t a b c d e f g i a6 a7 a8] fun j5=>aI j5 (kQ 263 [.agg [N F,S A,S R,U a4,L 5 a5]] [] fun j6=>bP (j6>30) (∃g6 g7 g8,ak 99 [.az 0 0,.agg [N g2,N g3,C g4],vN 6] [K7 t a b c d e f g i a6 a7 a8] [] [K7 t a b c d e f g i g6 g7 g8]/\∃g9 i0 i1 i2,ak 190 [.az 0 0,vN 3,vS [125]] [K7 t a b c d e f g i g6 g7 g8] [] [K7 g9 a b c d e f g i i0 i1 i2]/\Fi r h [.agg [S m,L 1 [],L 5 [[N F,S A,S R,U a4,L 5 a5]]]] [K7 g9 a b c d e f g i i0 i1 i2])
 (∃i3 i4 i5 i6,ak 190 [.az 0 0,vN 3,vS [125]] [K7 t a b c d e f g i a6 a7 a8] [] [K7 i3 a b c d e f g i i4 i5 i6]/\Fi r h [.agg [S m,L 1 [],L 5 [[N F,S A,S R,U a4,L 5 a5]]]] [K7 i3 a b c d e f g i i4 i5 i6])) (∃i7 i8 i9 j0,ak 190 [.az 0 0,vN 3,vS [125]] [K7 t a b c d e f g i a6 a7 a8] [] [K7 i7 a b c d e f g i i8 i9 j0]/\Fi r h [.agg [S m,L 1 [],L 5 [[N F,S A,S R,U a4,L 5 a5]]]] [K7 i7 a b c d e f g i i8 i9 j0])))):
  ak 193 [.az 0 0] [K7 b3 a b c d e f g i b4 b5 b6] r h:=.of func193 {an:=[(9,4,ah)],mod:=[(1,1,[(0,[0,9,10,11])]),(2,1,[(0,[0])]),(2,4,[(0,[0])]),(3,1,[(0,[0,9,10,11])]),(4,1,[(0,[0,9,10,11])]),(6,1,[(0,[0])]),(8,1,[(0,[0,9,10,11])]),(10,2,[(0,[9,10,11])]),(11,1,[(0,[0,9,10,11])])]} j7
abbrev E6(a b:Rw)(c d:Int)(e:Cx)(f g i:Rw)(j k l m:Int)(n:Cx)r h:=Lp f194 0 ⟨aO 15 [(0,.az 0 0),(3,.own 0 0 1 a)],[some 0],[K7 b c d e f g i j k l m n]⟩ 1 r h
def aaW:df:={an:=[(1,2,{bF:=true})],mod:=[(1,1,[(0,[0,9,10,11])]),(2,1,[(0,[0])]),(3,2,[(0,[0,9,10,11])])],cut:=[(2,{bl:=[0,3],cN:=[(3,1)],owns:=[3]})]}
def afx(H:∃n o p q s,ak 134 [.az 0 0] [K7 j a b c d e f g i k l m] [vS n] [K7 o a b c d e f g i p q s]/\E6 [[S n]] o a b c d e f g i p q s r h):
  ak 194 [.az 0 0] [K7 j a b c d e f g i k l m] r h:=.of func194 aaW H
def YT(m p:Rw)(H:∃q n,ak 133 [.az 0 0,vN 3,vS [44]] [K7 p a b c d e f g i j k l] [vB q] [K7 n a b c d e f g i j k l]/\aI q (∃o s t u v,ak 134 [.az 0 0] [K7 n a b c d e f g i j k l] [vS o] [K7 s a b c d e f g i t u v]/\(m++([[S o]]:Rw)).length*16<=2^47/\E6 (m++([[S o]]:Rw)) s a b c d e f g i t u v r h)
 (Fi r h [.own 0 0 1 m] [K7 n a b c d e f g i j k l])):
  E6 m p a b c d e f g i j k l r h:=.of aaW H
abbrev zT(a:Rw)(b c:Int)(d:Cx)(e f g:Rw)(i j k l:Int)(m:Cx)r h:=Rp f259 6 ⟨aO 57 [(0,.az 0 0)],[],[K7 a b c d e f g i j k l m]⟩ 1 r h
def aaX:df:={an:=[(1,3,aa),(1,4,aa),(1,5,aa),(1,6,aa),(1,7,aa),(1,8,aa),(1,17,ah),(2,6,ah),(2,7,ah),(3,2,aa),(3,3,aa),(3,4,aa)],mod:=[(6,3,[(0,[9,10,11])])],join:=[(6,{bl:=[0]})]}
def afy(H:cb 97 [.az 0 0] [K7 a b c d e f g i j k l m] fun q=>aI (bif q then(decide ((a.length:Int)>0))else false) (di a 0 fun s u v w=>aI (s==2) (di a 0 fun x t y z=>∃n p,ak 251 [vS t] [] [vU n,vB p] []/\aI (bif p then(decide (n<=o))else false) ((0<=(1:Int)/\(1:Int)<=(a.length:Int)/\(a.length:Int)<=(a.length:Int))/\Fi r h [vU n] [K7 (drop 1 (take a.length a)) b c d e f g i j k l m])
 (zT a b c d e f g i j k l m r h))
 (zT a b c d e f g i j k l m r h)) (zT a b c d e f g i j k l m r h)):
  ak 259 [.az 0 0,vU o] [K7 a b c d e f g i j k l m] r h:=.of func259 aaX H
def YU(H:∃n o p,ak 100 [.az 0 0] [K7 a b c d e f g i j k l m] [.agg [N n,N o,C p]] [K7 a b c d e f g i j k l m]/\∃q s t,ak 99 [.az 0 0,.agg [N n,N o,C p],vN 3] [K7 a b c d e f g i j k l m] [] [K7 a b c d e f g i j q s t]/\Fi r h [vU 0] [K7 a b c d e f g i j q s t]):
  zT a b c d e f g i j k l m r h:=x7.of aaX H
abbrev vn(a:Rw)(b c:Int)(d:Cx)(e f g:Rw)(i j k l:Int)(m:Cx)r h:=Rp f259 6 ⟨aO 57 [(0,.az 0 0)],[],[K8 a b c d e f g i j k l m]⟩ 1 r h
def Ww:df:={an:=[(1,3,aa),(1,4,aa),(1,5,aa),(1,6,aa),(1,7,aa),(1,8,aa),(1,17,ah),(2,6,ah),(2,7,ah),(3,2,aa),(3,3,aa),(3,4,aa)],mod:=[(6,3,[(0,[9,10,11])])],join:=[(6,{bl:=[0]})]}
def aaY(H:cb 97 [.az 0 0] [K8 a b c d e f g i j k l m] fun q=>aI (bif q then(decide ((a.length:Int)>0))else false) (di a 0 fun s u v w=>aI (s==2) (di a 0 fun x t y z=>∃n p,ak 251 [vS t] [] [vU n,vB p] []/\aI (bif p then(decide (n<=o))else false) ((0<=(1:Int)/\(1:Int)<=(a.length:Int)/\(a.length:Int)<=(a.length:Int))/\Fi r h [vU n] [K8 (drop 1 (take a.length a)) b c d e f g i j k l m])
 (vn a b c d e f g i j k l m r h))
 (vn a b c d e f g i j k l m r h)) (vn a b c d e f g i j k l m r h)):
  ak 259 [.az 0 0,vU o] [K8 a b c d e f g i j k l m] r h:=.of func259 Ww H
def UY(H:∃n o p,ak 100 [.az 0 0] [K8 a b c d e f g i j k l m] [.agg [N n,N o,C p]] [K8 a b c d e f g i j k l m]/\∃q s t,ak 99 [.az 0 0,.agg [N n,N o,C p],vN 3] [K8 a b c d e f g i j k l m] [] [K8 a b c d e f g i j q s t]/\Fi r h [vU 0] [K8 a b c d e f g i j q s t]):
  vn a b c d e f g i j k l m r h:=x7.of Ww H
def afz(H:cb 97 [.az 0 0] [K7 a b c d e f g i j k l m] fun n=>aI (bif(!n)then true else((a.length:Int)==0)) (Fi r h [vN 0,vB false] [K7 a b c d e f g i j k l m]) (di a 0 fun o t u v=>aI (o !=1) (Fi r h [vN 0,vB false] [K7 a b c d e f g i j k l m])
 (di a 0 fun w p x y=>LY 322 [vS p] [] fun q s=>Fi r h [vN q,vB s] [K7 a b c d e f g i j k l m]))):
  ak 260 [.az 0 0] [K7 a b c d e f g i j k l m] r h:=.of func260 {an:=[(1,4,aa),(1,5,aa),(1,6,aa),(1,7,aa),(1,8,aa),(1,9,aa),(1,18,ah),(3,6,ah),(3,7,ah)]} H
def afA(H:∃n o p q,ak 190 [.az 0 0,vN 3,vS [40]] [K7 j a b c d e f g i k l m] [] [K7 n a b c d e f g i o p q]/\∃s t u v w,ak 259 [.az 0 0,vU 65535] [K7 n a b c d e f g i o p q] [vU s] [K7 t a b c d e f g i u v w]/\∃x y z D,ak 190 [.az 0 0,vN 3,vS [41]] [K7 t a b c d e f g i u v w] [] [K7 x a b c d e f g i y z D]/\Fi r h [vN (wrap .i64 s)] [K7 x a b c d e f g i y z D]):
  ak 261 [.az 0 0] [K7 j a b c d e f g i k l m] r h:=.of func261 {mod:=[(1,1,[(0,[0,9,10,11])]),(2,1,[(0,[0,9,10,11])]),(3,1,[(0,[0,9,10,11])])]} H
def E7(a:Rw)(b c:Int)(d:Cx)(e f g:Rw)(i j k l:Int)(m:Cx)(n:Int)(o p:By)(q:Int)(s:Rw)(t:Int)(u v:By)(w:Int)(x:Rw):St:=⟨aO 14 [(0,.az 0 0),(2,.az 1 0),(3,.az 2 0)],[],[K7 a b c d e f g i j k l m,.aH [vN n,vS o,vS p,vU q,O 5 s],.aH [vN t,vS u,vS v,vU w,vL 5 x]]⟩
def aaZ:df:={an:=[(3,0,gw),(3,2,fv),(3,5,gw)],mod:=[(1,1,[(0,[0,9,10,11])]),(2,1,[(0,[0])]),(3,2,[(0,[0,9,10,11])])],cut:=[(2,{bl:=[0,2,3]})]}
def afB(H:∃n o p q s t u v w,ak 323 [.az 0 0] [K7 j a b c d e f g i k l m] [.agg [N n,S o,S p,U q,L 5 s]] [K7 t a b c d e f g i u v w]/\Lp f262 0 (E7 t a b c d e f g i u v w 0 [] [] 0 [] n o p q s) 1 r h):
  ak 262 [.az 0 0] [K7 j a b c d e f g i k l m] r h:=.of func262 aaZ H
def YV(H:∃z s,ak 133 [.az 0 0,vN 3,vS [124,124]] [K7 t a b c d e f g i j k l] [vB z] [K7 s a b c d e f g i j k l]/\aI z (∃D E G I J K M Q T,ak 323 [.az 0 0] [K7 s a b c d e f g i j k l] [.agg [N D,S E,S G,U I,L 5 J]] [K7 K a b c d e f g i M Q T]/\Lp f262 0 (E7 K a b c d e f g i M Q T u v w x y 1 [] [] 0 [[N m,S n,S o,U p,L 5 q],[N D,S E,S G,U I,L 5 J]]) 1 r h)
 (Fi r h [.agg [N m,S n,S o,U p,L 5 q]] [K7 s a b c d e f g i j k l])):
  Lp f262 0 (E7 t a b c d e f g i j k l u v w x y m n o p q) 1 r h:=.of aaZ H
def afC(a:By)(H:aI (a==[65,76,76,79,87]) (Fi r h [vN 7,vB true] [])
 (aI (a==[76,79,71]) (Fi r h [vN 6,vB true] [])
 (aI (a==[75,73,76,76]) (Fi r h [vN 2,vB true] [])
 (aI (a==[75,73,76,76,95,80,82,79,67,69,83,83]) (Fi r h [vN 1,vB true] [])
 (aI (a==[84,82,65,80]) (Fi r h [vN 3,vB true] [])
 (aI (a==[69,82,82,78,79]) (Fi r h [vN 4,vB true] [])
 (aI (a==[84,82,65,67,69]) (Fi r h [vN 5,vB true] [])
 (Fi r h [vN 0,vB false] [])))))))):
  ak 322 [vS a] [] r h:=.of func322 {} H
def E8(a:Rw)(b c:Int)(d:Cx)(e f g:Rw)(i j k l:Int)(m:Cx)(n:Int)(o p:By)(q:Int)(s:Rw)(t:Int)(u v:By)(w:Int)(x:Rw):St:=⟨aO 14 [(0,.az 0 0),(2,.az 1 0),(3,.az 2 0)],[],[K7 a b c d e f g i j k l m,.aH [vN n,vS o,vS p,vU q,O 5 s],.aH [vN t,vS u,vS v,vU w,vL 5 x]]⟩
def aa0:df:={an:=[(3,0,gw),(3,2,fv),(3,5,gw)],mod:=[(1,1,[(0,[0,9,10,11])]),(2,1,[(0,[0])]),(3,2,[(0,[0,9,10,11])])],cut:=[(2,{bl:=[0,2,3]})]}
def afD(H:∃n o p q s t u v w,ak 353 [.az 0 0] [K7 j a b c d e f g i k l m] [.agg [N n,S o,S p,U q,L 5 s]] [K7 t a b c d e f g i u v w]/\Lp f323 0 (E8 t a b c d e f g i u v w 0 [] [] 0 [] n o p q s) 1 r h):
  ak 323 [.az 0 0] [K7 j a b c d e f g i k l m] r h:=.of func323 aa0 H
def YW(H:∃z s,ak 133 [.az 0 0,vN 3,vS [38,38]] [K7 t a b c d e f g i j k l] [vB z] [K7 s a b c d e f g i j k l]/\aI z (∃D E G I J K M Q T,ak 353 [.az 0 0] [K7 s a b c d e f g i j k l] [.agg [N D,S E,S G,U I,L 5 J]] [K7 K a b c d e f g i M Q T]/\Lp f323 0 (E8 K a b c d e f g i M Q T u v w x y 2 [] [] 0 [[N m,S n,S o,U p,L 5 q],[N D,S E,S G,U I,L 5 J]]) 1 r h)
 (Fi r h [.agg [N m,S n,S o,U p,L 5 q]] [K7 s a b c d e f g i j k l])):
  Lp f323 0 (E8 t a b c d e f g i j k l u v w x y m n o p q) 1 r h:=.of aa0 H
def afE(e6:∃v p,ak 133 [.az 0 0,vN 3,vS [33]] [K7 u a b c d e f g i j k l] [vB v] [K7 p a b c d e f g i j k l]/\aI v (∃w x y z D E G I J,ak 353 [.az 0 0] [K7 p a b c d e f g i j k l] [.agg [N w,S x,S y,U z,L 5 D]] [K7 E a b c d e f g i G I J]/\Fi r h [.agg [N 3,S [],S [],U 0,L 5 [[N w,S x,S y,U z,L 5 D]]]] [K7 E a b c d e f g i G I J])
 (∃K q,ak 133 [.az 0 0,vN 3,vS [40]] [K7 p a b c d e f g i j k l] [vB K] [K7 q a b c d e f g i j k l]/\aI K (∃M Q T X Y Z H F A,ak 262 [.az 0 0] [K7 q a b c d e f g i j k l] [.agg [N M,S Q,S T,U X,L 5 Y]] [K7 Z a b c d e f g i H F A]/\∃R a4 a5 a6,ak 190 [.az 0 0,vN 3,vS [41]] [K7 Z a b c d e f g i H F A] [] [K7 R a b c d e f g i a4 a5 a6]/\Fi r h [.agg [N M,S Q,S T,U X,L 5 Y]] [K7 R a b c d e f g i a4 a5 a6])
 (∃s a7 m n o,ak 134 [.az 0 0] [K7 q a b c d e f g i j k l] [vS s] [K7 a7 a b c d e f g i m n o]/\∃a8 t,ak 133 [.az 0 0,vN 3,vS [38]] [K7 a7 a b c d e f g i m n o] [vB a8] [K7 t a b c d e f g i m n o]/\aI a8 (∃a9 b0 b1 b2 b3 b4 b5 b6 b7,ak 189 [.az 0 0] [K7 t a b c d e f g i m n o] [.agg [N a9,S b0,S b1,U b2,L 5 b3]] [K7 b4 a b c d e f g i b5 b6 b7]/\∃b8 b9 c0 c1 c2,ak 361 [.az 0 0] [K7 b4 a b c d e f g i b5 b6 b7] [vS b8] [K7 b9 a b c d e f g i c0 c1 c2]/\∃c3 c4 c5 c6 c7 c8 c9 d0 d1,ak 135 [.az 0 0] [K7 b9 a b c d e f g i c0 c1 c2] [.agg [N c3,S c4,S c5,U c6,L 5 c7]] [K7 c8 a b c d e f g i c9 d0 d1]/\Fi r h [.agg [N 4,S b8,S [],U 0,L 5 [[N 6,S [],S s,U 0,L 5 [[N a9,S b0,S b1,U b2,L 5 b3]]],[N c3,S c4,S c5,U c6,L 5 c7]]]] [K7 c8 a b c d e f g i c9 d0 d1])
 (∃d2 d3 d4 d5 d6,ak 361 [.az 0 0] [K7 t a b c d e f g i m n o] [vS d2] [K7 d3 a b c d e f g i d4 d5 d6]/\∃d7 d8 d9 e0 e1 e2 e3 e4 e5,ak 135 [.az 0 0] [K7 d3 a b c d e f g i d4 d5 d6] [.agg [N d7,S d8,S d9,U e0,L 5 e1]] [K7 e2 a b c d e f g i e3 e4 e5]/\Fi r h [.agg [N 4,S d2,S [],U 0,L 5 [[N 5,S [],S s,U 0,L 5 []],[N d7,S d8,S d9,U e0,L 5 e1]]]] [K7 e2 a b c d e f g i e3 e4 e5])))):
  ak 353 [.az 0 0] [K7 u a b c d e f g i j k l] r h:=.of func353 {an:=[(11,1,gw),(11,3,fv),(11,6,eP)],mod:=[(1,1,[(0,[0])]),(2,1,[(0,[0,9,10,11])]),(3,1,[(0,[0])]),(4,1,[(0,[0,9,10,11])]),(5,1,[(0,[0,9,10,11])]),(7,1,[(0,[0,9,10,11])]),(8,1,[(0,[0])]),(9,1,[(0,[0,9,10,11])]),(10,1,[(0,[0,9,10,11])]),(11,3,[(0,[0,9,10,11])])]} e6
abbrev E9(a:Rw)(b c:Int)(d:Rw)(e f:Int)(g:Cx)(i j k:Rw)(l m n o:Int)(p:Cx)r h:=Lp f361 0 ⟨aO 20 [(0,.az 0 0),(5,vL 1 a),(6,vN b),(7,vN c)],[],[K7 d e f g i j k l m n o p]⟩ 1 r h
def aa1:df:={an:=[(3,1,ah)],mod:=[(4,2,[(0,[0])]),(7,3,[(0,[9,10,11])])],cut:=[(2,{bl:=[0,5,6,7]})]}
def afF(H:E9 [[S [61,61]],[S [33,61]],[S [60]],[S [60,61]],[S [62]],[S [62,61]]] 6 0 a b c d e f g i j k l m r h):
  ak 361 [.az 0 0] [K7 a b c d e f g i j k l m] r h:=.of func361 aa1 H
def RB(H:bP (n<p) (Hc o n fun z=>∃s q,ak 133 [.az 0 0,vN 3,vS z] [K7 m a b c d e f g i j k l] [vB s] [K7 q a b c d e f g i j k l]/\aI s (Fi r h [vS z] [K7 q a b c d e f g i j k l])
 (aq (n+1)/\E9 o p (n+1) q a b c d e f g i j k l r h))
 (∃t u v,ak 100 [.az 0 0] [K7 m a b c d e f g i j k l] [.agg [N t,N u,C v]] [K7 m a b c d e f g i j k l]/\∃w x y,ak 99 [.az 0 0,.agg [N t,N u,C v],vN 3] [K7 m a b c d e f g i j k l] [] [K7 m a b c d e f g i w x y]/\Fi r h [vS []] [K7 m a b c d e f g i w x y])):
  E9 o p n m a b c d e f g i j k l r h:=.of aa1 H
def afG(H:cb 142 [vL 6 d,.fn (.func 143) [] []] [] fun f=>aI f (cb 146 [vL 2 e,.fn (.func 147) [] []] [] fun g=>aI (bif g then(decide ((a.length:Int)>0))else false) (cb 150 [vL 1 a,.fn (.func 144) [] []] [] fun i=>aI i (cb 151 [.agg [N b,N c]] [] fun j=>Fi r h [vB j] []) (Fi r h [vB false] [])) (Fi r h [vB false] [])) (aI (bif false then(decide ((a.length:Int)>0))else false) (cb 150 [vL 1 a,.fn (.func 144) [] []] [] fun k=>aI k (cb 151 [.agg [N b,N c]] [] fun l=>Fi r h [vB l] []) (Fi r h [vB false] [])) (Fi r h [vB false] []))):
  ak 102 [.agg [L 6 d,L 2 e,L 1 a,N b,N c]] [] r h:=.of func102 {an:=[(1,9,aa),(1,10,aa),(1,11,aa),(1,12,aa),(1,22,ah)]} H
def RC(H:cb 200 [vL 6 a,.fn (.func 201) [] [.az 0 0]] [.aH [.fn (.func 143) [] []]] fun b=>Fi r h [vB (!b)] []):
  ak 142 [vL 6 a,.fn (.func 143) [] []] [] r h:=.of func142 {} H
def afH(H:cb 144 [vS a] [] fun g=>aI g (cb 145 [.agg [N b,S c,S d,U e,L 5 f]] [] fun i=>Fi r h [vB i] []) (Fi r h [vB false] [])):
  ak 143 [.agg [S a,N b,S c,S d,U e,L 5 f]] [] r h:=.of func143 {an:=[(1,2,ah),(1,6,ah)]} H
def afI(a:By)(H:cb 202 [vS a] [] fun b=>aI b (cb 203 [vL 1 [[S [80,79,76,73,67,89]],[S [85,83,69]],[S [68,69,70,65,85,76,84]],[S [65,76,76,79,87]],[S [76,79,71]],[S [75,73,76,76]],[S [75,73,76,76,95,80,82,79,67,69,83,83]],[S [84,82,65,80]],[S [69,82,82,78,79]],[S [84,82,65,67,69]]],vS a] [] fun c=>Fi r h [vB (!c)] []) (Fi r h [vB false] [])):
  ak 144 [vS a] [] r h:=.of func144 {an:=[(1,1,ah),(1,5,ah)]} H
abbrev Fa(a:Int)(b c:By)(d:Int)(e:Rw)r h:=Lp f145 0 ⟨aO 26 [(1,.az 0 0)],[],[.aH [vN a,vS b,vS c,vU d,vL 5 e]]⟩ 0 r h
def aa2:df:={an:=[(2,1,ah),(3,5,ah),(6,1,ah)],cut:=[(1,{bl:=[1]})]}
def afJ(H:Fa a b c d e r h):
  ak 145 [.agg [N a,S b,S c,U d,L 5 e]] [] r h:=.of func145 aa2 H
def YX(H:aI (a==8) (∃f,ak 204 [.agg [N a,S b,S c,U d,L 5 e]] [] [.xp f] []/\(((∀cs,f≠some (331,cs))/\Fi r h [vB false] [])\/(∃g i j k l m n o p q,f=some (331,[N g,S i,S j,U k,L 5 l,N m,S n,S o,U p,L 5 q])/\cb 205 [.agg [N m,S n,S o,U p,L 5 q]] [] fun s=>aI (!s) (Fi r h [vB false] [])
 (Fa g i j k l r h))))
 (cb 205 [.agg [N a,S b,S c,U d,L 5 e]] [] fun t=>Fi r h [vB t] [])):
  Fa a b c d e r h:=.of aa2 H
def RD(H:cb 206 [vL 2 a,.fn (.func 207) [] [.az 0 0]] [.aH [.fn (.func 147) [] []]] fun b=>Fi r h [vB (!b)] []):
  ak 146 [vL 2 a,.fn (.func 147) [] []] [] r h:=.of func146 {} H
def afK(H:cb 144 [vS a] [] fun c=>aI c (cb 148 [vL 4 b,.fn (.func 149) [] []] [] fun d=>Fi r h [vB d] []) (Fi r h [vB false] [])):
  ak 147 [.agg [S a,L 4 b]] [] r h:=.of func147 {an:=[(1,2,ah)]} H
def RE(H:cb 208 [vL 4 a,.fn (.func 209) [] [.az 0 0]] [.aH [.fn (.func 149) [] []]] fun b=>Fi r h [vB (!b)] []):
  ak 148 [vL 4 a,.fn (.func 149) [] []] [] r h:=.of func148 {} H
def afL(b:By)(H:aI (!(b==[])) (cb 144 [vS b] [] fun e=>aI e (Fi r h [vB (bif((true&&(c==0))&&(d==0))then((a.length:Int)==0)else false)] []) (Fi r h [vB (bif false then((a.length:Int)==0)else false)] []))
 (cb 151 [.agg [N c,N d]] [] fun f=>aI f (cb 210 [vL 3 a,.fn (.func 211) [] []] [] fun g=>Fi r h [vB g] []) (Fi r h [vB false] []))):
  ak 149 [.agg [S b,N c,N d,L 3 a]] [] r h:=.of func149 {an:=[(2,2,ah),(2,10,aa),(2,11,aa),(2,12,aa),(2,13,aa),(3,2,ah)]} H
def RF(H:cb 212 [vL 1 a,.fn (.func 213) [] [.az 0 0]] [.aH [.fn (.func 144) [] []]] fun b=>Fi r h [vB (!b)] []):
  ak 150 [vL 1 a,.fn (.func 144) [] []] [] r h:=.of func150 {} H
def afM(H:Jq 106 [.agg [N a,N b]] [] fun d c=>Fi r h [vB c] []):
  ak 151 [.agg [N a,N b]] [] r h:=.of func151 {an:=[(1,1,ah)]} H
def afN(H:Hb 217 [vL 1 b] [] fun d=>Kf 218 [vL 5 c] [] fun e=>Fi r h [.agg [S a,L 1 d,L 5 e]] []):
  ak 154 [.agg [S a,L 1 b,L 5 c]] [] r h:=.of func154 {an:=[(1,2,ah),(2,2,ah)]} H
def RG(H:cb 143 [.agg [S a,N b,S c,S d,U e,L 5 f]] [] fun g=>Fi r h [vB (!g)] [.aH [.fn (.func 143) [] []]]):
  ak 201 [.agg [S a,N b,S c,S d,U e,L 5 f],.az 0 0] [.aH [.fn (.func 143) [] []]] r h:=.of func201 {} H
def afO(c e:By)(H:aI (bif(bif(bif(b==7)then(c==[])else false)then(e==[])else false)then((a.length:Int)==0)else false) (Fi r h [.xp (some (380,[]))] [])
 (aI (bif(bif(b==5)then(bif(c==[])then(d==0)else false)else false)then((a.length:Int)==0)else false) (Fi r h [.xp (some (381,[]))] [])
 (aI (bif(bif(b==6)then(bif(c==[])then(d==0)else false)else false)then((a.length:Int)==1)else false) (br a 0 fun f g i j k=>Fi r h [.xp (some (383,[N f,S g,S i,U j,L 5 k]))] [])
 (aI (bif(bif(bif(b==3)then(bif(c==[])then(d==0)else false)else false)then(e==[])else false)then((a.length:Int)==1)else false) (br a 0 fun l m n o p=>Fi r h [.xp (some (384,[N l,S m,S n,U o,L 5 p]))] [])
 (aI (bif(bif(bif(b==4)then(e==[])else false)then(d==0)else false)then((a.length:Int)==2)else false) (br a 0 fun q s t u v=>br a 1 fun w x y z D=>Fi r h [.xp (some (331,[N q,S s,S t,U u,L 5 v,N w,S x,S y,U z,L 5 D]))] [])
 (cb 268 [.agg [N b,S c,S e,U d,L 5 a]] [] fun E=>aI (bif(bif(bif E then(bif(c==[])then(d==0)else false)else false)then(e==[])else false)then((a.length:Int)==2)else false) (br a 0 fun G I J K M=>br a 1 fun Q T X Y Z=>Fi r h [.xp (some (331,[N G,S I,S J,U K,L 5 M,N Q,S T,S X,U Y,L 5 Z]))] [])
 (Fi r h [.xp none] []))))))):
  ak 204 [.agg [N b,S c,S e,U d,L 5 a]] [] r h:=.of func204 {an:=[(1,4,aa),(1,5,aa),(1,6,aa),(2,4,aa),(2,5,aa),(2,6,aa),(2,9,aa),(2,10,aa),(2,11,aa),(2,14,aa),(2,15,aa),(2,16,aa),(2,17,aa),(4,4,aa),(4,7,aa),(4,8,aa),(4,9,aa),(4,10,aa),(6,4,aa),(6,7,aa),(6,8,aa),(6,9,aa),(6,10,aa),(7,3,ah),(8,4,aa),(8,7,aa),(8,8,aa),(8,9,aa),(8,12,aa),(8,13,aa),(8,14,aa),(8,15,aa),(9,3,ah),(10,4,aa),(10,5,aa),(10,6,aa),(10,9,aa),(10,10,aa),(10,11,aa),(10,14,aa),(10,15,aa),(10,16,aa),(10,17,aa),(11,3,ah),(11,7,ah),(12,1,ah),(12,3,aa),(12,6,aa),(12,7,aa),(12,8,aa),(12,11,aa),(12,12,aa),(12,13,aa),(12,14,aa),(13,3,ah),(13,7,ah)]} H
def afP(H:∃a,ak 204 [.agg [N c,S d,S b,U e,L 5 f]] [] [.xp a] []/\(((∀cs,a≠some (380,cs))/\(((∀cs,a≠some (381,cs))/\Fi r h [vB false] [])\/(a=some (381,[])/\cb 144 [vS b] [] fun g=>Fi r h [vB g] [])))\/(a=some (380,[])/\Fi r h [vB true] []))):
  ak 205 [.agg [N c,S d,S b,U e,L 5 f]] [] r h:=.of func205 {an:=[(1,1,ah),(6,4,ah)]} H
def RH(H:cb 147 [.agg [S a,L 4 b]] [] fun c=>Fi r h [vB (!c)] [.aH [.fn (.func 147) [] []]]):
  ak 207 [.agg [S a,L 4 b],.az 0 0] [.aH [.fn (.func 147) [] []]] r h:=.of func207 {} H
def RI(H:cb 149 [.agg [S a,N b,N c,L 3 d]] [] fun e=>Fi r h [vB (!e)] [.aH [.fn (.func 149) [] []]]):
  ak 209 [.agg [S a,N b,N c,L 3 d],.az 0 0] [.aH [.fn (.func 149) [] []]] r h:=.of func209 {} H
def RJ(H:cb 271 [vL 3 a,.fn (.func 272) [] [.az 0 0]] [.aH [.fn (.func 211) [] []]] fun b=>Fi r h [vB (!b)] []):
  ak 210 [vL 3 a,.fn (.func 211) [] []] [] r h:=.of func210 {} H
def afQ(H:cb 144 [vS b] [] fun d=>aI (!d) (aI (bif true then true else(decide ((a.length:Int)>1))) (Fi r h [vB false] [])
 (cb 273 [vL 5 a,.fn (.func 274) [] []] [] fun e=>Fi r h [vB e] [])) (cb 150 [vL 1 c,.fn (.func 144) [] []] [] fun f=>aI (bif(!f)then true else(decide ((a.length:Int)>1))) (Fi r h [vB false] [])
 (cb 273 [vL 5 a,.fn (.func 274) [] []] [] fun g=>Fi r h [vB g] []))):
  ak 211 [.agg [S b,L 1 c,L 5 a]] [] r h:=.of func211 {an:=[(1,2,ah),(1,11,aa),(1,12,aa),(1,13,aa),(1,14,aa)]} H
def RL(H:cb 144 [vS a] [] fun b=>Fi r h [vB (!b)] [.aH [.fn (.func 144) [] []]]):
  ak 213 [vS a,.az 0 0] [.aH [.fn (.func 144) [] []]] r h:=.of func213 {} H
abbrev Fb(a b:Rw)(c d:Int)r h:=Lp f218 0 ⟨aO 22 [(3,.own 0 0 5 a),(6,vL 5 b),(7,vN c),(8,vN d)],[some 0],[]⟩ 0 r h
def aa3:df:={an:=[(4,1,ah),(5,2,ah)],cut:=[(3,{bl:=[3,6,7,8],cN:=[(3,5)],owns:=[3]})]}
def afR(H:Fb [] a (a.length:Int) 0 r h):
  ak 218 [vL 5 a] [] r h:=.of func218 aa3 H
def RM(b c:Rw)(d a:Int)(H:bP (a<d) (br c a fun e f g i k=>Kf 218 [vL 5 k] [] fun j=>(b++([[N e,S f,S g,U i,L 5 j]]:Rw)).length*72<=2^47/\aq (a+1)/\Fb (b++([[N e,S f,S g,U i,L 5 j]]:Rw)) c d (a+1) r h)
 (Fi r h [.own 0 0 5 b] [])):
  Fb b c d a r h:=.of aa3 H
abbrev Fc(a:Int)(b:Rw)(c d:Int)r h:=Lp f263 0 ⟨aO 20 [(3,vN a),(7,vL 5 b),(8,vN c),(9,vN d)],[],[]⟩ 0 r h
def aa4:df:={an:=[(4,1,ah),(5,2,ah)],cut:=[(3,{bl:=[3,7,8,9]})]}
def afS(b:Int)(c d:By)(e:Int)(a:Rw)(H:Fc 0 a (a.length:Int) 0 r h):
  ak 263 [.agg [N b,S c,S d,U e,L 5 a]] [] r h:=.of func263 aa4 H
def RN(a:Int)(c:Rw)(d b:Int)(H:bP (b<d) (br c b fun f g i j k=>kQ 263 [.agg [N f,S g,S i,U j,L 5 k]] [] fun e=>aq (b+1)/\Fc (if e>a then e else a) c d (b+1) r h)
 (aq (a+1)/\Fi r h [vN (a+1)] [])):
  Fc a c d b r h:=.of aa4 H
def afT(H:Fi r h [vB (bif(bif(a==1)then true else(a==2))then true else(a==8))] []):
  ak 268 [.agg [N a,S b,S c,U d,L 5 e]] [] r h:=.of func268 {an:=[(1,4,aa),(1,5,aa),(1,6,aa),(1,9,aa),(1,10,aa),(1,11,aa)]} H
def RO(H:cb 211 [.agg [S a,L 1 b,L 5 c]] [] fun d=>Fi r h [vB (!d)] [.aH [.fn (.func 211) [] []]]):
  ak 272 [.agg [S a,L 1 b,L 5 c],.az 0 0] [.aH [.fn (.func 211) [] []]] r h:=.of func272 {} H
def RP(H:cb 329 [vL 5 a,.fn (.func 330) [] [.az 0 0]] [.aH [.fn (.func 274) [] []]] fun b=>Fi r h [vB (!b)] []):
  ak 273 [vL 5 a,.fn (.func 274) [] []] [] r h:=.of func273 {} H
def afU(H:cb 275 [.agg [N a,S b,S c,U d,L 5 e]] [] fun f=>aI f (kQ 263 [.agg [N a,S b,S c,U d,L 5 e]] [] fun g=>Fi r h [vB (decide (g<=30))] []) (Fi r h [vB false] [])):
  ak 274 [.agg [N a,S b,S c,U d,L 5 e]] [] r h:=.of func274 {an:=[(1,1,ah),(1,4,ah)]} H
def afV(b3:∃b,ak 204 [.agg [N a,S c,S d,U e,L 5 f]] [] [.xp b] []/\aI (Option.isNone b) (Fi r h [vB false] [])
 (aI (a==1) (∃g i j k l m n o p q,b=some (331,[N g,S i,S j,U k,L 5 l,N m,S n,S o,U p,L 5 q])/\cb 275 [.agg [N g,S i,S j,U k,L 5 l]] [] fun a5=>aI a5 (cb 275 [.agg [N m,S n,S o,U p,L 5 q]] [] fun a6=>Fi r h [vB a6] []) (Fi r h [vB false] []))
 (aI (a==2) (∃s t u v w x y z D E,b=some (331,[N s,S t,S u,U v,L 5 w,N x,S y,S z,U D,L 5 E])/\cb 275 [.agg [N s,S t,S u,U v,L 5 w]] [] fun a7=>aI a7 (cb 275 [.agg [N x,S y,S z,U D,L 5 E]] [] fun a8=>Fi r h [vB a8] []) (Fi r h [vB false] []))
 (aI (a==3) (∃G I J K M,b=some (384,[N G,S I,S J,U K,L 5 M])/\cb 275 [.agg [N G,S I,S J,U K,L 5 M]] [] fun a9=>Fi r h [vB a9] [])
 (aI (a==4) (∃Q T X Y Z H F A R a4,b=some (331,[N Q,S T,S X,U Y,L 5 Z,N H,S F,S A,U R,L 5 a4])/\cb 203 [vL 1 [[S [61,61]],[S [33,61]],[S [60]],[S [60,61]],[S [62]],[S [62,61]]],vS c] [] fun b0=>aI b0 (cb 331 [.agg [N Q,S T,S X,U Y,L 5 Z]] [] fun b1=>aI b1 (cb 145 [.agg [N H,S F,S A,U R,L 5 a4]] [] fun b2=>Fi r h [vB b2] []) (Fi r h [vB false] [])) (Fi r h [vB false] []))
 (Fi r h [vB false] [])))))):
  ak 275 [.agg [N a,S c,S d,U e,L 5 f]] [] r h:=.of func275 {an:=[(1,1,ah),(8,2,ah),(8,6,ah),(10,3,ah),(13,3,ah),(13,7,ah),(13,12,ah)]} b3
def RQ(H:cb 274 [.agg [N a,S b,S c,U d,L 5 e]] [] fun f=>Fi r h [vB (!f)] [.aH [.fn (.func 274) [] []]]):
  ak 330 [.agg [N a,S b,S c,U d,L 5 e],.az 0 0] [.aH [.fn (.func 274) [] []]] r h:=.of func330 {} H
def afW(H:∃a,ak 204 [.agg [N c,S d,S b,U e,L 5 f]] [] [.xp a] []/\(((∀cs,a≠some (381,cs))/\(((∀cs,a≠some (383,cs))/\Fi r h [vB false] [])\/(∃g i j k l,a=some (383,[N g,S i,S j,U k,L 5 l])/\cb 144 [vS b] [] fun m=>aI m (cb 205 [.agg [N g,S i,S j,U k,L 5 l]] [] fun n=>Fi r h [vB n] []) (Fi r h [vB false] []))))\/(a=some (381,[])/\cb 144 [vS b] [] fun o=>Fi r h [vB o] []))):
  ak 331 [.agg [N c,S d,S b,U e,L 5 f]] [] r h:=.of func331 {an:=[(1,1,ah),(4,2,ah),(6,4,ah),(6,9,ah)]} H
def keys:List By:=[[80,79,76,73,67,89],[85,83,69],[68,69,70,65,85,76,84],[65,76,76,79,87],[76,79,71],[75,73,76,76],[75,73,76,76,95,80,82,79,67,69,83,83],[84,82,65,80],[69,82,82,78,79],[84,82,65,67,69]]
def bQ(s:By):Bool:=bif mo s then !gh s keys else false
def zU(s:By)(a:s.length<=2^40):ak 144 [vS s] [] [vB (bQ s)] []:=
 afI s ⟨_,ae3 s a,ad (fun h=>⟨_,UW s keys (by decide),aZ (by rw[bQ,h];rfl)⟩) fun h=>aZ (by rw[bQ,h];rfl)⟩
structure Pa where
 en:Int
 fi:Int
 sp:Cx
 ds:List cZ
 ps:List cW
 mn:List By
 dk:Int
 dd:Int
structure Ps where
 l:List Tok
 e:Int
 f:Int
 c:Cx
abbrev pb(A:Pa)(s:Ps):Bx:=K7 (s.l.map Tok.row) A.en A.fi A.sp (A.ds.map cZ.row) (A.ps.map cW.row) (aJ A.mn) A.dk A.dd s.e s.f s.c
abbrev BQ(A:Pa)(s:Ps):Bx:=K8 (s.l.map Tok.row) A.en A.fi A.sp (A.ds.map cZ.row) (A.ps.map cW.row) (aJ A.mn) A.dk A.dd s.e s.f s.c
abbrev oC(e:Ex):AV:=.agg [N e.kind,S e.op,S e.name,U e.num,L 5 (bt e.kids)]
def lI(s:Ps):Bool:=s.e==0
def kD(A:Pa)(s:Ps):Int×Cx:=match s.l with|[]=>(A.fi,A.sp)|t::_=>(t.file,t.spot)
def qj(s:Ps)(e f:Int)(c:Cx):Ps:={s with e:=bif lI s then e else s.e,f:=bif lI s then f else s.f,c:=bif lI s then c else s.c}
def gz(A:Pa)(s:Ps)(e:Int):Ps:=qj s e (kD A s).1 (kD A s).2
def gR(s:Ps):Option Tok:=bif lI s then s.l.head? else none
def jg(s:Ps)(k:Int)(t:By):Bool:=match gR s with|none=>false|some x=>bif x.kind==k then x.text==t else false
def aM(s:Ps)(k:Int)(t:By):Ps:={s with l:=bif jg s k t then s.l.tail else s.l}
def eK(A:Pa)(s:Ps)(k:Int)(t:By):Ps:=bif !jg s k t then gz A (aM s k t) 3 else aM s k t
def fV(s:Ps):Bool:=match gR s with|none=>false|some x=>bif x.kind==1 then bQ x.text else false
def bC(A:Pa)(s:Ps):By×Ps:=bif !fV s then([],gz A s 3)else(match s.l with|[]=>[]|x::_=>x.text,{s with l:=s.l.tail})
def fW(A:Pa)(s:Ps)(a:Int):Int×Ps:=match gR s with
 |none=>(0,gz A s 3)
 |some x=>bif x.kind==2 then(bif(bif(o5 x.text).2 then decide ((o5 x.text).1<=a)else false)then((o5 x.text).1,{s with l:=s.l.tail})else(0,gz A s 3))else(0,gz A s 3)
def hO(A:Pa)(s:Ps):Ex×Ps:=bif fV s then(.mk 5 [] (bC A s).1 0 [],(bC A s).2)else(.mk 7 [] [] (fW A s 18446744073709551615).1 [],(fW A s 18446744073709551615).2)
def fa(t:By)(k:Int)(a:Ps->Ex×Ps):Nat->Ex->Ps->Ex×Ps
 |0,e,s=>(e,s)
 |n+1,e,s=>bif jg s 3 t then fa t k a n (.mk k [] [] 0 [e,(a (aM s 3 t)).1]) (a (aM s 3 t)).2 else(e,aM s 3 t)
def jD(A:Pa)(s:Ps):Ex×Ps:=fa [124] 8 (hO A) (s.l.length+1) (hO A s).1 (hO A s).2
structure Le (s s':Ps):Prop where
 suf:s'.l <:+ s.l
 ok:lI s'=true->lI s=true
def Le.refl(s:Ps):Le s s:=⟨List.suffix_rfl,id⟩
def Le.trans(h:Le a b)(g:Le b c):Le a c:=⟨g.suf.trans h.suf,fun k=>h.ok (g.ok k)⟩
def Le.len(h:Le a b):b.l.length<=a.l.length:=h.suf.length_le
structure TK (l:List Tok):Prop where
 len:l.length<=2^40
 text:∀t∈l,t.text.length<=2^40
def TK.le(h:TK s.l)(g:Le s a):TK a.l:=⟨dX g.len h.len,fun t b=>h.text t (g.suf.subset b)⟩
def yE(s:Ps)(e f:Int)(c:Cx):Le s (qj s e f c):=by
 refine⟨List.suffix_rfl,fun h=>?_⟩
 cases hk:lI s with
 |true=>rfl
 |false=>
  have:lI (qj s e f c)=lI s:=by simp only[lI,qj]at hk⊢; simp only[hk,af]
  rw[this,hk]at h;exact h
def zV(s:Ps)(e f:Int)(c:Cx)(a:(e==0)=false):lI (qj s e f c)=false:=by
 cases hk:lI s with
 |true=>simp only[lI,qj]at hk⊢; rw[hk];exact a
 |false=>simp only[lI,qj]at hk⊢; rw[hk];exact hk
def ln(A:Pa)(s:Ps)(e:Int):Le s (gz A s e):=yE _ _ _ _
def sS(s:Ps):Le s {s with l:=s.l.tail}:=⟨List.tail_suffix _,id⟩
def bg(s:Ps)(k:Int)(t:By):Le s (aM s k t):=by
 unfold aM;cases jg s k t
 .exact .refl s
 .exact sS s
def fc(A:Pa)(s:Ps)(k:Int)(t:By):Le s (eK A s k t):=by
 unfold eK;cases jg s k t
 .exact(bg s k t).trans (ln _ _ _)
 .exact bg s k t
def dI(A:Pa)(s:Ps):Le s (bC A s).2:=by
 unfold bC;cases fV s
 .exact ln _ _ _
 .exact sS s
def CF(A:Pa)(s:Ps)(a:Int):Le s (fW A s a).2:=by
 unfold fW;split
 .exact ln _ _ _
 .rename_i x _
  cases x.kind==2
  .exact ln _ _ _
  .cases(bif(o5 x.text).2 then decide ((o5 x.text).1<=a)else false)
   .exact ln _ _ _
   .exact sS s
def gn(A:Pa)(s:Ps):Le s (hO A s).2:=by
 unfold hO;cases fV s
 .exact CF _ _ _
 .exact dI _ _
def vo(a:∀s,Le s (b s).2):∀n e s,Le s (fa t k b n e s).2
 |0,e,s=>.refl s
 |n+1,e,s=>by
  unfold fa;cases jg s 3 t
  .exact bg _ _ _
  .exact((bg _ _ _).trans (a _)).trans (vo a n _ _)
def qk(A:Pa)(s:Ps):Le s (jD A s).2:=(gn A s).trans (vo (gn A) _ _ _)
def iJ(h:gR s=some x):lI s=true/\∃t,s.l=x::t:=by
 unfold gR at h;cases hk:lI s<;>rw[hk]at h
 .simp at h
 .cases hl:s.l with
  |nil=>rw[hl]at h;simp at h
  |cons y t=>rw[hl]at h;simp at h;rw[h];exact⟨rfl,t,rfl⟩
def KR(h:jg s k t=true):lI s=true/\∃x t,s.l=x::t:=by
 unfold jg at h;cases hf:gR s with
 |none=>rw[hf]at h;simp at h
 |some x=>exact⟨(iJ hf).1,x,(iJ hf).2⟩
def iY(h:jg s k t=true):(aM s k t).l.length+1=s.l.length:=by
 obtain⟨-,x,l,a⟩:=KR h;simp only[aM,h,ai,a];rfl
def zW(h:fV s=true):lI s=true/\∃x t,s.l=x::t:=by
 unfold fV at h;cases hf:gR s with
 |none=>rw[hf]at h;simp at h
 |some x=>exact⟨(iJ hf).1,x,(iJ hf).2⟩
def Mn(h:lI (bC A s).2=true):(bC A s).2.l.length<s.l.length:=by
 unfold bC at h⊢;cases hn:fV s<;>rw[hn]at h
 .rw[show lI (bif !false then(([]:By),gz A s 3)else(match s.l with|[]=>[]|x::_=>x.text,{s with l:=s.l.tail})).2=lI (gz A s 3)from rfl,gz,zV _ _ _ _ rfl]at h
  simp at h
 .obtain⟨-,x,l,a⟩:=zW hn
  show s.l.tail.length<_
  rw[a];simp
def lq(s:Ps){X Y:Prop}(c:∀x,gR s=some x->(s.l.map Tok.row)[toNat 0]?=some [N x.kind,S x.text,N x.file,C x.spot]->x∈s.l->X)(d:gR s=none->Y):
  aI (bif lI s then decide (((s.l.map Tok.row).length:Int)>0)else false) X Y:=by
 cases hf:gR s with
 |some x=>
  obtain⟨b,t,a⟩:=iJ hf;refine bj ?_ (c x hf (by rw[a];rfl) (by rw[a];exact aW))
  rw[b,a];simp
 |none=>
  refine aw ?_ (d hf);unfold gR at hf;cases hk:lI s
  .rfl
  .rw[hk]at hf
   cases hl:s.l with
   |nil=>simp
   |cons=>rw[hl]at hf;simp at hf
def lr(l:List Tok):drop 1 (take (l.map Tok.row).length (l.map Tok.row))=l.tail.map Tok.row:=by
 rw[dE (ar _)];cases l<;>rfl
def ql(h:∃x t,l=x::t):(0<=(1:Int)/\(1:Int)<=((l.map Tok.row).length:Int)/\((l.map Tok.row).length:Int)<=((l.map Tok.row).length:Int)):=by
 obtain⟨x,t,rfl⟩:=h;simp only[bG,aD];omega
def OE(A:Pa)(s:Ps):ak 97 [.az 0 0] [pb A s] [vB (lI s)] [pb A s]:=by apply W97;exact fi
def B0(A:Pa)(s:Ps):ak 100 [.az 0 0] [pb A s] [.agg [N 0,N (kD A s).1,C (kD A s).2]] [pb A s]:=by
 apply afj;obtain⟨l,e,f,c⟩:=s;cases l with
 |nil=>exact bj rfl fi
 |cons x l=>exact aw (by simp;omega) ⟨x.kind,x.text,x.file,x.spot,by omega,rfl,x.kind,x.text,x.file,x.spot,by omega,rfl,fi⟩
def RR(A:Pa)(s:Ps)(f0 e f:Int)(c:Cx):ak 99 [.az 0 0,.agg [N f0,N f,C c],vN e] [pb A s] [] [pb A (qj s e f c)]:=by
 apply W99;exact⟨_,OE A s,ad (fun h=>bE rfl (by simp only[qj,h,ai])) fun h=>bE rfl (by simp only[qj,h,af])⟩
def YY(A:Pa)(s:Ps)(k:Int)(t:By):ak 187 [.az 0 0,vN k,vS t] [pb A s] [vB (jg s k t)] [pb A s]:=by
 apply afq;exact⟨_,OE A s,lq s (fun x a b _=>⟨_,_,_,_,by omega,b,ad (fun h=>⟨_,_,_,_,by omega,b,aZ (by simp only[jg,a,h,ai])⟩) fun h=>aZ (by simp only[jg,a,h,af])⟩) fun a=>aZ (by simp only[jg,a])⟩
def nS(A:Pa)(s:Ps)(k:Int)(t:By):ak 133 [.az 0 0,vN k,vS t] [pb A s] [vB (jg s k t)] [pb A (aM s k t)]:=by
 apply afk;exact⟨_,YY A s k t,ad (fun h=>⟨ql (KR h).2,bE rfl (by rw[lr];simp only[aM,h,ai])⟩) fun h=>bE rfl (by simp only[aM,h,af])⟩
def aa5(A:Pa)(s:Ps)(d:TK s.l):ak 188 [.az 0 0] [pb A s] [vB (fV s)] [pb A s]:=by
 apply afr;exact⟨_,OE A s,lq s (fun x a b c=>⟨_,_,_,_,by omega,b,ad (fun h=>⟨_,_,_,_,by omega,b,_,zU _ (d.text x c),aZ (by simp only[fV,a,h,ai])⟩) fun h=>aZ (by simp only[fV,a,h,af])⟩) fun a=>aZ (by simp only[fV,a])⟩
def HK(A:Pa)(s:Ps)(c:TK s.l):ak 134 [.az 0 0] [pb A s] [vS (bC A s).1] [pb A (bC A s).2]:=by
 apply afl;refine⟨_,aa5 A s c,ad (fun h=>⟨_,_,_,B0 A s,_,_,_,RR A s _ 3 _ _,bE (by rw[bC,h];rfl) (by rw[bC,h];rfl)⟩) fun h=>?_⟩
 have b:fV s=true:=by simpa using h
 obtain⟨-,x,l,a⟩:=zW b;exact⟨x.kind,x.text,x.file,x.spot,by omega,by rw[a];rfl,ql ⟨x,l,a⟩,bE (by rw[bC,h,a];rfl) (by rw[lr,bC,h];rfl)⟩
def aa6(A:Pa)(s:Ps)(c:Int)(f:TK s.l):ak 259 [.az 0 0,vU c] [pb A s] [vU (fW A s c).1] [pb A (fW A s c).2]:=by
 have key:∀(r:Int×Ps),r=(0,gz A s 3)->zT (s.l.map Tok.row) A.en A.fi A.sp (A.ds.map cZ.row) (A.ps.map cW.row) (aJ A.mn) A.dk A.dd s.e s.f s.c [vU r.1] [pb A r.2]:=by
  rintro _ rfl;apply YU;exact⟨_,_,_,B0 A s,_,_,_,RR A s _ 3 _ _,fi⟩
 apply afy;refine⟨_,OE A s,lq s (fun x a d e=>⟨_,_,_,_,by omega,d,ad (fun h=>⟨_,_,_,_,by omega,d,_,_,YQ _ (f.text x e),ad (fun b=>⟨ql ⟨x,(iJ a).2⟩,bE ?_ ?_⟩) fun b=>key _ ?_⟩) fun h=>key _ ?_⟩) fun a=>key _ ?_⟩
 .simp only[fW,a,h,b,ai]
 .rw[lr];simp only[fW,a,h,b,ai]
 .simp only[fW,a,h,b,ai,af]
 .simp only[fW,a,h,af]
 .simp only[fW,a]
def YZ(A:Pa)(s:Ps)(a:TK s.l):ak 189 [.az 0 0] [pb A s] [oC (hO A s).1] [pb A (hO A s).2]:=by
 apply afs;exact⟨_,aa5 A s a,ad (fun h=>⟨_,_,_,_,_,HK A s a,bE (by rw[hO,h];rfl) (by rw[hO,h];rfl)⟩) fun h=>⟨_,_,_,_,_,aa6 A s _ a,bE (by rw[hO,h];rfl) (by rw[hO,h];rfl)⟩⟩
def Y0(A:Pa)(s:Ps)(a:TK s.l):ak 135 [.az 0 0] [pb A s] [oC (jD A s).1] [pb A (jD A s).2]:=by
 have key:∀(n:Nat)(e:Ex)(s:Ps),TK s.l->s.l.length<n->E5 (s.l.map Tok.row) A.en A.fi A.sp (A.ds.map cZ.row) (A.ps.map cW.row) (aJ A.mn) A.dk A.dd s.e s.f s.c 0 [] [] 0 [] e.kind e.op e.name e.num (bt e.kids) [oC (fa [124] 8 (hO A) n e s).1] [pb A (fa [124] 8 (hO A) n e s).2]:=by
  intro n;induction n with
  |zero=>intro e s _ h;omega
  |succ n b=>
   intro e s a d;apply YS;refine⟨_,_,nS A s 3 _,ad (fun h=>⟨_,_,_,_,_,_,_,_,_,YZ A _ (a.le (bg _ _ _)),?_⟩) fun h=>bE (by rw[fa,h];rfl) (by rw[fa,h];rfl)⟩
   have c:=iY h;have f:=(gn A (aM s 3 [124])).len;have:=b (.mk 8 [] [] 0 [e,(hO A (aM s 3 [124])).1]) (hO A (aM s 3 [124])).2 (a.le ((bg _ _ _).trans (gn A _))) (by omega)
   rw[fa,h];simp only[Ex.kids,bt,Ex.cu]at this;exact this
 apply afm;exact⟨_,_,_,_,_,_,_,_,_,YZ A s a,key _ _ _ (a.le (gn A s)) (by have:=(gn A s).len;omega)⟩
abbrev Ue(s:Ps):Ps:={s with l:=s.l.tail}
abbrev zX(a:Act):AV:=.agg [N a.kind,N a.data]
def o8(A:Pa)(s:Ps)(k:Int)(t:By):ak 190 [.az 0 0,vN k,vS t] [pb A s] [] [pb A (eK A s k t)]:=by
 apply aft;exact⟨_,_,nS A s k t,ad (fun h=>⟨_,_,_,B0 A (aM s k t),_,_,_,RR A (aM s k t) _ 3 _ _,bE rfl (by rw[eK,h];rfl)⟩) fun h=>bE rfl (by rw[eK,h];rfl)⟩
def iv(A:Pa):Nat->List By->Ps->List By×Ps
 |0,a,s=>(a,s)
 |n+1,a,s=>bif jg s 3 [44]then iv A n (a++[(bC A (aM s 3 [44])).1]) (bC A (aM s 3 [44])).2 else(a,aM s 3 [44])
def fh(A:Pa)(s:Ps):List By×Ps:=iv A (s.l.length+1) [(bC A s).1] (bC A s).2
def zY(A:Pa):∀n a s,Le s (iv A n a s).2
 |0,a,s=>.refl s
 |n+1,a,s=>by
  unfold iv;cases jg s 3 [44]
  .exact bg _ _ _
  .exact((bg _ _ _).trans (dI A _)).trans (zY A n _ _)
def sT(A:Pa)(s:Ps):Le s (fh A s).2:=(dI A s).trans (zY A _ _ _)
def aa7(A:Pa)(s:Ps)(b:TK s.l):ak 194 [.az 0 0] [pb A s] [vL 1 (aJ (fh A s).1)] [pb A (fh A s).2]:=by
 have key:∀(n:Nat)(a:List By)(s:Ps),TK s.l->s.l.length<n->a.length+s.l.length<=2^41->E6 (aJ a) (s.l.map Tok.row) A.en A.fi A.sp (A.ds.map cZ.row) (A.ps.map cW.row) (aJ A.mn) A.dk A.dd s.e s.f s.c [.own 0 0 1 (aJ (iv A n a s).1)] [pb A (iv A n a s).2]:=by
  intro n;induction n with
  |zero=>intro e s _ h;omega
  |succ n c=>
   intro a s b f g;apply YT;refine⟨_,_,nS A s 3 _,ad (fun h=>⟨_,_,_,_,_,HK A _ (b.le (bg _ _ _)),?_,?_⟩) fun h=>bE (by rw[iv,h];rfl) (by rw[iv,h];rfl)⟩
   .simp[aJ];omega
   .have d:=iY h
    have i:=(dI A (aM s 3 [44])).len;have:=c (a++[(bC A (aM s 3 [44])).1]) (bC A (aM s 3 [44])).2 (b.le ((bg _ _ _).trans (dI A _))) (by omega) (by simp;omega)
    rw[iv,h];rw[show aJ (a++[(bC A (aM s 3 [44])).1])=aJ a++[[S (bC A (aM s 3 [44])).1]] by simp[aJ,He]]at this
    exact this
 refine Go.Ac.ak.soft (r:=[.own 0 0 1 _]) ?_ rfl;apply afx;have:=(dI A s).len;have:=b.len;exact⟨_,_,_,_,_,HK A s b,key _ [_] _ (b.le (dI A s)) (by omega) (by simp;omega)⟩
def vp(A:Pa)(s:Ps):Int×Ps:=(wrap .i64 (fW A (eK A s 3 [40]) 65535).1,eK A (fW A (eK A s 3 [40]) 65535).2 3 [41])
def HL(A:Pa)(s:Ps):Le s (vp A s).2:=((fc A s 3 [40]).trans (CF A _ _)).trans (fc A _ _ _)
def afX(A:Pa)(s:Ps)(a:TK s.l):ak 261 [.az 0 0] [pb A s] [vN (vp A s).1] [pb A (vp A s).2]:=by
 apply afA;exact⟨_,_,_,_,o8 A s 3 _,_,_,_,_,_,aa6 A _ _ (a.le (fc A s 3 [40])),_,_,_,_,o8 A _ 3 _,fi⟩
def oa(s:By):Int×Bool:=
 bif s==[65,76,76,79,87]then(7,true)else bif s==[76,79,71]then(6,true)else bif s==[75,73,76,76]then(2,true)else
 bif s==[75,73,76,76,95,80,82,79,67,69,83,83]then(1,true)else bif s==[84,82,65,80]then(3,true)else bif s==[69,82,82,78,79]then(4,true)else
 bif s==[84,82,65,67,69]then(5,true)else(0,false)
def afY(s:By):ak 322 [vS s] [] [vN (oa s).1,vB (oa s).2] []:=
 afC s (ad (fun h=>aZ (by rw[oa,h];rfl)) fun a=>ad (fun h=>aZ (by rw[oa,a,h];rfl)) fun b=>ad (fun h=>aZ (by rw[oa,a,b,h];rfl)) fun c=>
  ad (fun h=>aZ (by rw[oa,a,b,c,h];rfl)) fun d=>ad (fun h=>aZ (by rw[oa,a,b,c,d,h];rfl)) fun e=>ad (fun h=>aZ (by rw[oa,a,b,c,d,e,h];rfl)) fun f=>
  ad (fun h=>aZ (by rw[oa,a,b,c,d,e,f,h];rfl)) fun h=>aZ (by rw[oa,a,b,c,d,e,f,h];rfl))
def jY(s:Ps):Int×Bool:=match gR s with
 |none=>(0,false)
 |some x=>bif x.kind !=1 then(0,false)else oa x.text
def RS(s:Ps){X Y:Prop}(d:gR s=none->X)(c:∀x,gR s=some x->(s.l.map Tok.row)[toNat 0]?=some [N x.kind,S x.text,N x.file,C x.spot]->Y):
  aI (bif !lI s then true else(((s.l.map Tok.row).length:Int)==0)) X Y:=by
 cases hf:gR s with
 |some x=>
  obtain⟨b,t,a⟩:=iJ hf;refine aw ?_ (c x hf (by rw[a];rfl))
  rw[b,a];simp;omega
 |none=>
  refine bj ?_ (d hf);unfold gR at hf;cases hk:lI s
  .rfl
  .rw[hk]at hf
   cases hl:s.l with
   |nil=>simp
   |cons=>rw[hl]at hf;simp at hf
def afZ(A:Pa)(s:Ps):ak 260 [.az 0 0] [pb A s] [vN (jY s).1,vB (jY s).2] [pb A s]:=by
 apply afz;exact⟨_,OE A s,RS s (fun a=>aZ (by simp only[jY,a])) fun x a b=>⟨_,_,_,_,by omega,b,ad (fun h=>aZ (by simp only[jY,a,h,ai])) fun h=>⟨_,_,_,_,by omega,b,_,_,afY _,aZ (by simp only[jY,a,h,af])⟩⟩⟩
def dn(A:Pa)(s:Ps):Act×Ps:=bif !(jY s).2 then(⟨0,0⟩,gz A s 3)else
 bif[3,4,5].any ((jY s).1 == ·)then(⟨(jY s).1,(vp A (Ue s)).1⟩,(vp A (Ue s)).2)else(⟨(jY s).1,0⟩,Ue s)
def tN(A:Pa)(s:Ps):Le s (dn A s).2:=by
 unfold dn;cases(jY s).2
 .exact ln _ _ _
 .cases[3,4,5].any ((jY s).1 == ·)
  .exact sS s
  .exact(sS s).trans (HL A _)
def aa8(A:Pa)(s:Ps)(c:TK s.l):ak 191 [.az 0 0] [pb A s] [zX (dn A s).1] [pb A (dn A s).2]:=by
 apply afu;refine⟨_,_,afZ A s,ad (fun h=>⟨_,_,_,B0 A s,_,_,_,RR A s _ 3 _ _,bE (by rw[dn,h];rfl) (by rw[dn,h];rfl)⟩) fun h=>⟨ql ?_,_,aaL _ [3,4,5] (by decide),?_⟩⟩
 .have b:(jY s).2=true:=by simpa using h
  unfold jY at b;cases hf:gR s with
  |none=>rw[hf]at b;simp at b
  |some x=>exact⟨x,(iJ hf).2⟩
 .rw[lr]
  exact ad (fun a=>⟨_,_,_,_,_,afX A (Ue s) (c.le (sS s)),bE (by rw[dn,h,a];rfl) (by rw[dn,h,a];rfl)⟩) fun a=>bE (by rw[dn,h,a];rfl) (by rw[dn,h,a];rfl)
def zZ(A:Pa):List By->Ps->By×Ps
 |[],s=>([],gz A s 3)
 |t::a,s=>bif jg s 3 t then(t,aM s 3 t)else zZ A a (aM s 3 t)
def ops:List By:=[[61,61],[33,61],[60],[60,61],[62],[62,61]]
def UZ(A:Pa)(s:Ps):By×Ps:=zZ A ops s
def Mo(A:Pa):∀a s,Le s (zZ A a s).2
 |[],s=>ln _ _ _
 |t::a,s=>by
  unfold zZ;cases jg s 3 t
  .exact(bg _ _ _).trans (Mo A a _)
  .exact bg _ _ _
def Fe(A:Pa)(s:Ps):Le s (UZ A s).2:=Mo A _ s
def aa9(A:Pa)(s:Ps):ak 361 [.az 0 0] [pb A s] [vS (UZ A s).1] [pb A (UZ A s).2]:=by
 have key:∀(a:List By)(i:Nat)(s:Ps),ops.drop i=a->E9 (aJ ops) 6 i (s.l.map Tok.row) A.en A.fi A.sp (A.ds.map cZ.row) (A.ps.map cW.row) (aJ A.mn) A.dk A.dd s.e s.f s.c [vS (zZ A a s).1] [pb A (zZ A a s).2]:=by
  intro a;induction a with
  |nil=>
   intro i s b;apply RB;exact aQ (l:=ops) rfl b ⟨_,_,_,B0 A s,_,_,_,RR A s _ 3 _ _,fi⟩
  |cons t a e=>
   intro i s b;obtain⟨c,d,f⟩:=bM b;have g:ops.length=6:=rfl;apply RB;exact aL (l:=ops) rfl b ⟨t,by omega,aP c,_,_,nS A s 3 t,ad (fun h=>bE (by rw[zZ,h];rfl) (by rw[zZ,h];rfl)) fun h=>⟨au,by rw[zZ,h];exact e (i+1) _ d⟩⟩
 apply afF;exact key ops 0 s rfl
def z1(A:Pa)(left:Ex)(s:Ps):Ex×Ps:=(.mk 4 (UZ A s).1 [] 0 [left,(jD A (UZ A s).2).1],(jD A (UZ A s).2).2)
def ob(A:Pa)(s:Ps):Ex×Ps:=bif jg (bC A s).2 3 [38]then z1 A (.mk 6 [] (bC A s).1 0 [(hO A (aM (bC A s).2 3 [38])).1]) (hO A (aM (bC A s).2 3 [38])).2 else
 z1 A (.mk 5 [] (bC A s).1 0 []) (aM (bC A s).2 3 [38])
def jl(A:Pa)(pl a:Ps->Ex×Ps)(s:Ps):Ex×Ps:=
 bif jg s 3 [33]then(.mk 3 [] [] 0 [(pl (aM s 3 [33])).1],(pl (aM s 3 [33])).2)else
 bif jg (aM s 3 [33]) 3 [40]then((a (aM (aM s 3 [33]) 3 [40])).1,eK A (a (aM (aM s 3 [33]) 3 [40])).2 3 [41])else
 ob A (aM (aM s 3 [33]) 3 [40])
def oc(pl:Ps->Ex×Ps)(s:Ps):Ex×Ps:=fa [38,38] 2 pl (s.l.length+1) (pl s).1 (pl s).2
def rQ(pl:Ps->Ex×Ps)(s:Ps):Ex×Ps:=fa [124,124] 1 (oc pl) (s.l.length+1) (oc pl s).1 (oc pl s).2
def fj(A:Pa):Nat->Ps->Ex×Ps
 |0,s=>(.mk 0 [] [] 0 [],s)
 |n+1,s=>jl A (fj A n) (rQ (fj A n)) s
def ey(A:Pa)(s:Ps):Ex×Ps:=rQ (fj A (s.l.length+1)) s
def Mp(A:Pa)(e:Ex)(s:Ps):Le s (z1 A e s).2:=(Fe A s).trans (qk A _)
def RT(A:Pa)(s:Ps):Le s (ob A s).2:=by
 unfold ob;cases jg (bC A s).2 3 [38]
 .exact((dI A s).trans (bg _ _ _)).trans (Mp A _ _)
 .exact(((dI A s).trans (bg _ _ _)).trans (gn A _)).trans (Mp A _ _)
def OF(c:∀s,Le s (pl s).2)(b:∀s,Le s (a s).2)(s:Ps):Le s (jl A pl a s).2:=by
 unfold jl;cases jg s 3 [33]
 .cases jg (aM s 3 [33]) 3 [40]
  .exact((bg _ _ _).trans (bg _ _ _)).trans (RT A _)
  .exact(((bg _ _ _).trans (bg _ _ _)).trans (b _)).trans (fc A _ _ _)
 .exact(bg _ _ _).trans (c _)
def nk(a:∀s,Le s (pl s).2)(s:Ps):Le s (oc pl s).2:=(a s).trans (vo a _ _ _)
def HM(a:∀s,Le s (pl s).2)(s:Ps):Le s (rQ pl s).2:=(nk a s).trans (vo (nk a) _ _ _)
def lu(A:Pa):∀n s,Le s (fj A n s).2
 |0,s=>.refl s
 |n+1,s=>OF (lu A n) (HM (lu A n)) s
def KS(A:Pa)(s:Ps):Le s (ey A s).2:=HM (lu A _) s
def Ff{d:List Item}{Hd:Ps->Ex->St}{t:By}{k:Int}(c:∀s,Le s (a s).2)(step:∀(s:Ps)(e:Ex)(r:List AV)(h:List Bx),TK s.l->s.l.length<m->(jg s 3 t=true->mN fn d (Hd (a (aM s 3 t)).2 (.mk k [] [] 0 [e,(a (aM s 3 t)).1])) b r h)->(jg s 3 t=false->Fi r h [oC e] [pb A (aM s 3 t)])->mN fn d (Hd s e) b r h):
  ∀(n:Nat)(e:Ex)(s:Ps),TK s.l->s.l.length<n->s.l.length<m->mN fn d (Hd s e) b [oC (fa t k a n e s).1] [pb A (fa t k a n e s).2]
 |0,_,_,_,h,_=>absurd h (by omega)
 |n+1,e,s,f,j,g=>by
  refine step s e _ _ f g (fun h=>?_) fun h=>bE (by rw[fa,h];rfl) (by rw[fa,h];rfl)
  have i:=iY h;have l:=(c (aM s 3 t)).len;rw[fa,h];exact Ff c step n _ _ (f.le ((bg _ _ _).trans (c _))) (by omega) (by omega)
def aba(b:∀s,Le s (pl s).2)(d:∀s,TK s.l->s.l.length<m->ak 353 [.az 0 0] [pb A s] [oC (pl s).1] [pb A (pl s).2])(s:Ps)(a:TK s.l)(c:s.l.length<m):
  ak 323 [.az 0 0] [pb A s] [oC (oc pl s).1] [pb A (oc pl s).2]:=by
 apply afD;refine⟨_,_,_,_,_,_,_,_,_,d s a c,?_⟩;have:=(b s).len;refine Ff (Hd:=fun s e=>E8 (s.l.map Tok.row) A.en A.fi A.sp (A.ds.map cZ.row) (A.ps.map cW.row) (aJ A.mn) A.dk A.dd s.e s.f s.c 0 [] [] 0 [] e.kind e.op e.name e.num (bt e.kids)) (m:=m) b (fun s e r h a c f g=>?_) _ _ _ (a.le (b s)) (by omega) (by omega)
 apply YW;refine⟨_,_,nS A s 3 _,ad (fun h=>⟨_,_,_,_,_,_,_,_,_,d _ (a.le (bg _ _ _)) ?_,?_⟩) g⟩
 .have:=iY h;omega
 .have:=f h
  simp only[Ex.kids,bt,Ex.cu]at this;exact this
def Wx(a:∀s,Le s (pl s).2)(d:∀s,TK s.l->s.l.length<m->ak 353 [.az 0 0] [pb A s] [oC (pl s).1] [pb A (pl s).2])(s:Ps)(b:TK s.l)(c:s.l.length<m):
  ak 262 [.az 0 0] [pb A s] [oC (rQ pl s).1] [pb A (rQ pl s).2]:=by
 apply afB;refine⟨_,_,_,_,_,_,_,_,_,aba a d s b c,?_⟩;have:=(nk a s).len;refine Ff (Hd:=fun s e=>E7 (s.l.map Tok.row) A.en A.fi A.sp (A.ds.map cZ.row) (A.ps.map cW.row) (aJ A.mn) A.dk A.dd s.e s.f s.c 0 [] [] 0 [] e.kind e.op e.name e.num (bt e.kids)) (m:=m) (nk a) (fun s e r h b c f g=>?_) _ _ _ (b.le (nk a s)) (by omega) (by omega)
 apply YV;refine⟨_,_,nS A s 3 _,ad (fun h=>⟨_,_,_,_,_,_,_,_,_,aba a d _ (b.le (bg _ _ _)) ?_,?_⟩) g⟩
 .have:=iY h;omega
 .have:=f h
  simp only[Ex.kids,bt,Ex.cu]at this;exact this
def Y1(A:Pa):∀(n:Nat)(s:Ps),TK s.l->s.l.length<n->ak 353 [.az 0 0] [pb A s] [oC (fj A n s).1] [pb A (fj A n s).2]
 |0,_,_,h=>absurd h (by omega)
 |n+1,s,e,j=>by
  have c:=bg s 3 [33];have f:=bg (aM s 3 [33]) 3 [40];have g:=dI A (aM (aM s 3 [33]) 3 [40]);have i:=bg (bC A (aM (aM s 3 [33]) 3 [40])).2 3 [38];have t2:=e.le (c.trans f);have d:=t2.le (g.trans i);apply afE;refine⟨_,_,nS A s 3 _,ad (fun h=>⟨_,_,_,_,_,_,_,_,_,Y1 A n _ (e.le c) (by have:=iY h;omega),bE ?_ ?_⟩) fun h=>⟨_,_,nS A _ 3 _,ad (fun a=>⟨_,_,_,_,_,_,_,_,_,Wx (lu A n) (Y1 A n) _ t2 ?_,_,_,_,_,o8 A _ 3 _,bE ?_ ?_⟩) fun a=>
   ⟨_,_,_,_,_,HK A _ t2,_,_,nS A _ 3 _,ad (fun b=>⟨_,_,_,_,_,_,_,_,_,YZ A _ d,_,_,_,_,_,aa9 A _,_,_,_,_,_,_,_,_,_,Y0 A _ ((d.le (gn A _)).le (Fe A _)),bE ?_ ?_⟩) fun b=>⟨_,_,_,_,_,aa9 A _,_,_,_,_,_,_,_,_,_,Y0 A _ (d.le (Fe A _)),bE ?_ ?_⟩⟩⟩⟩
  .rw[fj,jl,h];simp only[ai,oC,Ex.kids,bt,Ex.cu];rfl
  .rw[fj,jl,h];rfl
  .have:=iY a;have:=c.len;omega
  .rw[fj,jl,h,a];rfl
  .rw[fj,jl,h,a];rfl
  .rw[fj,jl,h,a,ob];simp only[ai,af,b,z1,oC,Ex.kids,bt,Ex.cu];rfl
  .rw[fj,jl,h,a,ob];simp only[ai,af,b,z1]
  .rw[fj,jl,h,a,ob];simp only[ai,af,b,z1,oC,Ex.kids,bt,Ex.cu];rfl
  .rw[fj,jl,h,a,ob];simp only[ai,af,b,z1]
def Y2(A:Pa)(s:Ps)(a:TK s.l):ak 262 [.az 0 0] [pb A s] [oC (ey A s).1] [pb A (ey A s).2]:=
 Wx (lu A _) (Y1 A _) s a (Nat.lt_succ_self _)
def U0(A:Pa)(s:Ps):ak 97 [.az 0 0] [BQ A s] [vB (lI s)] [BQ A s]:=by apply afh;exact fi
def Wy(A:Pa)(s:Ps):ak 100 [.az 0 0] [BQ A s] [.agg [N 0,N (kD A s).1,C (kD A s).2]] [BQ A s]:=by
 apply aaO;obtain⟨l,e,f,c⟩:=s;cases l with
 |nil=>exact bj rfl fi
 |cons x l=>exact aw (by simp;omega) ⟨x.kind,x.text,x.file,x.spot,by omega,rfl,x.kind,x.text,x.file,x.spot,by omega,rfl,fi⟩
def abb(A:Pa)(s:Ps)(f0 e f:Int)(c:Cx):ak 99 [.az 0 0,.agg [N f0,N f,C c],vN e] [BQ A s] [] [BQ A (qj s e f c)]:=by
 apply afi;exact⟨_,U0 A s,ad (fun h=>bE rfl (by simp only[qj,h,ai])) fun h=>bE rfl (by simp only[qj,h,af])⟩
def abc(A:Pa)(s:Ps)(k:Int)(t:By):ak 187 [.az 0 0,vN k,vS t] [BQ A s] [vB (jg s k t)] [BQ A s]:=by
 apply aaT;exact⟨_,U0 A s,lq s (fun x a b _=>⟨_,_,_,_,by omega,b,ad (fun h=>⟨_,_,_,_,by omega,b,aZ (by simp only[jg,a,h,ai])⟩) fun h=>aZ (by simp only[jg,a,h,af])⟩) fun a=>aZ (by simp only[jg,a])⟩
def abd(A:Pa)(s:Ps)(k:Int)(t:By):ak 133 [.az 0 0,vN k,vS t] [BQ A s] [vB (jg s k t)] [BQ A (aM s k t)]:=by
 apply aaP;exact⟨_,abc A s k t,ad (fun h=>⟨ql (KR h).2,bE rfl (by rw[lr];simp only[aM,h,ai])⟩) fun h=>bE rfl (by simp only[aM,h,af])⟩
def Wz(A:Pa)(s:Ps)(d:TK s.l):ak 188 [.az 0 0] [BQ A s] [vB (fV s)] [BQ A s]:=by
 apply aaU;exact⟨_,U0 A s,lq s (fun x a b c=>⟨_,_,_,_,by omega,b,ad (fun h=>⟨_,_,_,_,by omega,b,_,zU _ (d.text x c),aZ (by simp only[fV,a,h,ai])⟩) fun h=>aZ (by simp only[fV,a,h,af])⟩) fun a=>aZ (by simp only[fV,a])⟩
def abe(A:Pa)(s:Ps)(c:TK s.l):ak 134 [.az 0 0] [BQ A s] [vS (bC A s).1] [BQ A (bC A s).2]:=by
 apply aaQ;refine⟨_,Wz A s c,ad (fun h=>⟨_,_,_,Wy A s,_,_,_,abb A s _ 3 _ _,bE (by rw[bC,h];rfl) (by rw[bC,h];rfl)⟩) fun h=>?_⟩
 have b:fV s=true:=by simpa using h
 obtain⟨-,x,l,a⟩:=zW b;exact⟨x.kind,x.text,x.file,x.spot,by omega,by rw[a];rfl,ql ⟨x,l,a⟩,bE (by rw[bC,h,a];rfl) (by rw[lr,bC,h];rfl)⟩
def abf(A:Pa)(s:Ps)(c:Int)(f:TK s.l):ak 259 [.az 0 0,vU c] [BQ A s] [vU (fW A s c).1] [BQ A (fW A s c).2]:=by
 have key:∀(r:Int×Ps),r=(0,gz A s 3)->vn (s.l.map Tok.row) A.en A.fi A.sp (A.ds.map cZ.row) (A.ps.map cW.row) (aJ A.mn) A.dk A.dd s.e s.f s.c [vU r.1] [BQ A r.2]:=by
  rintro _ rfl;apply UY;exact⟨_,_,_,Wy A s,_,_,_,abb A s _ 3 _ _,fi⟩
 apply aaY;refine⟨_,U0 A s,lq s (fun x a d e=>⟨_,_,_,_,by omega,d,ad (fun h=>⟨_,_,_,_,by omega,d,_,_,YQ _ (f.text x e),ad (fun b=>⟨ql ⟨x,(iJ a).2⟩,bE ?_ ?_⟩) fun b=>key _ ?_⟩) fun h=>key _ ?_⟩) fun a=>key _ ?_⟩
 .simp only[fW,a,h,b,ai]
 .rw[lr];simp only[fW,a,h,b,ai]
 .simp only[fW,a,h,b,ai,af]
 .simp only[fW,a,h,af]
 .simp only[fW,a]
def WA(A:Pa)(s:Ps)(a:TK s.l):ak 189 [.az 0 0] [BQ A s] [oC (hO A s).1] [BQ A (hO A s).2]:=by
 apply aaV;exact⟨_,Wz A s a,ad (fun h=>⟨_,_,_,_,_,abe A s a,bE (by rw[hO,h];rfl) (by rw[hO,h];rfl)⟩) fun h=>⟨_,_,_,_,_,abf A s _ a,bE (by rw[hO,h];rfl) (by rw[hO,h];rfl)⟩⟩
def abg(A:Pa)(s:Ps)(a:TK s.l):ak 135 [.az 0 0] [BQ A s] [oC (jD A s).1] [BQ A (jD A s).2]:=by
 have key:∀(n:Nat)(e:Ex)(s:Ps),TK s.l->s.l.length<n->yD (s.l.map Tok.row) A.en A.fi A.sp (A.ds.map cZ.row) (A.ps.map cW.row) (aJ A.mn) A.dk A.dd s.e s.f s.c 0 [] [] 0 [] e.kind e.op e.name e.num (bt e.kids) [oC (fa [124] 8 (hO A) n e s).1] [BQ A (fa [124] 8 (hO A) n e s).2]:=by
  intro n;induction n with
  |zero=>intro e s _ h;omega
  |succ n b=>
   intro e s a d;apply UX;refine⟨_,_,abd A s 3 _,ad (fun h=>⟨_,_,_,_,_,_,_,_,_,WA A _ (a.le (bg _ _ _)),?_⟩) fun h=>bE (by rw[fa,h];rfl) (by rw[fa,h];rfl)⟩
   have c:=iY h;have f:=(gn A (aM s 3 [124])).len;have:=b (.mk 8 [] [] 0 [e,(hO A (aM s 3 [124])).1]) (hO A (aM s 3 [124])).2 (a.le ((bg _ _ _).trans (gn A _))) (by omega)
   rw[fa,h];simp only[Ex.kids,bt,Ex.cu]at this;exact this
 apply aaS;exact⟨_,_,_,_,_,_,_,_,_,WA A s a,key _ _ _ (a.le (gn A s)) (by have:=(gn A s).len;omega)⟩
mutual
def bL:Ex->Nat|.mk _ _ _ _ l=>cy l+1
def cy:List Ex->Nat|[]=>0|e::l=>max (bL e) (cy l)
end
mutual
def mq:Ex->Prop|.mk _ _ _ _ l=>l.length<=2^40/\np l
def np:List Ex->Prop|[]=>True|e::l=>mq e/\np l
end
def cO(e:Ex):bL e=cy e.kids+1:=by cases e;rfl
def z6(e:Ex):mq e<->e.kids.length<=2^40/\np e.kids:=by cases e;exact Iff.rfl
def sU:∀{l:List Ex},np l->∀x∈l,mq x
 |[],_,_,h=>by simp at h
 |e::l,a,x,h=>by
  rcases aY.1 h with rfl|h
  .exact a.1
  .exact sU a.2 x h
def ek:∀{l:List Ex},∀x∈l,bL x<=cy l
 |[],_,h=>by simp at h
 |e::l,x,h=>by
  rcases aY.1 h with rfl|h
  .exact Nat.le_max_left _ _
  .exact dX (ek x h) (Nat.le_max_right _ _)
def RU:∀(d:Nat)(e:Ex),bL e<=d->d<=2^41->mq e->ak 263 [oC e] [] [vN (bL e)] []
 |0,e,h,_,_=>by rw[cO]at h;omega
 |d+1,e,h,s,m=>by
  rw[cO]at h;obtain⟨u,p⟩:=(z6 e).1 m;have key:∀(t:List Ex)(i:Nat)(n:Nat),e.kids.drop i=t->max n (cy t)<=2^41->Fc (n:Int) (e.kids.map Ex.row) e.kids.length i [vN ((max n (cy t)+1:Nat):Int)] []:=by
   intro t;induction t with
   |nil=>
    intro i n a b;exact RN _ _ _ _ (aQ (l:=e.kids) rfl a ⟨au (by omega) (by simp[cy]at b;omega),aZ (by simp[cy])⟩)
   |cons x t o=>
    intro i n a b;obtain⟨f,k,q⟩:=bM a;have g:=aK f;have v:=ek x g;refine RN _ _ _ _ (aL (l:=e.kids) rfl a ⟨x.kind,x.op,x.name,x.num,bt x.kids,by omega,(aP f).trans (by rw[Ex.cu]),_,RU d x (by omega) (by omega) (sU p x g),au,?_⟩)
    have j:(if(bL x:Int)>(n:Int)then(bL x:Int)else(n:Int))=((max n (bL x):Nat):Int):=by split<;>omega
    have c:max n (cy (x::t))=max (max n (bL x)) (cy t):=by simp only[cy];omega
    rw[j,c];rw[c]at b;exact o (i+1) _ k b
  have:=key e.kids 0 0 rfl (by omega)
  rw[show max 0 (cy e.kids)+1=bL e by rw[cO];omega]at this
  refine afS _ _ _ _ _ ?_;rw[dw,al];exact this
structure PE (s:Ps) (k:Nat) (p:Ex×Ps):Prop where
 wide:mq p.1
 dep:bL p.1+p.2.l.length<=s.l.length+k
def Fg(A:Pa)(s:Ps):PE s 1 (hO A s):=by
 have:=(gn A s).len;unfold hO at this⊢;cases hn:fV s<;>rw[hn]at this
 .exact⟨by simp[mq,np],by simp only[af,bL,cy]at this⊢; omega⟩
 .exact⟨by simp[mq,np],by simp only[ai,bL,cy]at this⊢; omega⟩
def vq{b:Ps->Ex×Ps}{a:Ps}(d:∀s,Le s (b s).2)(f:∀s,PE s k (b s)):∀n e s,PE a k (e,s)->s.l.length<=a.l.length->PE a k (fa t j b n e s)
 |0,e,s,h,_=>h
 |n+1,e,s,h,o=>by
  unfold fa;cases hi:jg s 3 t
  .have:=(bg s 3 t).len
   have:=h.dep;exact⟨h.wide,by simp only[af]at this⊢; omega⟩
  .have l:=iY hi
   have c:=f (aM s 3 t);have m:=(d (aM s 3 t)).len;have g:=h.dep;have i:=c.dep;refine vq d f n _ _ ⟨?_,?_⟩ (by omega)
   .simp only[mq,np]
    exact⟨by simp,h.wide,c.wide,trivial⟩
   .simp only[bL,cy]at g i⊢
    omega
def KU(A:Pa)(s:Ps):PE s 1 (jD A s):=vq (gn A) (Fg A) _ _ _ (Fg A s) (gn A s).len
def Mq(A:Pa)(e:Ex)(s b:Ps)(c:mq e)(i:bL e<=2)(j:s.l.length<=b.l.length):PE b 3 (z1 A e s):=by
 have a:=KU A (UZ A s).2;have d:=(Fe A s).len;have f:=(qk A (UZ A s).2).len;have g:=a.dep;unfold z1;refine⟨?_,?_⟩
 .simp only[mq,np]
  exact⟨by simp,c,a.wide,trivial⟩
 .simp only[bL,cy]
  omega
def RV(A:Pa)(s a:Ps)(f:s.l.length<=a.l.length):PE a 3 (ob A s):=by
 have c:=(dI A s).len;have d:=(bg (bC A s).2 3 [38]).len;have e:=(gn A (aM (bC A s).2 3 [38])).len;have b:=Fg A (aM (bC A s).2 3 [38]);unfold ob;cases jg (bC A s).2 3 [38]
 .exact Mq A _ _ _ (by simp[mq,np]) (by simp[bL,cy]) (by omega)
 .refine Mq A _ _ _ ?_ ?_ (by omega)
  .simp only[mq,np]
   exact⟨by simp,b.wide,trivial⟩
  .have:bL (hO A (aM (bC A s).2 3 [38])).1<=1:=by
    unfold hO;cases fV (aM (bC A s).2 3 [38])<;>simp[bL,cy]
   simp only[bL,cy];omega
def HN(a:∀s,Le s (pl s).2)(b:∀s,PE s 3 (pl s))(s:Ps):PE s 3 (oc pl s):=vq a b _ _ _ (b s) (a s).len
def HO(a:∀s,Le s (pl s).2)(b:∀s,PE s 3 (pl s))(s:Ps):PE s 3 (rQ pl s):=vq (nk a) (HN a b) _ _ _ (HN a b s) (nk a s).len
def wL(A:Pa):∀n s,PE s 3 (fj A n s)
 |0,s=>⟨by simp[fj,mq,np],by simp only[fj,bL,cy];omega⟩
 |n+1,s=>by
  have b:=bg s 3 [33];have c:=bg (aM s 3 [33]) 3 [40];unfold fj jl;cases h:jg s 3 [33]
  .cases h2:jg (aM s 3 [33]) 3 [40]
   .exact RV A _ _ (b.trans c).len
   .have a:=HO (lu A n) (wL A n) (aM (aM s 3 [33]) 3 [40])
    have d:=a.dep;have e:=(fc A (rQ (fj A n) (aM (aM s 3 [33]) 3 [40])).2 3 [41]).len;have:=(b.trans c).len;exact⟨a.wide,by simp only[ai,af];omega⟩
  .have a:=wL A n (aM s 3 [33])
   have d:=a.dep;have:=iY h;refine⟨?_,?_⟩
   .simp only[ai,mq,np]
    exact⟨by simp,a.wide,trivial⟩
   .simp only[ai,bL,cy]
    omega
def lv(A:Pa)(s:Ps):PE s 3 (ey A s):=HO (lu A _) (wL A _) s
abbrev qO(r:gP):AV:=.agg [S r.call,L 1 (aJ r.params),L 5 (r.cond.map Ex.row)]
def od(A:Pa)(s:Ps)(p:Ex×Ps):Ps:=bif lI p.2 then(bif decide ((bL p.1:Int)>30)then qj p.2 6 (kD A s).1 (kD A s).2 else p.2)else p.2
def eG(A:Pa)(name:By)(params:List By)(s:Ps):gP×Ps:=
 bif !jg s 3 [123]then(⟨name,params,[]⟩,aM s 3 [123])else
 (⟨name,params,[(ey A (aM s 3 [123])).1]⟩,eK A (od A s (ey A (aM s 3 [123]))) 3 [125])
def jv(A:Pa)(s:Ps):gP×Ps:=
 bif jg (bC A s).2 3 [40]then
  bif !jg (aM (bC A s).2 3 [40]) 3 [41]then eG A (bC A s).1 (fh A (aM (aM (bC A s).2 3 [40]) 3 [41])).1 (eK A (fh A (aM (aM (bC A s).2 3 [40]) 3 [41])).2 3 [41])
  else eG A (bC A s).1 [] (aM (aM (bC A s).2 3 [40]) 3 [41])
 else eG A (bC A s).1 [] (aM (bC A s).2 3 [40])
def RW(A:Pa)(s:Ps)(p:Ex×Ps):Le p.2 (od A s p):=by
 unfold od;cases lI p.2
 .exact .refl _
 .cases decide ((bL p.1:Int)>30)
  .exact .refl _
  .exact yE _ _ _ _
def z7(A:Pa)(name:By)(params:List By)(s:Ps):Le s (eG A name params s).2:=by
 unfold eG;cases jg s 3 [123]
 .exact bg _ _ _
 .exact(((bg _ _ _).trans (KS A _)).trans (RW A _ _)).trans (fc A _ _ _)
def wM(A:Pa)(s:Ps):Le (bC A s).2 (jv A s).2:=by
 unfold jv;cases jg (bC A s).2 3 [40]
 .exact(bg _ _ _).trans (z7 A _ _ _)
 .cases jg (aM (bC A s).2 3 [40]) 3 [41]
  .exact((((bg _ _ _).trans (bg _ _ _)).trans (sT A _)).trans (fc A _ _ _)).trans (z7 A _ _ _)
  .exact((bg _ _ _).trans (bg _ _ _)).trans (z7 A _ _ _)
def z8(A:Pa)(s:Ps):Le s (jv A s).2:=(dI A s).trans (wM A s)
def RX(h:lI (jv A s).2=true):(jv A s).2.l.length<s.l.length:=
 DO (wM A s).len (Mn ((wM A s).ok h))
def af0(A:Pa)(s:Ps)(e:TK s.l):ak 193 [.az 0 0] [pb A s] [qO (jv A s).1] [pb A (jv A s).2]:=by
 have d:=e.le (dI A s);apply afw;refine⟨_,_,_,_,_,HK A s e,_,_,nS A _ 3 _,ad (fun c=>⟨_,_,nS A _ 3 _,ad (fun a=>?_) fun a=>?_⟩) fun c=>?_⟩
 .have t2:=(d.le (bg (bC A s).2 3 [40])).le (bg _ 3 [41])
  have f:=(t2.le (sT A _)).le (fc A _ 3 [41]);refine⟨_,_,_,_,_,aa7 A _ t2,_,_,_,_,o8 A _ 3 _,?_⟩;rw[jv,c,a];simp only[ai];exact⟨_,_,_,B0 A (eK A (fh A (aM (aM (bC A s).2 3 [40]) 3 [41])).2 3 [41]),_,_,nS A (eK A (fh A (aM (aM (bC A s).2 3 [40]) 3 [41])).2 3 [41]) 3 _,ad (fun h=>bE (by rw[eG,h];rfl) (by rw[eG,h];rfl)) fun h=>
   ⟨_,_,_,_,_,_,_,_,_,Y2 A _ (TK.le f (bg _ _ _)),_,OE A _,ad
    (fun a=>⟨_,RU _ _ (ar _) (by have:=(lv A (aM (eK A (fh A (aM (aM (bC A s).2 3 [40]) 3 [41])).2 3 [41]) 3 [123])).dep;have:=(TK.le f (bg (eK A (fh A (aM (aM (bC A s).2 3 [40]) 3 [41])).2 3 [41]) 3 [123])).len;omega) (lv A _).wide,ad
     (fun b=>⟨_,_,_,RR A (ey A (aM (eK A (fh A (aM (aM (bC A s).2 3 [40]) 3 [41])).2 3 [41]) 3 [123])).2 _ 6 _ _,_,_,_,_,o8 A (qj (ey A (aM (eK A (fh A (aM (aM (bC A s).2 3 [40]) 3 [41])).2 3 [41]) 3 [123])).2 6 (kD A (eK A (fh A (aM (aM (bC A s).2 3 [40]) 3 [41])).2 3 [41])).1 (kD A (eK A (fh A (aM (aM (bC A s).2 3 [40]) 3 [41])).2 3 [41])).2) 3 _,bE (by rw[eG,h];(simp only[af,qO,List.map,Ex.cu])<;>rfl) (by rw[eG,h];simp only[af,od,a,b,ai])⟩)
     fun b=>⟨_,_,_,_,o8 A (ey A (aM (eK A (fh A (aM (aM (bC A s).2 3 [40]) 3 [41])).2 3 [41]) 3 [123])).2 3 _,bE (by rw[eG,h];(simp only[af,qO,List.map,Ex.cu])<;>rfl) (by rw[eG,h];simp only[af,od,a,b,ai])⟩⟩)
    fun a=>⟨_,_,_,_,o8 A (ey A (aM (eK A (fh A (aM (aM (bC A s).2 3 [40]) 3 [41])).2 3 [41]) 3 [123])).2 3 _,bE (by rw[eG,h];(simp only[af,qO,List.map,Ex.cu])<;>rfl) (by rw[eG,h];simp only[af,od,a])⟩⟩⟩
 .have t2:=(d.le (bg (bC A s).2 3 [40])).le (bg _ 3 [41])
  rw[jv,c,a];simp only[ai,af];exact⟨_,_,_,B0 A (aM (aM (bC A s).2 3 [40]) 3 [41]),_,_,nS A (aM (aM (bC A s).2 3 [40]) 3 [41]) 3 _,ad (fun h=>bE (by rw[eG,h];rfl) (by rw[eG,h];rfl)) fun h=>
   ⟨_,_,_,_,_,_,_,_,_,Y2 A _ (TK.le t2 (bg _ _ _)),_,OE A _,ad
    (fun a=>⟨_,RU _ _ (ar _) (by have:=(lv A (aM (aM (aM (bC A s).2 3 [40]) 3 [41]) 3 [123])).dep;have:=(TK.le t2 (bg (aM (aM (bC A s).2 3 [40]) 3 [41]) 3 [123])).len;omega) (lv A _).wide,ad
     (fun b=>⟨_,_,_,RR A (ey A (aM (aM (aM (bC A s).2 3 [40]) 3 [41]) 3 [123])).2 _ 6 _ _,_,_,_,_,o8 A (qj (ey A (aM (aM (aM (bC A s).2 3 [40]) 3 [41]) 3 [123])).2 6 (kD A (aM (aM (bC A s).2 3 [40]) 3 [41])).1 (kD A (aM (aM (bC A s).2 3 [40]) 3 [41])).2) 3 _,bE (by rw[eG,h];(simp only[af,qO,List.map,Ex.cu])<;>rfl) (by rw[eG,h];simp only[af,od,a,b,ai])⟩)
     fun b=>⟨_,_,_,_,o8 A (ey A (aM (aM (aM (bC A s).2 3 [40]) 3 [41]) 3 [123])).2 3 _,bE (by rw[eG,h];(simp only[af,qO,List.map,Ex.cu])<;>rfl) (by rw[eG,h];simp only[af,od,a,b,ai])⟩⟩)
    fun a=>⟨_,_,_,_,o8 A (ey A (aM (aM (aM (bC A s).2 3 [40]) 3 [41]) 3 [123])).2 3 _,bE (by rw[eG,h];(simp only[af,qO,List.map,Ex.cu])<;>rfl) (by rw[eG,h];simp only[af,od,a])⟩⟩⟩
 .have t2:=(d.le (bg (bC A s).2 3 [40]))
  rw[jv,c];simp only[af];exact⟨_,_,_,B0 A (aM (bC A s).2 3 [40]),_,_,nS A (aM (bC A s).2 3 [40]) 3 _,ad (fun h=>bE (by rw[eG,h];rfl) (by rw[eG,h];rfl)) fun h=>
   ⟨_,_,_,_,_,_,_,_,_,Y2 A _ (TK.le t2 (bg _ _ _)),_,OE A _,ad
    (fun a=>⟨_,RU _ _ (ar _) (by have:=(lv A (aM (aM (bC A s).2 3 [40]) 3 [123])).dep;have:=(TK.le t2 (bg (aM (bC A s).2 3 [40]) 3 [123])).len;omega) (lv A _).wide,ad
     (fun b=>⟨_,_,_,RR A (ey A (aM (aM (bC A s).2 3 [40]) 3 [123])).2 _ 6 _ _,_,_,_,_,o8 A (qj (ey A (aM (aM (bC A s).2 3 [40]) 3 [123])).2 6 (kD A (aM (bC A s).2 3 [40])).1 (kD A (aM (bC A s).2 3 [40])).2) 3 _,bE (by rw[eG,h];(simp only[af,qO,List.map,Ex.cu])<;>rfl) (by rw[eG,h];simp only[af,od,a,b,ai])⟩)
     fun b=>⟨_,_,_,_,o8 A (ey A (aM (aM (bC A s).2 3 [40]) 3 [123])).2 3 _,bE (by rw[eG,h];(simp only[af,qO,List.map,Ex.cu])<;>rfl) (by rw[eG,h];simp only[af,od,a,b,ai])⟩⟩)
    fun a=>⟨_,_,_,_,o8 A (ey A (aM (aM (bC A s).2 3 [40]) 3 [123])).2 3 _,bE (by rw[eG,h];(simp only[af,qO,List.map,Ex.cu])<;>rfl) (by rw[eG,h];simp only[af,od,a])⟩⟩⟩
def jO{α:Type}(A:Pa)(f:Ps->α×Ps):Nat->Bool->List α->Ps->List α×Ps
 |0,_,a,s=>(a,s)
 |n+1,more,a,s=>bif(bif lI s then(bif more then true else !jg s 3 [125])else false)then
   jO A f n (jg (f s).2 3 [44]) (a++[(f s).1]) (aM (f s).2 3 [44])else(a,eK A s 3 [125])
def rR{α:Type}(A:Pa)(f:Ps->α×Ps)(s:Ps):List α×Ps:=jO A f ((eK A s 3 [123]).l.length+2) false [] (eK A s 3 [123])
def CG(A:Pa){f:Ps->α×Ps}(a:∀s,Le s (f s).2):∀n more b s,Le s (jO A f n more b s).2
 |0,_,_,s=>.refl s
 |n+1,more,b,s=>by
  unfold jO;cases(bif lI s then(bif more then true else !jg s 3 [125])else false)
  .exact fc _ _ _ _
  .exact((a s).trans (bg _ _ _)).trans (CG A a n _ _ _)
def vr(A:Pa){f:Ps->α×Ps}(a:∀s,Le s (f s).2)(s:Ps):Le s (rR A f s).2:=(fc A s 3 [123]).trans (CG A a _ _ _ _)
def oe(s:Ps):Nat:=bif lI s then s.l.length+1 else 0
def OG(b:lI s=true)(h:lI a=true->a.l.length<s.l.length):oe (aM a 3 [44])<oe s:=by
 have c:lI (aM a 3 [44])=lI a:=rfl;have d:=(bg a 3 [44]).len;unfold oe;rw[c,b];cases hk:lI a with
 |false=>simp only[ai,af];omega
 |true=>have:=h hk;simp only[ai];omega
def wN{c:List Item}{b:Nat}{Hd:Bool->List α->Ps->St}{A:Pa}{f:Ps->α×Ps}{fin:List α->Ps->List Bx}(d:∀s,Le s (f s).2)(g:∀s,lI (f s).2=true->(f s).2.l.length<s.l.length)(step:∀(more:Bool)(a:List α)(s:Ps)(r:List AV)(h:List Bx),TK s.l->a.length<=2^40+1 ->
   ((bif lI s then(bif more then true else !jg s 3 [125])else false)=true->mN fn c (Hd (jg (f s).2 3 [44]) (a++[(f s).1]) (aM (f s).2 3 [44])) b r h)->
   ((bif lI s then(bif more then true else !jg s 3 [125])else false)=false->Fi r h [] (fin a (eK A s 3 [125])))->mN fn c (Hd more a s) b r h):
  ∀(n:Nat)(more:Bool)(a:List α)(s:Ps),TK s.l->oe s<n->a.length+oe s<=2^40+1->mN fn c (Hd more a s) b [] (fin (jO A f n more a s).1 (jO A f n more a s).2)
 |0,_,_,_,_,h,_=>absurd h (jq _)
 |n+1,more,a,s,e,k,l=>by
  refine step more a s _ _ e (by omega) (fun h=>?_) fun h=>bE rfl (by rw[jO,h];rfl)
  have i:lI s=true:=by cases hk:lI s<;>rw[hk]at h<;>simp at h⊢
  have j:=OG i (g s);rw[jO,h];exact wN d g step n _ _ _ (e.le ((d s).trans (bg _ _ _))) (by omega) (by simp;omega)
def vt(s:Ps):oe s<=s.l.length+1:=by unfold oe;cases lI s<;>simp
def abh(A:Pa)(s:Ps)(u:By)(k d:Int)(a:List gP)(b:TK s.l)(c:a.length<=2^40+1):
  ak 192 [.az 0 0,.az 1 0] [.aH [vS u,vN k,vN d,O 3 (a.map gP.row)],.aH [.az 2 0],pb A s] [] [.aH [vS u,vN k,vN d,O 3 ((a++[(jv A s).1]).map gP.row)],.aH [.az 2 0],pb A (jv A s).2]:=by
 apply afv;exact⟨_,_,_,_,_,_,_,af0 A s b,by simp;omega,bE rfl (by rw[bN];rfl)⟩
def RY(A:Pa)(s:Ps)(u:By)(k d:Int)(b:TK s.l):
  ak 136 [.az 0 0,.fn (.func 192) [] [.az 1 0,.az 2 0]] [pb A s,.aH [vS u,vN k,vN d,O 3 []],.aH [.az 0 0]] [] [pb A (rR A (jv A) s).2,.aH [vS u,vN k,vN d,O 3 ((rR A (jv A) s).1.map gP.row)],.aH [.az 0 0]]:=by
 apply RA;have l:=(fc A s 3 [123]).len;have:=b.len;have:=vt (eK A s 3 [123]);refine⟨_,_,_,_,o8 A s 3 _,wN (Hd:=fun more a s=>nj more (s.l.map Tok.row) A.en A.fi A.sp (A.ds.map cZ.row) (A.ps.map cW.row) (aJ A.mn) A.dk A.dd s.e s.f s.c u k d (a.map gP.row)) (A:=A) (f:=jv A) (fin:=fun a s=>[pb A s,.aH [vS u,vN k,vN d,O 3 (a.map gP.row)],.aH [.az 0 0]]) (z8 A) (fun s=>RX)
  (fun more a s r h b j g i=>?_) _ false [] _ (b.le (fc A s 3 [123])) (by omega) (by simp;omega)⟩
 apply KQ;refine⟨_,OE A s,ad (fun h=>ad (fun c=>⟨_,_,_,_,_,abh A s u k d a b j,_,_,nS A (jv A s).2 3 _,g (by rw[h,c];rfl)⟩) fun c=>⟨_,YY A s 3 _,ad (fun e=>⟨_,_,_,_,_,abh A s u k d a b j,_,_,nS A (jv A s).2 3 _,g (by rw[h,c];exact e)⟩) fun e=>⟨_,_,_,_,o8 A s 3 _,i (by rw[h,c];exact e)⟩⟩) fun h=>⟨_,_,_,_,o8 A s 3 _,i (by rw[h];rfl)⟩⟩
abbrev OH(p:cQ):AV:=.agg [S p.use,N p.act.kind,N p.act.data,L 3 (p.bk.map gP.row)]
def gi:By:=[85,83,69]
def dp:By:=[80,79,76,73,67,89]
def fP:By:=[68,69,70,65,85,76,84]
def iw(A:Pa)(s:Ps):cQ×Ps:=
 bif jg s 1 gi then(⟨(bC A (aM s 1 gi)).1,⟨0,0⟩,[]⟩,(bC A (aM s 1 gi)).2)else
 (⟨[],(dn A (aM s 1 gi)).1,(rR A (jv A) (dn A (aM s 1 gi)).2).1⟩,(rR A (jv A) (dn A (aM s 1 gi)).2).2)
def OI(h:lI (dn A s).2=true):(dn A s).2.l.length<s.l.length:=by
 unfold dn at h⊢;cases hn:(jY s).2<;>rw[hn]at h
 .rw[show lI (bif !false then((⟨0,0⟩:Act),gz A s 3)else
 bif[3,4,5].any ((jY s).1 == ·)then(⟨(jY s).1,(vp A (Ue s)).1⟩,(vp A (Ue s)).2)else(⟨(jY s).1,0⟩,Ue s)).2=lI (gz A s 3)from rfl,gz,zV _ _ _ _ rfl]at h
  simp at h
 .have c:s.l.tail.length<s.l.length:=by
   unfold jY at hn;cases hf:gR s with
   |none=>rw[hf]at hn;simp at hn
   |some x=>obtain⟨t,d⟩:=(iJ hf).2;rw[d];simp
  have b:=(HL A (Ue s)).len;have a:(Ue s).l.length<s.l.length:=c;cases[3,4,5].any ((jY s).1 == ·)
  .exact a
  .exact DO b a
def Aa(A:Pa)(s:Ps):Le s (iw A s).2:=by
 unfold iw;cases jg s 1 gi
 .exact((bg _ _ _).trans (tN A _)).trans (vr A (z8 A) _)
 .exact(bg _ _ _).trans (dI A _)
def RZ(h:lI (iw A s).2=true):(iw A s).2.l.length<s.l.length:=by
 have a:=(bg s 1 gi).len;unfold iw at h⊢;cases hi:jg s 1 gi<;>rw[hi]at h
 .have b:=vr A (z8 A) (dn A (aM s 1 gi)).2
  have c:=b.len;have d:=OI (b.ok h);exact DO c (gL d a)
 .exact gL (Mn h) a
def af1(A:Pa)(s:Ps)(b:TK s.l):ak 138 [.az 0 0] [pb A s] [OH (iw A s).1] [pb A (iw A s).2]:=by
 have a:=b.le (bg s 1 gi);apply afo;exact⟨_,_,nS A s 1 _,ad (fun h=>⟨_,_,_,_,_,HK A _ a,bE (by rw[iw,show jg s 1 gi=true from h];rfl) (by rw[iw,show jg s 1 gi=true from h];rfl)⟩) fun h=>⟨_,_,_,_,_,_,aa8 A _ a,_,_,_,_,_,_,_,_,RY A _ [] _ _ (a.le (tN A _)),bE (by rw[iw,show jg s 1 gi=false from h];rfl) (by rw[iw,show jg s 1 gi=false from h];rfl)⟩⟩
def abi(A:Pa)(s:Ps)(u:By)(a:List cQ)(b:TK s.l)(c:a.length<=2^40+1):
  ak 137 [.az 0 0,.az 1 0] [.aH [vS u,O 4 (a.map cQ.row)],.aH [.az 2 0],pb A s] [] [.aH [vS u,O 4 ((a++[(iw A s).1]).map cQ.row)],.aH [.az 2 0],pb A (iw A s).2]:=by
 apply afn;exact⟨_,_,_,_,_,_,_,_,af1 A s b,by simp;omega,bE rfl (by rw[bN];rfl)⟩
def R1(A:Pa)(s:Ps)(u:By)(b:TK s.l):
  ak 136 [.az 0 0,.fn (.func 137) [] [.az 1 0,.az 2 0]] [pb A s,.aH [vS u,O 4 []],.aH [.az 0 0]] [] [pb A (rR A (iw A) s).2,.aH [vS u,O 4 ((rR A (iw A) s).1.map cQ.row)],.aH [.az 0 0]]:=by
 apply Rz;have j:=(fc A s 3 [123]).len;have:=b.len;have:=vt (eK A s 3 [123]);refine⟨_,_,_,_,o8 A s 3 _,wN (Hd:=fun more a s=>ni more (s.l.map Tok.row) A.en A.fi A.sp (A.ds.map cZ.row) (A.ps.map cW.row) (aJ A.mn) A.dk A.dd s.e s.f s.c u (a.map cQ.row)) (A:=A) (f:=iw A) (fin:=fun a s=>[pb A s,.aH [vS u,O 4 (a.map cQ.row)],.aH [.az 0 0]]) (Aa A) (fun s=>RZ)
  (fun more a s r h b i e g=>?_) _ false [] _ (b.le (fc A s 3 [123])) (by omega) (by simp;omega)⟩
 apply KP;refine⟨_,OE A s,ad (fun h=>ad (fun c=>⟨_,_,_,_,_,abi A s u a b i,_,_,nS A (iw A s).2 3 _,e (by rw[h,c];rfl)⟩) fun c=>⟨_,YY A s 3 _,ad (fun d=>⟨_,_,_,_,_,abi A s u a b i,_,_,nS A (iw A s).2 3 _,e (by rw[h,c];exact d)⟩) fun d=>⟨_,_,_,_,o8 A s 3 _,g (by rw[h,c];exact d)⟩⟩) fun h=>⟨_,_,_,_,o8 A s 3 _,g (by rw[h];rfl)⟩⟩
def xC(A:Pa)(a:Int×Cx)(s:Ps):Pa×Ps:=
 ({A with mn:=(fh A s).1,dk:=(dn A (eK A (fh A s).2 1 fP)).1.kind,dd:=(dn A (eK A (fh A s).2 1 fP)).1.data},
  bif decide ((A.mn.length:Int)>0)then qj (dn A (eK A (fh A s).2 1 fP)).2 11 a.1 a.2 else(dn A (eK A (fh A s).2 1 fP)).2)
def HP(A:Pa)(a:Int×Cx)(s:Ps):Le s (xC A a s).2:=by
 have h:=((sT A s).trans (fc A _ 1 fP)).trans (tN A _);unfold xC;cases decide ((A.mn.length:Int)>0)
 .exact h
 .exact h.trans (yE _ _ _ _)
def af2(A:Pa)(a:Int×Cx)(s:Ps)(b:TK s.l):ak 139 [.az 0 0,.agg [N 0,N a.1,C a.2]] [pb A s] [] [pb (xC A a s).1 (xC A a s).2]:=by
 have c:=(b.le (sT A s)).le (fc A _ 1 fP);apply afp;refine⟨_,_,_,_,_,aa7 A s b,_,_,_,_,o8 A _ 1 _,_,_,_,_,_,_,aa8 A _ c,?_⟩;rw[show(aJ A.mn).length=A.mn.length by simp[aJ]]
 exact ad (fun h=>⟨_,_,_,RR A (dn A (eK A (fh A s).2 1 fP)).2 _ 11 _ _,bE rfl (by simp only[xC,h,ai];rfl)⟩) fun h=>bE rfl (by simp only[xC,h,af];rfl)
def dg(A:Pa)(s:Ps):Pa×Ps:=
 bif jg s 5 bW then({A with ds:=A.ds++[⟨(bC A (aM s 5 bW)).1,(jD A (bC A (aM s 5 bW)).2).1⟩]},(jD A (bC A (aM s 5 bW)).2).2)else
 bif jg (aM s 5 bW) 1 dp then({A with ps:=A.ps++[⟨(bC A (aM (aM s 5 bW) 1 dp)).1,(rR A (iw A) (bC A (aM (aM s 5 bW) 1 dp)).2).1⟩]},(rR A (iw A) (bC A (aM (aM s 5 bW) 1 dp)).2).2)else
 bif jg (aM (aM s 5 bW) 1 dp) 1 gi then xC A (kD A s) (aM (aM (aM s 5 bW) 1 dp) 1 gi)else
 (A,qj (aM (aM (aM s 5 bW) 1 dp) 1 gi) 3 (kD A s).1 (kD A s).2)
def R2(A:Pa)(s:Ps):Le s (dg A s).2:=by
 unfold dg;cases jg s 5 bW
 .cases jg (aM s 5 bW) 1 dp
  .cases jg (aM (aM s 5 bW) 1 dp) 1 gi
   .exact(((bg _ _ _).trans (bg _ _ _)).trans (bg _ _ _)).trans (yE _ _ _ _)
   .exact(((bg _ _ _).trans (bg _ _ _)).trans (bg _ _ _)).trans (HP A _ _)
  .exact(((bg _ _ _).trans (bg _ _ _)).trans (dI A _)).trans (vr A (Aa A) _)
 .exact((bg _ _ _).trans (dI A _)).trans (qk A _)
def R3(h:lI (dg A s).2=true):(dg A s).2.l.length<s.l.length:=by
 unfold dg at h⊢;cases h1:jg s 5 bW<;>rw[h1]at h
 .cases h2:jg (aM s 5 bW) 1 dp<;>rw[h2]at h
  .cases h3:jg (aM (aM s 5 bW) 1 dp) 1 gi<;>rw[h3]at h
   .simp only[af]at h
    rw[zV _ _ _ _ rfl]at h;simp at h
   .have:=iY h3
    have:=((bg s 5 bW).trans (bg _ 1 dp)).len;have:=(HP A (kD A s) (aM (aM (aM s 5 bW) 1 dp) 1 gi)).len;simp only[ai,af];omega
  .have:=iY h2
   have:=(bg s 5 bW).len;have:=((dI A (aM (aM s 5 bW) 1 dp)).trans (vr A (Aa A) _)).len;simp only[ai,af];omega
 .have:=iY h1
  have:=((dI A (aM s 5 bW)).trans (qk A _)).len;simp only[ai];omega
def C98(A:Pa)(s:Ps)(d:TK s.l)(f:A.ds.length<=2^40)(g:A.ps.length<=2^40):ak 98 [.az 0 0] [pb A s] [] [pb (dg A s).1 (dg A s).2]:=by
 have b:=d.le (bg s 5 bW);have t2:=b.le (bg _ 1 dp);have e:=t2.le (bg _ 1 gi);apply W98;refine⟨_,_,_,B0 A s,_,_,nS A s 5 bW,ad (fun h=>⟨_,_,_,_,_,HK A _ b,⟨_,_,_,_,_,_,_,_,_,abg A _ (b.le (dI A _)),by simp;omega,bE rfl ?_⟩,⟨_,_,_,_,_,_,_,_,_,Y0 A _ (b.le (dI A _)),by simp;omega,bE rfl ?_⟩⟩) fun h=>⟨_,_,nS A _ 1 dp,ad (fun a=>⟨_,_,_,_,_,HK A _ t2,_,_,_,_,_,_,R1 A _ _ (t2.le (dI A _)),by simp;omega,bE rfl ?_⟩) fun a=>
  ⟨_,_,nS A _ 1 gi,ad (fun c=>⟨_,_,_,_,_,_,_,af2 A (kD A s) _ e,bE rfl ?_⟩) fun c=>⟨_,_,_,RR A (aM (aM (aM s 5 bW) 1 dp) 1 gi) _ 3 _ _,bE rfl ?_⟩⟩⟩⟩
 .rw[dg,h];simp only[ai,pb,bN,bG,oM,cZ.row,Ex.cu]
 .rw[dg,h];simp only[ai,pb,bN,bG,oM,cZ.row,Ex.cu]
 .rw[dg,h,a];simp only[ai,af,pb,bN,bG,oM,cW.row]
 .rw[dg,h,a,c];rfl
 .rw[dg,h,a,c];rfl
def ez:Nat->Pa->Ps->Pa×Ps
 |0,A,s=>(A,s)
 |n+1,A,s=>match gR s with
  |none=>(A,s)
  |some _=>ez n (dg A s).1 (dg A s).2
def wO(A:Pa)(s:Ps):fT×Int×Int×Cx:=bif !lI s then(⟨[],[],[],⟨0,0⟩⟩,s.e,s.f,s.c)else(⟨A.ds,A.ps,A.mn,⟨A.dk,A.dd⟩⟩,0,0,some (0,0))
def rS(A:Pa)(s:Ps):fT×Int×Int×Cx:=bif(A.mn.length:Int)==0 then wO A (gz A s 11)else wO A s
def Ad(l:List Tok)(a fi:Int)(sp:Cx):fT×Int×Int×Cx:=
 rS (ez (l.length+2) ⟨a,fi,sp,[],[],[],0,0⟩ ⟨l,0,0,some (0,0)⟩).1 (ez (l.length+2) ⟨a,fi,sp,[],[],[],0,0⟩ ⟨l,0,0,some (0,0)⟩).2
abbrev qm(u:fT):AV:=.agg [L 6 (u.aF.map cZ.row),L 2 (u.aB.map cW.row),L 1 (aJ u.main),N u.ch.kind,N u.ch.data]
abbrev R4(f:Int×Int×Cx):AV:=.agg [N f.1,N f.2.1,C f.2.2]
def KV(A:Pa)(s:Ps):(dg A s).1.en=A.en/\(dg A s).1.fi=A.fi/\(dg A s).1.sp=A.sp/\(dg A s).1.ds.length<=A.ds.length+1/\(dg A s).1.ps.length<=A.ps.length+1:=by
 unfold dg;cases jg s 5 bW
 .cases jg (aM s 5 bW) 1 dp
  .cases jg (aM (aM s 5 bW) 1 dp) 1 gi
   .exact⟨rfl,rfl,rfl,jn _,jn _⟩
   .exact⟨rfl,rfl,rfl,jn _,jn _⟩
  .exact⟨rfl,rfl,rfl,jn _,by simp⟩
 .exact⟨rfl,rfl,rfl,by simp,jn _⟩
def L77(d fi:Int)(sp:Cx):∀(n:Nat)(A:Pa)(s:Ps),TK s.l->oe s<n->A.ds.length+oe s<=2^40+1->A.ps.length+oe s<=2^40+1->A.en=d->A.fi=fi->A.sp=sp ->
  Mm [] [] [] 0 0 0 0 (some (0,0)) (s.l.map Tok.row) d fi sp (A.ds.map cZ.row) (A.ps.map cW.row) (aJ A.mn) A.dk A.dd s.e s.f s.c [qm (rS (ez n A s).1 (ez n A s).2).1,R4 (rS (ez n A s).1 (ez n A s).2).2] []
 |0,_,_,_,h,_,_,_,_,_=>absurd h (by omega)
 |n+1,A,s,e,k,j,l,rfl,rfl,rfl=>by
  apply aaN;refine⟨_,OE A s,lq s (fun x c _ _=>?_) fun c=>?_⟩
  .have g:=(iJ c).1
   have b:=KV A s;have i:oe (dg A s).2<oe s:=by
    unfold oe;rw[g];cases hk:lI (dg A s).2 with
    |false=>simp only[ai,af];omega
    |true=>have:=R3 hk;simp only[ai];omega
   have a:0<oe s:=by omega
   have:=L77 A.en A.fi A.sp n (dg A s).1 (dg A s).2 (e.le (R2 A s)) (by omega) (by omega) (by omega) b.1 b.2.1 b.2.2.1
   have f:=C98 A s e (by omega) (by omega)
   rw[ez,c];refine⟨_,_,_,_,_,_,_,_,_,?_,this⟩;rw[show pb (dg A s).1 (dg A s).2=K7 ((dg A s).2.l.map Tok.row) A.en A.fi A.sp ((dg A s).1.ds.map cZ.row) ((dg A s).1.ps.map cW.row) (aJ (dg A s).1.mn) (dg A s).1.dk (dg A s).1.dd (dg A s).2.e (dg A s).2.f (dg A s).2.c by rw[<-b.1,<-b.2.1,<-b.2.2.1]]at f
   exact f
  .rw[ez,c]
   simp only;rw[show(aJ A.mn).length=A.mn.length by simp[aJ]]
   refine ad (fun h=>⟨_,_,_,B0 A s,_,_,_,RR A s _ 11 _ _,_,OE A (gz A s 11),ad (fun a=>aZ ?_) fun a=>aZ ?_⟩) fun h=>⟨_,OE A s,ad (fun a=>aZ ?_) fun a=>aZ ?_⟩
   .simp only[rS,h,ai,wO,a];rfl
   .simp only[rS,h,ai,wO,a,af]
   .simp only[rS,h,af,wO,a,ai];rfl
   .simp only[rS,h,af,wO,a]
def C77(l:List Tok)(a fi:Int)(sp:Cx)(b:TK l):ak 77 [vL 4 (l.map Tok.row),.agg [N a,N fi,C sp]] [] [qm (Ad l a fi sp).1,R4 (Ad l a fi sp).2] []:=by
 have:=b.len;apply W77;exact L77 a fi sp (l.length+2) ⟨a,fi,sp,[],[],[],0,0⟩ ⟨l,0,0,some (0,0)⟩ b (by have:=vt ⟨l,0,0,some (0,0)⟩;simp at this⊢; omega) (by have:=vt ⟨l,0,0,some (0,0)⟩;simp at this⊢; omega) (by have:=vt ⟨l,0,0,some (0,0)⟩;simp at this⊢; omega) rfl rfl rfl
def W81(a:By)(H:aI (a==[97,97,114,99,104,54,52]) (Fi r h [vW 3221225655,vB true] [])
 (aI (a==[105,51,56,54]) (Fi r h [vW 1073741827,vB true] [])
 (aI (a==[120,56,54,95,54,52]) (Fi r h [vW 3221225534,vB true] [])
 (Fi r h [vW 0,vB false] [])))):
  ak 81 [vS a] [] r h:=.of func81 {} H
def af3(H:aI (bif(bif(b==3)then true else(b==4))then true else(b==5)) (Jq 158 [vN b] [] fun c d=>aI (bif(bif(!d)then true else(decide (a<0)))then true else(decide (a>65535))) (Fi r h [vW 0,vB false] [])
 (Fi r h [vW (wrap .u32 (c+(wrap .u32 a))),vB true] []))
 (Jq 158 [vN b] [] fun e f=>aI (bif(bif(!f)then true else(decide (a<0)))then true else(decide (a>0))) (Fi r h [vW 0,vB false] [])
 (Fi r h [vW (wrap .u32 (e+(wrap .u32 a))),vB true] []))):
  ak 106 [.agg [N b,N a]] [] r h:=.of func106 {an:=[(2,4,aa),(2,5,aa),(2,6,aa),(2,9,aa),(2,10,aa),(2,11,aa),(4,2,ah),(5,3,aa),(5,4,aa),(5,5,aa),(5,8,aa),(5,9,aa),(5,10,aa),(5,11,aa)]} H
def af4(b c:By)(H:∃a,ak 219 [vS b] [] [vL 3 a] []/\kQ 220 [vL 3 a,.fn (.func 221) [] [.az 0 0]] [.aH [vS c]] fun d=>bP (d<0) (Fi r h [.agg [S [],W 0,L 1 []],vB false] [])
 (EG a d fun e f g=>Fi r h [.agg [S e,W f,L 1 g],vB true] [])):
  ak 155 [vS b,vS c] [] r h:=.of func155 {an:=[(1,1,ah),(5,3,ah)]} H
def af5(a:Int)(H:aI (a==1) (Fi r h [vW 2147483648,vB true] [])
 (aI (a==2) (Fi r h [vW 0,vB true] [])
 (aI (a==3) (Fi r h [vW 196608,vB true] [])
 (aI (a==4) (Fi r h [vW 327680,vB true] [])
 (aI (a==5) (Fi r h [vW 2146435072,vB true] [])
 (aI (a==6) (Fi r h [vW 2147221504,vB true] [])
 (aI (a==7) (Fi r h [vW 2147418112,vB true] [])
 (Fi r h [vW 0,vB false] [])))))))):
  ak 158 [vN a] [] r h:=.of func158 {} H
abbrev Ae(a:Int)(b c:Rw)(d e:Int)r h:=Lp f219 0 ⟨aO 38 [(3,vN a),(4,.own 0 0 3 b),(13,vL 5 c),(14,vN d),(15,vN e)],[some 0],[]⟩ 0 r h
def abj:df:={an:=[(1,0,ah),(1,2,ah),(5,0,ah),(7,1,ah),(10,7,ah)],cut:=[(6,{bl:=[3,4,13,14,15],cN:=[(4,3)],owns:=[4]})]}
def abk(a:By)(H:Hb 277 [] [] fun d=>kQ 267 [vL 1 d,vS a] [] fun b=>bP (b<0) (Fi r h [vL 3 []] [])
 (Kf 278 [] [] fun c=>Ae b [] c (c.length:Int) 0 r h)):
  ak 219 [vS a] [] r h:=.of func219 abj H
def R5(b:Int)(c d:Rw)(e a:Int)(H:bP (a<e) (UD d a fun g i k l m=>(0<=b/\b<3)/\∃f,([vS g,vS i,vN k,vN l,vN m]:List AV)[2+toNat b*1+0]?=some (.v (N f))/\aI (f !=(-1)) (Hb 279 [vS i] [] fun j=>(c++([[S g,W (wrap .u32 f),L 1 j]]:Rw)).length*48<=2^47/\aq (a+1)/\Ae b (c++([[S g,W (wrap .u32 f),L 1 j]]:Rw)) d e (a+1) r h)
 (aq (a+1)/\Ae b c d e (a+1) r h))
 (Fi r h [.own 0 0 3 c] [])):
  Ae b c d e a r h:=.of abj H
def af6(b:By)(c:Int)(d:Rw)(a:By)(H:Fi r h [vB (b==a)] [.aH [vS a]]):
  ak 221 [.agg [S b,W c,L 1 d],.az 0 0] [.aH [vS a]] r h:=.of func221 {} H
def af7(H:Fi r h [vL 1 [[S [97,97,114,99,104,54,52]],[S [105,51,56,54]],[S [120,56,54,95,54,52]]]] []):
  ak 277 [] [] r h:=.of func277 {} H
def af8(H:Fi r h [vL 5 [[S [98,114,107],S [97,100,100,114],N 214,N 45,N 12],[S [99,108,111,115,101],S [102,100],N 57,N 6,N 3],[S [100,117,112],S [102,100],N 23,N 41,N 32],[S [101,120,105,116],S [99,111,100,101],N 93,N 1,N 60],[S [101,120,105,116,95,103,114,111,117,112],S [99,111,100,101],N 94,N 252,N 231],[S [103,101,116,112,105,100],S [],N 172,N 20,N 39],[S [105,111,99,116,108],S [102,100,32,114,101,113,117,101,115,116,32,97,114,103],N 29,N 54,N 16],[S [107,105,108,108],S [112,105,100,32,115,105,103],N 129,N 37,N 62],[S [109,109,97,112],S [97,100,100,114,32,108,101,110,32,112,114,111,116,32,102,108,97,103,115,32,102,100,32,111,102,102],N 222,N 90,N 9],[S [109,112,114,111,116,101,99,116],S [97,100,100,114,32,108,101,110,32,112,114,111,116],N 226,N 125,N 10],[S [109,117,110,109,97,112],S [97,100,100,114,32,108,101,110],N 215,N 91,N 11],[S [111,112,101,110],S [112,97,116,104,32,102,108,97,103,115,32,109,111,100,101],N (-1),N 5,N 2],[S [111,112,101,110,97,116],S [100,105,114,32,112,97,116,104,32,102,108,97,103,115,32,109,111,100,101],N 56,N 295,N 257],[S [112,114,99,116,108],S [111,112,116,105,111,110,32,97,32,98,32,99,32,100],N 167,N 172,N 157],[S [114,101,97,100],S [102,100,32,98,117,102,32,99,111,117,110,116],N 63,N 3,N 0],[S [115,111,99,107,101,116],S [102,97,109,105,108,121,32,116,121,112,101,32,112,114,111,116,111,99,111,108],N 198,N 359,N 41],[S [119,114,105,116,101],S [102,100,32,98,117,102,32,99,111,117,110,116],N 64,N 4,N 1]]] []):
  ak 278 [] [] r h:=.of func278 {} H
def fX(k:Int):Int×Bool:=
 bif k==1 then(2147483648,true)else bif k==2 then(0,true)else bif k==3 then(196608,true)else bif k==4 then(327680,true)else
 bif k==5 then(2146435072,true)else bif k==6 then(2147221504,true)else bif k==7 then(2147418112,true)else(0,false)
def abl(k:Int):ak 158 [vN k] [] [vW (fX k).1,vB (fX k).2] []:=
 af5 k (ad (fun h=>aZ (by rw[fX,h];rfl)) fun a=>ad (fun h=>aZ (by rw[fX,a,h];rfl)) fun b=>ad (fun h=>aZ (by rw[fX,a,b,h];rfl)) fun c=>
  ad (fun h=>aZ (by rw[fX,a,b,c,h];rfl)) fun d=>ad (fun h=>aZ (by rw[fX,a,b,c,d,h];rfl)) fun e=>ad (fun h=>aZ (by rw[fX,a,b,c,d,e,h];rfl)) fun f=>
  ad (fun h=>aZ (by rw[fX,a,b,c,d,e,f,h];rfl)) fun h=>aZ (by rw[fX,a,b,c,d,e,f,h];rfl))
def cg(a:Act):Int×Bool:=
 bif(bif(bif !(fX a.kind).2 then true else decide (a.data<0))then true else decide (a.data>(bif(bif(bif(a.kind==3)then true else(a.kind==4))then true else(a.kind==5))then 65535 else 0)))then(0,false)else
 (wrap .u32 ((fX a.kind).1+wrap .u32 a.data),true)
def U1(a:Act):ak 106 [zX a] [] [vW (cg a).1,vB (cg a).2] []:=by
 apply af3;exact ad (fun h=>⟨_,_,abl _,ad (fun b=>aZ (by rw[cg,h];simp only[ai]at b⊢; rw[b];rfl)) fun b=>aZ (by rw[cg,h];simp only[ai]at b⊢; rw[b];rfl)⟩)
  fun h=>⟨_,_,abl _,ad (fun b=>aZ (by rw[cg,h];simp only[af]at b⊢; rw[b];rfl)) fun b=>aZ (by rw[cg,h];simp only[af]at b⊢; rw[b];rfl)⟩
def abm(a:Act):ak 151 [zX a] [] [vB (cg a).2] []:=by apply afM;exact⟨_,_,U1 a,fi⟩
mutual
def rT:Ex->Prop|.mk _ o n _ l=>o.length<=2^40/\n.length<=2^40/\l.length<=2^40/\Uf l
def Uf:List Ex->Prop|[]=>True|e::l=>rT e/\Uf l
end
def kE(e:Ex):rT e<->e.op.length<=2^40/\e.name.length<=2^40/\e.kids.length<=2^40/\Uf e.kids:=by cases e;exact Iff.rfl
def dZ:∀{l:List Ex},Uf l->∀x∈l,rT x
 |[],_,_,h=>by simp at h
 |e::l,a,x,h=>by
  rcases aY.1 h with rfl|h
  .exact a.1
  .exact dZ a.2 x h
mutual
theorem vu:∀(e:Ex),rT e->mq e
 |.mk _ _ _ _ l,h=>⟨h.2.2.1,HQ l h.2.2.2⟩
theorem HQ:∀(l:List Ex),Uf l->np l
 |[],_=>trivial
 |e::l,h=>⟨vu e h.1,HQ l h.2⟩
end
def af9:Ex:=.mk 0 [] [] 0 []
def fw(e:Ex):Bool:=bif(bif(bif(e.kind==7)then(e.op==[])else false)then(e.name==[])else false)then((e.kids.length:Int)==0)else false
def eo(e:Ex):Bool:=bif(bif(e.kind==5)then(bif(e.op==[])then(e.num==0)else false)else false)then((e.kids.length:Int)==0)else false
def iK(e:Ex):Bool:=bif(bif(e.kind==6)then(bif(e.op==[])then(e.num==0)else false)else false)then((e.kids.length:Int)==1)else false
def fY(e:Ex):Bool:=bif(bif(bif(e.kind==3)then(bif(e.op==[])then(e.num==0)else false)else false)then(e.name==[])else false)then((e.kids.length:Int)==1)else false
def iL(e:Ex):Bool:=bif(bif(bif(e.kind==4)then(e.name==[])else false)then(e.num==0)else false)then((e.kids.length:Int)==2)else false
def ea(e:Ex):Bool:=bif(bif(bif(bif(bif(e.kind==1)then true else(e.kind==2))then true else(e.kind==8))then(bif(e.op==[])then(e.num==0)else false)else false)then(e.name==[])else false)then((e.kids.length:Int)==2)else false
def lx(e:Ex)(i:Nat):Ex:=e.kids.getD i af9
def ZW(e:Ex):List PV:=[N e.kind,S e.op,S e.name,U e.num,L 5 (bt e.kids)]
def jZ(e:Ex):Option (TypeId×List PV):=
 bif fw e then some (380,[])else bif eo e then some (381,[])else bif iK e then some (383,ZW (lx e 0))else bif fY e then some (384,ZW (lx e 0))else
 bif iL e then some (331,ZW (lx e 0)++ZW (lx e 1))else bif ea e then some (331,ZW (lx e 0)++ZW (lx e 1))else none
def cn(h:(bif b then c else false)=true):b=true/\c=true:=by cases b<;>cases c<;>simp at h⊢
def abn{l:List Ex}(h:((l.length:Int)==0)=true):l=[]:=by have:=bZ h;exact ir.1 (by omega)
def P4{l:List Ex}(h:((l.length:Int)==1)=true):∃x,l=[x]:=by have:=bZ h;exact List.length_eq_one_iff.1 (by omega)
def N8{l:List Ex}(h:((l.length:Int)==2)=true):∃x y,l=[x,y]:=by have:=bZ h;match l,this with|[x,y],_=>exact⟨x,y,rfl⟩
def CH(h:fw e=true):∃m,e = .mk 7 [] [] m []:=by
 obtain⟨k,o,n,m,l⟩:=e;obtain⟨h,d⟩:=cn h;obtain⟨h,c⟩:=cn h;obtain⟨a,b⟩:=cn h;exact⟨m,by rw[show k=7 from bZ a,show o=[]from bZ b,show n=[]from bZ c,show l=[]from abn d]⟩
def o9(h:eo e=true):∃n,e = .mk 5 [] n 0 []:=by
 obtain⟨k,o,n,m,l⟩:=e;obtain⟨h,d⟩:=cn h;obtain⟨a,h⟩:=cn h;obtain⟨b,c⟩:=cn h;exact⟨n,by rw[show k=5 from bZ a,show o=[]from bZ b,show m=0 from bZ c,show l=[]from abn d]⟩
def wP(h:iK e=true):∃n x,e = .mk 6 [] n 0 [x]:=by
 obtain⟨k,o,n,m,l⟩:=e;obtain⟨h,d⟩:=cn h;obtain⟨a,h⟩:=cn h;obtain⟨b,c⟩:=cn h;obtain⟨x,f⟩:=P4 d;exact⟨n,x,by rw[show k=6 from bZ a,show o=[]from bZ b,show m=0 from bZ c,show l=[x]from f]⟩
def wQ(h:fY e=true):∃x,e = .mk 3 [] [] 0 [x]:=by
 obtain⟨k,o,n,m,l⟩:=e;obtain⟨h,d⟩:=cn h;obtain⟨h,f⟩:=cn h;obtain⟨a,h⟩:=cn h;obtain⟨b,c⟩:=cn h;obtain⟨x,g⟩:=P4 d;exact⟨x,by rw[show k=3 from bZ a,show o=[]from bZ b,show m=0 from bZ c,show n=[]from bZ f,show l=[x]from g]⟩
def sV(h:iL e=true):∃o x y,e = .mk 4 o [] 0 [x,y]:=by
 obtain⟨k,o,n,m,l⟩:=e;obtain⟨h,c⟩:=cn h;obtain⟨h,d⟩:=cn h;obtain⟨a,b⟩:=cn h;obtain⟨x,y,f⟩:=N8 c;exact⟨o,x,y,by rw[show k=4 from bZ a,show n=[]from bZ b,show m=0 from bZ d,show l=[x,y]from f]⟩
def mP(h:ea e=true):∃k x y,e = .mk k [] [] 0 [x,y]/\(k=1\/k=2\/k=8):=by
 obtain⟨k,o,n,m,l⟩:=e;obtain⟨h,d⟩:=cn h;obtain⟨h,f⟩:=cn h;obtain⟨a,h⟩:=cn h;obtain⟨b,c⟩:=cn h;obtain⟨x,y,g⟩:=N8 d;refine⟨k,x,y,by rw[show o=[]from bZ b,show n=[]from bZ f,show m=0 from bZ c,show l=[x,y]from g],?_⟩
 cases ha:k==1
 .cases hb:k==2
  .have:(bif(bif(k==1)then true else(k==2))then true else(k==8))=true:=a
   rw[ha,hb]at this;exact .inr (.inr (bZ this))
  .exact .inr (.inl (bZ hb))
 .exact .inl (bZ ha)
def aga(e:Ex):ak 268 [oC e] [] [vB (bif(bif(e.kind==1)then true else(e.kind==2))then true else(e.kind==8))] []:=by apply afT;exact fi
def U2(e:Ex):ak 204 [oC e] [] [.xp (jZ e)] []:=by
 have j:(bt e.kids).length=e.kids.length:=by rw[dw,al]
 have c:∀{n:Int},((e.kids.length:Int)==n)=true->∀i:Nat,(i:Int)<n->(bt e.kids)[toNat (i:Int)]?=some [N (lx e i).kind,S (lx e i).op,S (lx e i).name,U (lx e i).num,L 5 (bt (lx e i).kids)]:=by
  intro n h i k;have h:=bZ h;have a:i<e.kids.length:=by omega
  rw[dw,toNat_cast,bu,bo a,lx,bR,bo a,<-Ex.cu];rfl
 apply afO;rw[j];refine ad (fun h=>aZ (by rw[jZ,show fw e=true from h];rfl)) fun b=>ad (fun h=>aZ (by rw[jZ,show fw e=false from b,show eo e=true from h];rfl)) fun a=>
  ad (fun h=>⟨_,_,_,_,_,by omega,c (cn h).2 0 (by omega),aZ (by rw[jZ,show fw e=false from b,show eo e=false from a,show iK e=true from h];rfl)⟩) fun d=>
  ad (fun h=>⟨_,_,_,_,_,by omega,c (cn h).2 0 (by omega),aZ (by rw[jZ,show fw e=false from b,show eo e=false from a,show iK e=false from d,show fY e=true from h];rfl)⟩) fun f=>
  ad (fun h=>⟨_,_,_,_,_,by omega,c (cn h).2 0 (by omega),_,_,_,_,_,by omega,c (cn h).2 1 (by omega),aZ (by rw[jZ,show fw e=false from b,show eo e=false from a,show iK e=false from d,show fY e=false from f,show iL e=true from h];rfl)⟩) fun g=>
  ⟨_,aga e,ad (fun h=>⟨_,_,_,_,_,by omega,c (cn h).2 0 (by omega),_,_,_,_,_,by omega,c (cn h).2 1 (by omega),aZ (by rw[jZ,show fw e=false from b,show eo e=false from a,show iK e=false from d,show fY e=false from f,show iL e=false from g,show ea e=true from h];rfl)⟩) fun h=>aZ (by rw[jZ,show fw e=false from b,show eo e=false from a,show iK e=false from d,show fY e=false from f,show iL e=false from g,show ea e=false from h];rfl)⟩
def nq(e:Ex)(t:TypeId)(h:((fw e=false\/t≠380)/\(eo e=false\/t≠381)/\(iK e=false\/t≠383)/\(fY e=false\/t≠384)/\((iL e=false/\ea e=false)\/t≠331))):∀cs,jZ e≠some (t,cs):=by
 obtain⟨c,d,f,g,b⟩:=h;intro cs a;unfold jZ at a;cases a1:fw e<;>rw[a1]at a c
 .cases a2:eo e<;>rw[a2]at a d
  .cases a3:iK e<;>rw[a3]at a f
   .cases a4:fY e<;>rw[a4]at a g
    .cases a5:iL e<;>rw[a5]at a b
     .cases a6:ea e<;>rw[a6]at a b
      .simp at a
      .simp at a b;exact b a.1.symm
     .simp at a b;exact b a.1.symm
    .simp at a g;exact g a.1.symm
   .simp at a f;exact f a.1.symm
  .simp at a d;exact d a.1.symm
 .simp at a c;exact c a.1.symm
def fG(e:Ex):Bool:=bif fw e then true else bif eo e then bQ e.name else false
def Y3(e:Ex)(a:rT e):ak 205 [oC e] [] [vB (fG e)] []:=by
 apply afP;refine⟨_,U2 e,?_⟩;cases h:fw e
 .cases h2:eo e
  .exact .inl ⟨nq e 380 (by simp[h]),.inl ⟨nq e 381 (by simp[h2]),aZ (by rw[fG,h,h2];rfl)⟩⟩
  .exact .inl ⟨nq e 380 (by simp[h]),.inr ⟨by rw[jZ,h,h2];rfl,_,zU _ ((kE e).1 a).2.1,aZ (by rw[fG,h,h2];rfl)⟩⟩
 .exact .inr ⟨by rw[jZ,h];rfl,aZ (by rw[fG,h];rfl)⟩
def gB:Ex->Bool
 |.mk k o n m [x,y]=>bif k==8 then(bif ea (.mk k o n m [x,y])then(bif fG y then gB x else false)else false)else false
 |e=>bif e.kind==8 then false else fG e
def KW(h:ea (.mk 8 o n m l)=false):gB (.mk 8 o n m l)=false:=by
 match l with
 |[]=>rfl
 |[_]=>rfl
 |[x,y]=>simp only[gB,h];rfl
 |_::_::_::_=>rfl
def yF(h:(k==8)=false):gB (.mk k o n m l)=fG (.mk k o n m l):=by
 match l with
 |[]=>simp only[gB,Ex.kind,h];rfl
 |[_]=>simp only[gB,Ex.kind,h];rfl
 |[x,y]=>
  simp only[gB,h,af];symm
  unfold fG;rw[show fw (.mk k o n m [x,y])=false from ?_,show eo (.mk k o n m [x,y])=false from ?_];rfl
  rotate_left
  .unfold fw;cases(bif(bif(Ex.kind (.mk k o n m [x,y])==7)then(Ex.op (.mk k o n m [x,y])==[])else false)then(Ex.name (.mk k o n m [x,y])==[])else false)<;>rfl
  .unfold eo;cases(bif(Ex.kind (.mk k o n m [x,y])==5)then(bif(Ex.op (.mk k o n m [x,y])==[])then(Ex.num (.mk k o n m [x,y])==0)else false)else false)<;>rfl
 |_::_::_::_=>simp only[gB,Ex.kind,h];rfl
def abo:∀(d:Nat)(e:Ex),bL e<=d->rT e->Fa e.kind e.op e.name e.num (bt e.kids) [vB (gB e)] []
 |0,e,h,_=>by rw[cO]at h;omega
 |d+1,e,h,c=>by
  apply YX;refine ad (fun b=>⟨_,U2 e,?_⟩) fun b=>⟨_,Y3 e c,aZ ?_⟩
  .cases h2:ea e
   .obtain⟨k,o,n,m,l⟩:=e
    obtain rfl:k=8:=bZ b;exact .inl ⟨nq _ 331 (by simp[h2];rfl),aZ (by rw[KW h2])⟩
   .obtain⟨k,x,y,rfl,-⟩:=mP h2
    obtain rfl:k=8:=bZ b;have g:=dZ c.2.2.2 x (by simp)
    have i:=dZ c.2.2.2 y (by simp)
    refine .inr ⟨_,_,_,_,_,_,_,_,_,_,rfl,_,Y3 y i,ad (fun a=>aZ ?_) fun a=>?_⟩
    .have a:fG y=false:=by simpa using a
     simp only[gB,h2,a];rfl
    .have a:fG y=true:=by simpa using a
     have f:gB (.mk 8 [] [] 0 [x,y])=gB x:=by simp only[gB,h2,a];rfl
     rw[f];exact abo d x (by simp only[bL,cy]at h;omega) g
  .obtain⟨k,o,n,m,l⟩:=e
   rw[yF (show(k==8)=false from b)]
def R6(e:Ex)(a:rT e):ak 145 [oC e] [] [vB (gB e)] []:=by apply afJ;exact abo _ e (ar _) a
def j8(e:Ex):Bool:=bif eo e then bQ e.name else bif iK e then(bif bQ e.name then fG (lx e 0)else false)else false
def agb(e:Ex)(c:rT e):ak 331 [oC e] [] [vB (j8 e)] []:=by
 apply afW;refine⟨_,U2 e,?_⟩;have b:=((kE e).1 c).2.1;cases h:eo e
 .cases h2:iK e
  .exact .inl ⟨nq e 381 (by simp[h]),.inl ⟨nq e 383 (by simp[h2]),aZ (by rw[j8,h,h2];rfl)⟩⟩
  .have d:=nq e 381 (by simp[h])
   obtain⟨n,x,rfl⟩:=wP h2;have f:=dZ c.2.2.2 x (by simp)
   exact .inl ⟨d,.inr ⟨_,_,_,_,_,rfl,_,zU _ b,ad (fun a=>⟨_,Y3 x f,aZ (by rw[j8,h,h2];simp only[ai,af,a];rfl)⟩) fun a=>aZ (by rw[j8,h,h2];simp only[ai,af,a])⟩⟩
 .obtain⟨n,rfl⟩:=o9 h
  exact .inr ⟨rfl,_,zU _ b,fi⟩
def cz:Ex->Bool
 |.mk k o n m [x,y]=>bif(bif k==1 then true else k==2)then(bif ea (.mk k o n m [x,y])then(bif cz x then cz y else false)else false)else
  bif k==4 then(bif iL (.mk k o n m [x,y])then(bif gh o ops then(bif j8 x then gB y else false)else false)else false)else false
 |.mk k o n m [x]=>bif k==3 then(bif fY (.mk k o n m [x])then cz x else false)else false
 |_=>false
def abp:∀(d:Nat)(e:Ex),bL e<=d->rT e->ak 275 [oC e] [] [vB (cz e)] []
 |0,e,h,_=>by rw[cO]at h;omega
 |d+1,e,h,u=>by
  have i:∀x∈e.kids,ak 275 [oC x] [] [vB (cz x)] []:=fun x v=>abp d x (by have:=ek x v;rw[cO]at h;omega) (dZ ((kE e).1 u).2.2.2 x v)
  have z:=(kE e).1 u;obtain⟨k,o,n,m,l⟩:=e;apply afV;refine⟨_,U2 _,ad (fun f=>?_) fun f=>ad (fun j=>?_) fun j=>ad (fun p=>?_) fun p=>ad (fun q=>?_) fun q=>ad (fun s=>?_) fun s=>?_⟩
  .refine aZ ?_
   have g:jZ (.mk k o n m l)=none:=by simpa using f
   have D:ea (.mk k o n m l)=false:=by
    cases a:ea (.mk k o n m l)
    .rfl
    .obtain⟨w,x,y,b,r⟩:=mP a
     rw[b]at g;rcases r with rfl|rfl|rfl<;>exact absurd g (by rw[show jZ _=some _ from rfl];simp)
   have E:iL (.mk k o n m l)=false:=by
    cases a:iL (.mk k o n m l)
    .rfl
    .obtain⟨o',x,y,b⟩:=sV a
     rw[b]at g;exact absurd g (by rw[show jZ _=some _ from rfl];simp)
   have G:fY (.mk k o n m l)=false:=by
    cases a:fY (.mk k o n m l)
    .rfl
    .obtain⟨x,b⟩:=wQ a
     rw[b]at g;exact absurd g (by rw[show jZ _=some _ from rfl];simp)
   match l with
   |[]=>rfl
   |[x]=>simp only[cz,G];cases k==3<;>rfl
   |[x,y]=>simp only[cz,D,E];cases(bif k==1 then true else k==2)<;>cases k==4<;>rfl
   |_::_::_::_=>rfl
  .obtain rfl:k=1:=bZ j
   have a:ea (.mk 1 o n m l)=true:=by
    cases a:ea (.mk 1 o n m l)
    .rw[show jZ (.mk 1 o n m l)=bif ea (.mk 1 o n m l)then some _ else none from rfl,a]at f;simp at f
    .rfl
   obtain⟨w,x,y,b,-⟩:=mP a;obtain⟨rfl,rfl,rfl,rfl,rfl⟩:=Ex.mk.inj b;exact⟨_,_,_,_,_,_,_,_,_,_,rfl,_,i x (by simp[Ex.kids]),ad (fun c=>⟨_,i y (by simp[Ex.kids]),aZ (by simp only[cz,a,c];rfl)⟩) fun c=>aZ (by simp only[cz,a,c];rfl)⟩
  .obtain rfl:k=2:=bZ p
   have a:ea (.mk 2 o n m l)=true:=by
    cases a:ea (.mk 2 o n m l)
    .rw[show jZ (.mk 2 o n m l)=bif ea (.mk 2 o n m l)then some _ else none from rfl,a]at f;simp at f
    .rfl
   obtain⟨w,x,y,b,-⟩:=mP a;obtain⟨rfl,rfl,rfl,rfl,rfl⟩:=Ex.mk.inj b;exact⟨_,_,_,_,_,_,_,_,_,_,rfl,_,i x (by simp[Ex.kids]),ad (fun c=>⟨_,i y (by simp[Ex.kids]),aZ (by simp only[cz,a,c];rfl)⟩) fun c=>aZ (by simp only[cz,a,c];rfl)⟩
  .obtain rfl:k=3:=bZ q
   have a:fY (.mk 3 o n m l)=true:=by
    cases a:fY (.mk 3 o n m l)
    .rw[show jZ (.mk 3 o n m l)=bif fY (.mk 3 o n m l)then some _ else none from rfl,a]at f;simp at f
    .rfl
   obtain⟨x,b⟩:=wQ a;obtain⟨-,rfl,rfl,rfl,rfl⟩:=Ex.mk.inj b;exact⟨_,_,_,_,_,rfl,_,i x (by simp[Ex.kids]),aZ (by simp only[cz,a];rfl)⟩
  .obtain rfl:k=4:=bZ s
   have a:iL (.mk 4 o n m l)=true:=by
    cases a:iL (.mk 4 o n m l)
    .rw[show jZ (.mk 4 o n m l)=bif iL (.mk 4 o n m l)then some _ else none from rfl,a]at f;simp at f
    .rfl
   obtain⟨o',x,y,b⟩:=sV a;obtain⟨-,rfl,rfl,rfl,rfl⟩:=Ex.mk.inj b;exact⟨_,_,_,_,_,_,_,_,_,_,rfl,_,UW o ops (by decide),ad (fun c=>⟨_,agb x (dZ z.2.2.2 x (by simp[Ex.kids])),ad (fun t=>⟨_,R6 y (dZ z.2.2.2 y (by simp[Ex.kids])),aZ (by simp only[cz,a,c,t];rfl)⟩) fun t=>aZ (by simp only[cz,a,c,t];rfl)⟩) fun c=>aZ (by simp only[cz,a,c];rfl)⟩
  .simp only[Ex.kind]at j p q s
   refine aZ ?_;match l with
   |[]=>rfl
   |[x]=>simp only[cz,q];rfl
   |[x,y]=>simp only[cz,j,p,s];rfl
   |_::_::_::_=>rfl
def qn(l:List α):(!decide (idx (fun x => !p x) l>=0))=l.all p:=by
 rw[mG];induction l with
 |nil=>rfl
 |cons x l a=>simp only[kj,bJ,Bool.not_or,Bool.not_not,a]
abbrev abq(d:cZ):AV:=.agg [S d.name,N d.ex.kind,S d.ex.op,S d.ex.name,U d.ex.num,L 5 (bt d.ex.kids)]
abbrev KX(p:cW):AV:=.agg [S p.name,L 4 (p.aT.map cQ.row)]
def agc(l:List cZ)(d:l.length<=2^40)(h:∀x∈l,ak 143 [abq x] [] [vB (p x)] []):ak 142 [vL 6 (l.map cZ.row),.fn (.func 143) [] []] [] [vB (l.all p)] []:=by
 apply RC;refine⟨_,QB _ ⟨_,QK _ ?_,fi⟩,aZ (by rw[qn])⟩
 exact eZ (Hd:=fun i=>pV _ _ i) (p:=fun x => !p x) d fun i r e b c=>Kp _ _ _ (fg (l:=l) (by simp[aJ]) (fun x a=>⟨x.name,x.ex.kind,x.ex.op,x.ex.name,x.ex.num,bt x.ex.kids,by omega,(aP a).trans (by rw[cZ.row,Ex.cu]),_,by apply RG;exact⟨_,h x (aK a),fi⟩,b x a⟩) c)
def agd(l:List cW)(d:l.length<=2^40)(h:∀x∈l,ak 147 [KX x] [] [vB (p x)] []):ak 146 [vL 2 (l.map cW.row),.fn (.func 147) [] []] [] [vB (l.all p)] []:=by
 apply RD;refine⟨_,QC _ ⟨_,QL _ ?_,fi⟩,aZ (by rw[qn])⟩
 exact eZ (Hd:=fun i=>pW _ _ i) (p:=fun x => !p x) d fun i r e b c=>Kq _ _ _ (fg (l:=l) (by simp[aJ]) (fun x a=>⟨x.name,x.aT.map cQ.row,by omega,aP a,_,by apply RH;exact⟨_,h x (aK a),fi⟩,b x a⟩) c)
def age(l:List cQ)(d:l.length<=2^40)(h:∀x∈l,ak 149 [OH x] [] [vB (p x)] []):ak 148 [vL 4 (l.map cQ.row),.fn (.func 149) [] []] [] [vB (l.all p)] []:=by
 apply RE;refine⟨_,QD _ ⟨_,QM _ ?_,fi⟩,aZ (by rw[qn])⟩
 exact eZ (Hd:=fun i=>pZ _ _ i) (p:=fun x => !p x) d fun i r e b c=>Kr _ _ _ (fg (l:=l) (by simp[aJ]) (fun x a=>⟨x.use,x.act.kind,x.act.data,x.bk.map gP.row,by omega,aP a,_,by apply RI;exact⟨_,h x (aK a),fi⟩,b x a⟩) c)
def abr(l:List By)(d:l.length<=2^40)(h:∀x∈l,ak 144 [vS x] [] [vB (p x)] []):ak 150 [vL 1 (aJ l),.fn (.func 144) [] []] [] [vB (l.all p)] []:=by
 apply RF;refine⟨_,QE _ ⟨_,QO _ ?_,fi⟩,aZ (by rw[qn])⟩
 exact eZ (Hd:=fun i=>p4 _ _ i) (p:=fun x => !p x) d fun i r e b c=>Ks _ _ _ (fg (l:=l) (by simp[aJ]) (fun x a=>⟨x,by omega,aP a,_,by apply RL;exact⟨_,h x (aK a),fi⟩,b x a⟩) c)
def agf(l:List gP)(d:l.length<=2^40)(h:∀x∈l,ak 211 [qO x] [] [vB (p x)] []):ak 210 [vL 3 (l.map gP.row),.fn (.func 211) [] []] [] [vB (l.all p)] []:=by
 apply RJ;refine⟨_,QN _ ⟨_,Q1 _ ?_,fi⟩,aZ (by rw[qn])⟩
 exact eZ (Hd:=fun i=>p8 _ _ i) (p:=fun x => !p x) d fun i r e b c=>KA _ _ _ (fg (l:=l) (by simp[aJ]) (fun x a=>⟨x.call,aJ x.params,x.cond.map Ex.row,by omega,aP a,_,by apply RO;exact⟨_,h x (aK a),fi⟩,b x a⟩) c)
def agh(l:List Ex)(d:l.length<=2^40)(h:∀x∈l,ak 274 [oC x] [] [vB (p x)] []):ak 273 [vL 5 (l.map Ex.row),.fn (.func 274) [] []] [] [vB (l.all p)] []:=by
 apply RP;refine⟨_,Q2 _ ⟨_,Q6 _ ?_,fi⟩,aZ (by rw[qn])⟩
 exact eZ (Hd:=fun i=>qb _ _ i) (p:=fun x => !p x) d fun i r e b c=>KD _ _ _ (fg (l:=l) (by simp[aJ]) (fun x a=>⟨x.kind,x.op,x.name,x.num,bt x.kids,by omega,(aP a).trans (by rw[Ex.cu]),_,by apply RQ;exact⟨_,h x (aK a),fi⟩,b x a⟩) c)
structure Af (r:gP):Prop where
 call:r.call.length<=2^40
 pl:r.params.length<=2^39
 params:∀p∈r.params,p.length<=2^40
 cl:r.cond.length<=2^40
 cond:∀e∈r.cond,rT e/\bL e<=2^40
structure xD (p:cQ):Prop where
 use:p.use.length<=2^40
 rl:p.bk.length<=2^20
 bk:∀r∈p.bk,Af r
structure WC (p:cW):Prop where
 name:p.name.length<=2^40
 pl:p.aT.length<=2^40
 aT:∀x∈p.aT,xD x
structure og (u:fT):Prop where
 dl:u.aF.length<=2^40
 aF:∀d∈u.aF,d.name.length<=2^40/\rT d.ex
 pl:u.aB.length<=2^40
 aB:∀p∈u.aB,WC p
 ml:u.main.length<=2^40
 main:∀s∈u.main,s.length<=2^40
def Ag(d:cZ):Bool:=bif bQ d.name then gB d.ex else false
def xE(e:Ex):Bool:=bif cz e then decide ((bL e:Int)<=30)else false
def lX(r:gP):Bool:=bif bQ r.call then(bif(bif !(r.params.all bQ)then true else decide ((r.cond.length:Int)>1))then false else r.cond.all xE)else false
def kW(p:cQ):Bool:=bif !(p.use==[])then(bif bQ p.use then(bif((true&&(p.act.kind==0))&&(p.act.data==0))then((p.bk.length:Int)==0)else false)else false)else
 (bif(cg p.act).2 then p.bk.all lX else false)
def wR(p:cW):Bool:=bif bQ p.name then p.aT.all kW else false
def jm(u:fT):Bool:=bif u.aF.all Ag then(bif(bif u.aB.all wR then decide ((u.main.length:Int)>0)else false)then(bif u.main.all bQ then(cg u.ch).2 else false)else false)else false
def agi(d:cZ)(a:d.name.length<=2^40)(b:rT d.ex):ak 143 [abq d] [] [vB (Ag d)] []:=by
 apply afH;exact⟨_,zU _ a,ad (fun h=>⟨_,R6 _ b,aZ (by rw[Ag,h];rfl)⟩) fun h=>aZ (by rw[Ag,h];rfl)⟩
def agj(e:Ex)(a:rT e)(b:bL e<=2^40):ak 274 [oC e] [] [vB (xE e)] []:=by
 apply afU;exact⟨_,abp _ e (ar _) a,ad (fun h=>⟨_,RU _ e (ar _) (by omega) (vu e a),aZ (by rw[xE,h];rfl)⟩) fun h=>aZ (by rw[xE,h];rfl)⟩
def agk(r:gP)(h:Af r):ak 211 [qO r] [] [vB (lX r)] []:=by
 have d:(r.cond.map Ex.row).length=r.cond.length:=al ..;apply afQ;rw[d];exact⟨_,zU _ h.call,ad (fun a=>bj rfl (aZ (by rw[lX,show bQ r.call=false by simpa using a];rfl))) fun a=>⟨_,abr _ (dX h.pl (by omega)) fun p f=>zU p (h.params p f),ad
  (fun b=>aZ (by rw[lX,show bQ r.call=true by simpa using a,b];rfl)) fun b=>⟨_,agh _ h.cl fun e c=>agj e (h.cond e c).1 (h.cond e c).2,aZ (by rw[lX,show bQ r.call=true by simpa using a,b];rfl)⟩⟩⟩
def agl(p:cQ)(h:xD p):ak 149 [OH p] [] [vB (kW p)] []:=by
 have c:(p.bk.map gP.row).length=p.bk.length:=al ..;apply afL;rw[c];exact ad (fun b=>⟨_,zU _ h.use,ad (fun a=>aZ (by rw[kW,b,a];rfl)) fun a=>aZ (by rw[kW,b,a];rfl)⟩) fun b=>⟨_,abm p.act,ad (fun a=>⟨_,agf _ (dX h.rl (by omega)) fun r d=>agk r (h.bk r d),aZ (by rw[kW,b,a];rfl)⟩) fun a=>aZ (by rw[kW,b,a];rfl)⟩
def agm(p:cW)(h:WC p):ak 147 [KX p] [] [vB (wR p)] []:=by
 apply afK;exact⟨_,zU _ h.name,ad (fun a=>⟨_,age _ h.pl fun x b=>agl x (h.aT x b),aZ (by rw[wR,a];rfl)⟩) fun a=>aZ (by rw[wR,a];rfl)⟩
def agn(u:fT)(h:og u):ak 102 [qm u] [] [vB (jm u)] []:=by
 have f:(aJ u.main).length=u.main.length:=al ..;apply afG;rw[f];exact⟨_,agc _ h.dl fun d e=>agi d (h.aF d e).1 (h.aF d e).2,ad (fun a=>⟨_,agd _ h.pl fun p g=>agm p (h.aB p g),ad (fun b=>⟨_,abr _ h.ml fun s i=>zU s (h.main s i),ad (fun c=>⟨_,abm u.ch,aZ (by rw[jm,a,b,c];rfl)⟩) fun c=>aZ (by rw[jm,a,b,c];rfl)⟩) fun b=>aZ (by rw[jm,a,b];rfl)⟩)
  fun a=>aw rfl (aZ (by rw[jm,a];rfl))⟩
def Mr(l:List Ex)(o:l.length<=2^40)(m:∀x∈l,ak 218 [vL 5 (bt x.kids)] [] [vL 5 (bt x.kids)] []):ak 218 [vL 5 (bt l)] [] [vL 5 (bt l)] []:=by
 have key:∀(t:List Ex)(i:Nat)(a:List Ex),l.drop i=t->a=l.take i->Fb (bt a) (bt l) l.length i [.own 0 0 5 (bt l)] []:=by
  intro t;induction t with
  |nil=>
   intro i a b c;have:=lj b;rw[dE this]at c;rw[c];exact RM _ _ _ _ (aQ (l:=l) rfl b fi)
  |cons x t k=>
   intro i a b c;obtain⟨d,g,n⟩:=bM b;have j:=aK d;have e:bt a++([[N x.kind,S x.op,S x.name,U x.num,L 5 (bt x.kids)]]:Rw)=bt (a++[x]):=by
    rw[dw a,dw (a++[x]),bN,<-Ex.cu];rfl
   have p:a.length<=i:=by rw[c];simp;omega
   have f:a++[x]=l.take (i+1):=by rw[c,eE,d];rfl
   refine RM _ _ _ _ (aL (l:=l) rfl b ⟨x.kind,x.op,x.name,x.num,bt x.kids,by omega,?_,bt x.kids,?_,?_,au,?_⟩)
   .rw[dw,<-Ex.cu];exact aP d
   .exact m x j
   .rw[e,dw];simp;omega
   .rw[e]
    exact k (i+1) (a++[x]) g f
 refine Go.Ac.ak.soft (r:=[.own 0 0 5 _]) ?_ rfl;apply afR;rw[show(bt l).length=l.length by rw[dw,al]]
 exact key l 0 [] rfl rfl
def abt:∀(d:Nat)(l:List Ex),cy l<=d->np l->l.length<=2^40->ak 218 [vL 5 (bt l)] [] [vL 5 (bt l)] []
 |0,l,h,_,b=>Mr l b fun x a=>by have:=ek x a;rw[cO]at this;omega
 |d+1,l,h,e,b=>Mr l b fun x a=>by
  have c:=(z6 x).1 (sU e x a);have:=ek x a;rw[cO]at this;exact abt d x.kids (by omega) c.2 c.1
def Fh(a b:Rw)(c d:Int)(e:List (PV×AV)):St:=⟨aO 52 [(5,.mp 0),(6,.own 0 0 1 a),(13,vL 6 b),(14,vN c),(15,vN d)],[some 0],[.map 266 e]⟩
def abu:df:={an:=[(5,2,ah)],cut:=[(4,{bl:=[5,6,13,14,15],cN:=[(6,1)],owns:=[6]})]}
def ago(H:Lp f103 0 (Fh [] a (a.length:Int) 0 []) 0 r h):
  ak 103 [vL 6 a] [] r h:=.of func103 abu H
def R7(c d:Rw)(e a:Int)(b:List (PV×AV))(H:bP (a<e) (ej d a fun f j k l m n=>((cK b (S f)=none/\Kg 152 [.mp 0,.agg [N j,S k,S l,U m,L 5 n]] [.map 266 b] fun g i=>aI (i !=0) (Fi r h [vL 1 [],vN a,vN i] [])
 ((c++([[U g]]:Rw)).length*8<=2^47/\aq (a+1)/\Lp f103 0 (Fh (c++([[U g]]:Rw)) d e (a+1) (cB b (S f) (.agg [U g,N i]))) 0 r h))\/(∃o p,cK b (S f)=some (.agg [U o,N p])/\Kg 152 [.mp 0,.agg [N j,S k,S l,U m,L 5 n]] [.map 266 b] fun q s=>Fi r h [vL 1 [],vN a,vN 8] [])))
 (Fi r h [.own 0 0 1 c,vN (-1),vN 0] [])):
  Lp f103 0 (Fh c d e a b) 0 r h:=.of abu H
def agp(a:List (PV×AV))(H:cb 145 [.agg [N b,S c,S d,U e,L 5 f]] [] fun g=>aI (!g) (Fi r h [.agg [U 0,N 1]] [.map 266 a])
 (Kg 214 [.mp 0,.agg [N b,S c,S d,U e,L 5 f]] [.map 266 a] fun i j=>Fi r h [.agg [U i,N j]] [.map 266 a])):
  ak 152 [.mp 0,.agg [N b,S c,S d,U e,L 5 f]] [.map 266 a] r h:=.of func152 {an:=[(1,1,ah)]} H
def agq(a:List (PV×AV))(H:aI (b==7) (Fi r h [.agg [U e,N 0]] [.map 266 a])
 (aI (b==8) (br d 0 fun n o p q s=>Kg 214 [.mp 0,.agg [N n,S o,S p,U q,L 5 s]] [.map 266 a] fun i j=>aI (j !=0) (Fi r h [.agg [U i,N j]] [.map 266 a])
 (br d 1 fun t u v w x=>Kg 214 [.mp 0,.agg [N t,S u,S v,U w,L 5 x]] [.map 266 a] fun k l=>aI (l !=0) (Fi r h [.agg [U k,N l]] [.map 266 a])
 (Fi r h [.agg [U (cf .or .u64 i k),N 0]] [.map 266 a])))
 (((cK a (S c)=none/\Fi r h [.agg [U 0,N 7]] [.map 266 a])\/(∃f g,cK a (S c)=some (.agg [U f,N g])/\Fi r h [.agg [U f,N g]] [.map 266 a]))))):
  ak 214 [.mp 0,.agg [N b,S m,S c,U e,L 5 d]] [.map 266 a] r h:=.of func214 {an:=[(5,4,ah),(8,4,ah)]} H
def agr(H:∃g,ak 334 [vL 6 a] [] [.mp 0] [.map 266 g]/\Kg 152 [.mp 0,.agg [N b,S c,S d,U e,L 5 f]] [.map 266 g] fun i j=>Fi r h [vU i,vN j] []):
  ak 281 [vL 6 a,.agg [N b,S c,S d,U e,L 5 f]] [] r h:=.of func281 {an:=[(1,1,eP),(1,2,fv),(1,3,eP),(1,5,gw)]} H
def Ah(a:Rw)(b c:Int)(d:List (PV×AV)):St:=⟨aO 33 [(3,.mp 0),(9,vL 6 a),(10,vN b),(11,vN c)],[],[.map 266 d]⟩
def abv:df:={an:=[(4,1,ah),(7,2,eP),(7,5,eP),(7,6,fv),(7,7,fv)],cut:=[(3,{bl:=[3,9,10,11]})]}
def ags(H:Lp f334 0 (Ah a (a.length:Int) 0 []) 0 r h):
  ak 334 [vL 6 a] [] r h:=.of func334 abv H
def R8(c:Rw)(d a:Int)(b:List (PV×AV))(H:bP (a<d) (ej c a fun e i j k l m=>((cK b (S e)=none/\Kg 152 [.mp 0,.agg [N i,S j,S k,U l,L 5 m]] [.map 266 b] fun n o=>aq (a+1)/\Lp f334 0 (Ah c d (a+1) (cB b (S e) (.agg [U n,N o]))) 0 r h)\/(∃f g,cK b (S e)=some (.agg [U f,N g])/\aq (a+1)/\Lp f334 0 (Ah c d (a+1) b) 0 r h)))
 (Fi r h [.mp 0] [.map 266 b])):
  Lp f334 0 (Ah c d a b) 0 r h:=.of abv H
def dh(a:By):Int×Bool:=
 bif a==[97,97,114,99,104,54,52]then(3221225655,true)else bif a==[105,51,56,54]then(1073741827,true)else bif a==[120,56,54,95,54,52]then(3221225534,true)else(0,false)
def C81(a:By):ak 81 [vS a] [] [vW (dh a).1,vB (dh a).2] []:=
 W81 a (ad (fun h=>aZ (by rw[dh,h];rfl)) fun b=>ad (fun h=>aZ (by rw[dh,b,h];rfl)) fun c=>ad (fun h=>aZ (by rw[dh,b,c,h];rfl)) fun h=>aZ (by rw[dh,b,c,h];rfl))
def ns:List By:=[[97,97,114,99,104,54,52],[105,51,56,54],[120,56,54,95,54,52]]
def abw:ak 277 [] [] [vL 1 (aJ ns)] []:=af7 fi
structure Row where
 name:By
 params:By
 n0:Int
 n1:Int
 n2:Int
def Row.row(r:Row):List PV:=[S r.name,S r.params,N r.n0,N r.n1,N r.n2]
def Row.nr(r:Row)(i:Nat):Int:=match i with|0=>r.n0|1=>r.n1|_=>r.n2
def lY:List Row:=[
 ⟨[98,114,107],[97,100,100,114],214,45,12⟩,
 ⟨[99,108,111,115,101],[102,100],57,6,3⟩,
 ⟨[100,117,112],[102,100],23,41,32⟩,
 ⟨[101,120,105,116],[99,111,100,101],93,1,60⟩,
 ⟨[101,120,105,116,95,103,114,111,117,112],[99,111,100,101],94,252,231⟩,
 ⟨[103,101,116,112,105,100],[],172,20,39⟩,
 ⟨[105,111,99,116,108],[102,100,32,114,101,113,117,101,115,116,32,97,114,103],29,54,16⟩,
 ⟨[107,105,108,108],[112,105,100,32,115,105,103],129,37,62⟩,
 ⟨[109,109,97,112],[97,100,100,114,32,108,101,110,32,112,114,111,116,32,102,108,97,103,115,32,102,100,32,111,102,102],222,90,9⟩,
 ⟨[109,112,114,111,116,101,99,116],[97,100,100,114,32,108,101,110,32,112,114,111,116],226,125,10⟩,
 ⟨[109,117,110,109,97,112],[97,100,100,114,32,108,101,110],215,91,11⟩,
 ⟨[111,112,101,110],[112,97,116,104,32,102,108,97,103,115,32,109,111,100,101],-1,5,2⟩,
 ⟨[111,112,101,110,97,116],[100,105,114,32,112,97,116,104,32,102,108,97,103,115,32,109,111,100,101],56,295,257⟩,
 ⟨[112,114,99,116,108],[111,112,116,105,111,110,32,97,32,98,32,99,32,100],167,172,157⟩,
 ⟨[114,101,97,100],[102,100,32,98,117,102,32,99,111,117,110,116],63,3,0⟩,
 ⟨[115,111,99,107,101,116],[102,97,109,105,108,121,32,116,121,112,101,32,112,114,111,116,111,99,111,108],198,359,41⟩,
 ⟨[119,114,105,116,101],[102,100,32,98,117,102,32,99,111,117,110,116],64,4,1⟩]
def agt:ak 278 [] [] [vL 5 (lY.map Row.row)] []:=af8 fi
structure Cl where
 name:By
 nr:Int
 params:List By
def Cl.row(c:Cl):List PV:=[S c.name,W c.nr,L 1 (aJ c.params)]
abbrev clA(c:Cl):AV:=.agg [S c.name,W c.nr,L 1 (aJ c.params)]
def kF(i:Nat):List Row->List Cl
 |[]=>[]
 |r::t=>bif r.nr i != -1 then⟨r.name,wrap .u32 (r.nr i),jC r.params⟩::kF i t else kF i t
def wS(ao:By):List Cl:=bif decide (idx (ao == ·) ns<0)then[]else kF (idx (ao == ·) ns).toNat lY
def KY:∀(l:List α),idx p l<l.length
 |[]=>by simp[idx]
 |x::l=>by
  have:=KY (p:=p) l;unfold idx;simp only[aD];cases p x<;>simp only[ai,af]
  .cases decide (idx p l<0)<;>simp only[ai,af]<;>omega
  .omega
def Fj:∀r∈lY,r.params.all (fun c=>c==32||(97<=c&&c<=122))=true/\r.params.length<=2^31:=by decide
def agu(ao:By):ak 219 [vS ao] [] [vL 3 ((wS ao).map Cl.row)] []:=by
 have key:∀(j:Nat),j<3->∀(t:List Row)(i:Nat)(a:List Cl),lY.drop i=t->a.length<=i->Ae (j:Int) (a.map Cl.row) (lY.map Row.row) (lY.map Row.row).length i [.own 0 0 3 ((a++kF j t).map Cl.row)] []:=by
  intro j k t;induction t with
  |nil=>
   intro i a b _;exact R5 _ _ _ _ _ (aQ (l:=lY) (by simp) b (aZ (by simp[kF])))
  |cons x t f=>
   intro i a b o;obtain⟨c,d,g⟩:=bM b;have e:=Fj x (aK c);have m:lY.length=17:=rfl;refine R5 _ _ _ _ _ (aL (l:=lY) (by simp) b ⟨x.name,x.params,x.n0,x.n1,x.n2,by omega,aP c,⟨by omega,by omega⟩,x.nr j,?_,ad (fun h=>⟨_,adY _ e.1 e.2,by simp;omega,au,?_⟩) fun h=>⟨au,?_⟩⟩)
   .match j,k with
    |0,_=>rfl
    |1,_=>rfl
    |2,_=>rfl
   .have:=f (i+1) (a++[⟨x.name,wrap .u32 (x.nr j),jC x.params⟩]) d (by simp;omega)
    rw[kF,h];rw[bq]at this;rw[bN (l₁:=a) (l₂:=[_])]at this;exact this
   .rw[kF,h]
    exact f (i+1) a d (by omega)
 have q:=KY (p:=(ao == ·)) ns
 have g:ns.length=3:=rfl;cases h:decide (idx (ao == ·) ns<0)
 .refine Go.Ac.ak.soft (r:=[.own 0 0 3 _]) ?_ rfl
  have n:=bI h;refine abk ao ⟨_,abw,_,Ro ao ns (by decide),aw h ⟨_,agt,?_⟩⟩
  have:=key (idx (ao == ·) ns).toNat (by omega) lY 0 [] rfl (by simp)
  rw[show(((idx (ao == ·) ns).toNat:Nat):Int)=idx (ao == ·) ns by omega]at this
  rw[wS,h];exact this
 .exact abk ao ⟨_,abw,_,Ro ao ns (by decide),bj h (aZ (by rw[wS,h];rfl))⟩
def kG(ao name:By):Option Cl:=(wS ao).find? fun c=>c.name==name
def R9(ao:By):(wS ao).length<=17:=by
 have:∀j l,(kF j l).length<=l.length:=by
  intro j l;induction l with
  |nil=>simp[kF]
  |cons r l a=>unfold kF;cases r.nr j != -1<;>simp only[ai,af,aD]<;>omega
 unfold wS;cases decide (idx (ao == ·) ns<0)
 .exact this _ lY
 .simp
def agv(ao name:By):ak 155 [vS ao,vS name] [] [clA ((kG ao name).getD ⟨[],0,[]⟩),vB (kG ao name).isSome] []:=by
 have g:=R9 ao;refine af4 _ _ ⟨_,agu ao,_,QF _ _ (eZ (p:=fun c=>c.name==name) (l:=wS ao) (Hd:=fun i=>pT _ _ i name) (by omega) fun i r h b d=>Km _ _ _ _ (fg (l:=wS ao) (by simp) (fun x a=>⟨x.name,x.nr,aJ x.params,by omega,aP a,_,af6 _ _ _ _ fi,b x a⟩) d)),ad (fun h=>?_) fun h=>?_⟩
 .exact aZ (by rw[kG,zB (aU h)];rfl)
 .have h:=bI h
  obtain⟨x,e,-,f⟩:=ve (p:=fun c=>c.name==name) (l:=wS ao) (by omega)
  exact⟨x.name,x.nr,aJ x.params,by omega,by rw[bu,e];rfl,aZ (by rw[kG,f];rfl)⟩
def mp{α:Type}(key:α->By)(f:α->AV)(l:List α):List (PV×AV):=l.map fun x=>(S (key x),f x)
def dx{α:Type}(key:α->By)(l:List α)(k:By):Option α:=l.find? fun x=>k==key x
def iM{α:Type}(key:α->By)(x:α):List α->List α
 |[]=>[x]
 |y::l=>bif key x==key y then x::l else y::iM key x l
def HR{α:Type}(key:α->By)(k:By):List α->List α
 |[]=>[]
 |y::l=>bif k==key y then l else y::HR key k l
def KZ(a b:By):l9 (S a) (S b)=(a==b):=rfl
def jP(key:α->By)(f:α->AV)(k:By):∀(l:List α),cK (mp key f l) (S k)=(dx key l k).map f
 |[]=>rfl
 |x::l=>by
  have a:=jP key f k l;unfold mp dx at a⊢;rw[bG,cK,KZ,cp];cases k==key x
  .exact a
  .rfl
def wT(key:α->By)(f:α->AV)(x:α):∀(l:List α),cB (mp key f l) (S (key x)) (f x)=mp key f (iM key x l)
 |[]=>rfl
 |y::l=>by
  have a:=wT key f x l;unfold mp at a⊢;rw[bG,cB,KZ,iM];cases key x==key y
  .rw[aN (by decide),a];rfl
  .rfl
def Sa(key:α->By)(f:α->AV)(k:By):∀(l:List α),k9 (mp key f l) (S k)=mp key f (HR key k l)
 |[]=>rfl
 |y::l=>by
  have a:=Sa key f k l;unfold mp at a⊢;rw[bG,k9,KZ,HR];cases k==key y
  .rw[aN (by decide),a];rfl
  .rfl
abbrev Kn:=By×Int×Int
abbrev WD(m:List Kn):List (PV×AV):=mp (·.1) (fun p=>.agg [U p.2.1,N p.2.2]) m
def dz(m:List Kn):Ex->Int×Int
 |.mk k _ n v (x::y::_)=>bif k==7 then(v,0)else bif k==8 then
   (bif(dz m x).2 !=0 then dz m x else bif(dz m y).2 !=0 then dz m y else(cf .or .u64 (dz m x).1 (dz m y).1,0))else
   ((dx (·.1) m n).map (·.2)).getD (0,7)
 |.mk k _ n v _=>bif k==7 then(v,0)else((dx (·.1) m n).map (·.2)).getD (0,7)
def ec(m:List Kn)(e:Ex):Int×Int:=bif !gB e then(0,1)else dz m e
def OJ(h:fG e=true):(e.kind==8)=false/\e.kids=[]:=by
 unfold fG at h;cases h1:fw e
 .rw[h1]at h
  cases h2:eo e
  .rw[h2]at h;simp at h
  .obtain⟨n,rfl⟩:=o9 h2;exact⟨rfl,rfl⟩
 .obtain⟨m,rfl⟩:=CH h1;exact⟨rfl,rfl⟩
def HS(h:fG e=true):gB e=true:=by
 have:=(OJ h).1;obtain⟨k,o,n,v,l⟩:=e;rw[yF (show(k==8)=false from this),h]
def HT(h:gB (.mk 8 o n v l)=true):∃x y,l=[x,y]/\gB x=true/\fG y=true:=by
 match l,h with
 |[x,y],h=>
  unfold gB at h;simp only[show((8:Int)==8)=true from rfl,ai]at h
  obtain⟨_,h⟩:=cn h;obtain⟨a,b⟩:=cn h;exact⟨x,y,rfl,b,a⟩
def Y4(m:List Kn):∀(d:Nat)(e:Ex),bL e<=d->gB e=true->ak 214 [.mp 0,oC e] [.map 266 (WD m)] [.agg [U (dz m e).1,N (dz m e).2]] [.map 266 (WD m)]
 |0,e,h,_=>by rw[cO]at h;omega
 |d+1,e,h,i=>by
  obtain⟨k,o,n,v,l⟩:=e;apply agq;refine ad (fun b=>aZ ?_) fun b=>ad (fun c=>?_) fun c=>?_
  .have a:(k==7)=true:=b
   clear b h i;match l with
   |[]=>simp only[dz,a];rfl
   |[_]=>simp only[dz,a];rfl
   |_::_::_=>simp only[dz,a];rfl
  .obtain rfl:k=8:=bZ c
   obtain⟨x,y,rfl,t,u⟩:=HT i;simp only[bL,cy]at h;have j:=Y4 m d x (by omega) t
   have q:=Y4 m d y (by omega) (HS u)
   refine⟨x.kind,x.op,x.name,x.num,bt x.kids,by omega,by rw[<-Ex.cu];rfl,_,_,j,ad (fun f=>aZ ?_) fun f=>⟨y.kind,y.op,y.name,y.num,bt y.kids,by omega,by rw[<-Ex.cu];rfl,_,_,q,ad (fun g=>aZ ?_) fun g=>aZ ?_⟩⟩
   .simp only[dz,f];rfl
   .simp only[dz,f,g];rfl
   .simp only[dz,f,g];rfl
  .have a:(k==7)=false:=b
   have w:(k==8)=false:=c;clear b c h i;have s:dz m (.mk k o n v l)=((dx (·.1) m n).map (·.2)).getD (0,7):=by
    match l with
    |[]=>simp only[dz,a];rfl
    |[_]=>simp only[dz,a];rfl
    |_::_::_=>simp only[dz,a,w];rfl
   rw[s];cases hg:dx (·.1) m n with
   |none=>exact .inl ⟨by rw[jP];show(dx _ m n).map _=none;rw[hg];rfl,fi⟩
   |some p=>exact .inr ⟨p.2.1,p.2.2,by rw[jP];show(dx _ m n).map _=_;rw[hg];rfl,fi⟩
def Y5(m:List Kn)(e:Ex)(a:rT e):ak 152 [.mp 0,oC e] [.map 266 (WD m)] [.agg [U (ec m e).1,N (ec m e).2]] [.map 266 (WD m)]:=by
 apply agp;exact⟨_,R6 e a,ad (fun h=>aZ (by rw[ec,h];rfl)) fun h=>⟨_,_,Y4 m _ e (ar _) (by simpa using h),aZ (by rw[ec,h];rfl)⟩⟩
def dJ:List cZ->List Kn->List Kn
 |[],m=>m
 |d::t,m=>dJ t (match dx (·.1) m d.name with|none=>iM (·.1) (d.name,ec m d.ex) m|some _=>m)
def agw(l:List cZ)(k:l.length<=2^40)(g:∀d∈l,rT d.ex):ak 334 [vL 6 (l.map cZ.row)] [] [.mp 0] [.map 266 (WD (dJ l []))]:=by
 have key:∀(t:List cZ)(i:Nat)(m:List Kn),l.drop i=t->Lp f334 0 (Ah (l.map cZ.row) l.length i (WD m)) 0 [.mp 0] [.map 266 (WD (dJ t m))]:=by
  intro t;induction t with
  |nil=>intro i m b;exact R8 _ _ _ _ (aQ (l:=l) rfl b fi)
  |cons d t a=>
   intro i m b;obtain⟨c,e,j⟩:=bM b;refine R8 _ _ _ _ (aL (l:=l) rfl b ⟨d.name,d.ex.kind,d.ex.op,d.ex.name,d.ex.num,bt d.ex.kids,by omega,(aP c).trans (by rw[cZ.row,Ex.cu]),?_⟩)
   have a:=a (i+1) (match dx (·.1) m d.name with|none=>iM (·.1) (d.name,ec m d.ex) m|some _=>m) e
   have f:=wT (α:=Kn) (·.1) (fun p=>.agg [U p.2.1,N p.2.2]) (d.name,ec m d.ex) m
   rw[dJ];cases hg:dx (·.1) m d.name with
   |none=>
    rw[hg]at a;refine .inl ⟨by rw[jP,hg];rfl,_,_,Y5 m _ (g d (aK c)),au,?_⟩
    rw[f];exact a
   |some p=>
    rw[hg]at a;exact .inr ⟨p.2.1,p.2.2,by rw[jP,hg];rfl,au,a⟩
 apply ags;rw[al];exact key l 0 [] rfl
def ck(l:List cZ)(e:Ex):Int×Int:=ec (dJ l []) e
def aby(l:List cZ)(e:Ex)(b:l.length<=2^40)(c:∀d∈l,rT d.ex)(a:rT e):ak 281 [vL 6 (l.map cZ.row),oC e] [] [vU (ck l e).1,vN (ck l e).2] []:=by
 apply agr;exact⟨_,agw l b c,_,_,Y5 _ e a,fi⟩
def iZ:List cZ->Int->List Int->List Kn->Except (Int×Int) (List Int)
 |[],_,a,_=>.ok a
 |d::t,i,a,m=>match dx (·.1) m d.name with
  |some _=>.error (i,8)
  |none=>bif(ec m d.ex).2 !=0 then .error (i,(ec m d.ex).2)else iZ t (i+1) (a++[(ec m d.ex).1]) (iM (·.1) (d.name,ec m d.ex) m)
def oD(l:List cZ):Except (Int×Int) (List Int):=iZ l 0 [] []
def Ai:Except (Int×Int) (List Int)->List AV
 |.error (i,e)=>[vL 1 [],vN i,vN e]
 |.ok l=>[.own 0 0 1 (l.map fun n=>[U n]),vN (-1),vN 0]
def Sb:Except (Int×Int) (List Int)->List AV
 |.error (i,e)=>[vL 1 [],vN i,vN e]
 |.ok l=>[vL 1 (l.map fun n=>[U n]),vN (-1),vN 0]
def agx(l:List cZ)(s:l.length<=2^40)(k:∀d∈l,rT d.ex):ak 103 [vL 6 (l.map cZ.row)] [] (Sb (oD l)) []:=by
 have key:∀(t:List cZ)(i:Nat)(a:List Int)(m:List Kn),l.drop i=t->a.length<=i->Lp f103 0 (Fh (a.map fun n=>[U n]) (l.map cZ.row) l.length i (WD m)) 0 (Ai (iZ t i a m)) []:=by
  intro t;induction t with
  |nil=>intro i a m b _;exact R7 _ _ _ _ _ (aQ (l:=l) rfl b fi)
  |cons d t o=>
   intro i a m b u;obtain⟨f,g,q⟩:=bM b;have c:=Y5 m _ (k d (aK f));refine R7 _ _ _ _ _ (aL (l:=l) rfl b ⟨d.name,d.ex.kind,d.ex.op,d.ex.name,d.ex.num,bt d.ex.kids,by omega,(aP f).trans (by rw[cZ.row,Ex.cu]),?_⟩)
   have j:=wT (α:=Kn) (·.1) (fun p=>.agg [U p.2.1,N p.2.2]) (d.name,ec m d.ex) m
   rw[iZ];cases hg:dx (·.1) m d.name with
   |none=>
    refine .inl ⟨by rw[jP,hg];rfl,_,_,c,ad (fun e=>aZ (by simp only[e];rfl)) fun e=>⟨by simp;omega,au,?_⟩⟩
    have:=o (i+1) (a++[(ec m d.ex).1]) (iM (·.1) (d.name,ec m d.ex) m) g (by simp;omega)
    rw[j];simp only[e,af];rw[bN]at this;exact this
   |some p=>exact .inr ⟨p.2.1,p.2.2,by rw[jP,hg];rfl,_,_,c,fi⟩
 have h:=key l 0 [] [] rfl (by simp)
 rw[oD];have w:ak 103 [vL 6 (l.map cZ.row)] [] (Ai (iZ l 0 [] [])) []:=by
  apply ago;rw[al];exact h
 cases ht:iZ l 0 [] []with
 |error p=>rw[ht]at w;exact w
 |ok p=>rw[ht]at w;exact Go.Ac.ak.soft w rfl
end Go.Ac.S4
end
