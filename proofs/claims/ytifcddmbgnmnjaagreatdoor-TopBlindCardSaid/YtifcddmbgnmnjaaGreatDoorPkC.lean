/-
Part 3: lemmas; no conditions beyond those that they state.
-/
import Derived.Test.YtifcddmbgnmnjaaGreatDoorPkB
import Derived.Sort.AssemblyPlain
import Derived.Shelf.Sort.So_math_bits_LenIn
import Derived.Sort.EveryDepth
set_option linter.all false
set_option autoImplicit true
set_option relaxedAutoImplicit true
section
namespace Go.Ac.S4
open Go Go.Proofs Go.Proofs.Tryz Go.Ac
open Go.IntKind (wrap)
open Int (toNat tdiv tmod fdiv)
open List (drop take replicate)
set_option maxRecDepth 100000
def vd(a:Rw)(b c:Int)(d:By):St:=⟨aO 19 [(0,vL 2 a),(1,.fn (.func 96) [] [.aB 0 0]),(7,vN b),(8,vN c)],[],[.aH [vS d]]⟩
def QG:bu:={an:=[(4,4,ah)],cut:=[(2,{bl:=[0,1,7,8]})]}
def YH(a:Rw)(b:By)(H:Lp f95 0 (vd a (a.length:Int) 0 b) 1 r h):
  al 95 [vL 2 a,.fn (.func 96) [] [.aB 0 0]] [.aH [vS b]] r h:=.of func95 QG H
def QH(c:Rw)(d a:Int)(b:By)(H:aw (decide (a<d)) (Qr c a fun e f=>cc 96 [.agg [S e,S f],.aB 0 0] [.aH [vS b]] fun g=>aw g (Fi r h [vN a] [.aH [vS b]])
 (au (a+1)/\Lp f95 0 (vd c d (a+1) b) 1 r h))
 (Fi r h [vN (-1)] [.aH [vS b]])):
  Lp f95 0 (vd c d a b) 1 r h:=.of QG H
def aey:bu:={an:=[(0,1,aY),(1,4,ah)],mod:=[(1,5,[(0,[])])]}
def aez(a:Rw)(H:kL 233 [vU (wrap .u64 (a.length:Int))] [] fun c=>∃b,al 232 [.bA 0,vN 0,vN (a.length:Int),vN c] [.bk 1 a] [] [.bk 1 b]/\Fi r h [] [.bk 1 b]):
  al 164 [.bA 0] [.bk 1 a] r h:=.of func164 aey H
def pK(a:Rw)(b c d:Int):St:=⟨aO 19 [(0,vL 2 a),(1,.fn (.func 176) [] [.aB 0 0]),(7,vN b),(8,vN c)],[],[.aH [vN d]]⟩
def Hv:bu:={an:=[(4,4,ah)],cut:=[(2,{bl:=[0,1,7,8]})]}
def QI(a:Rw)(b:Int)(H:Lp f175 0 (pK a (a.length:Int) 0 b) 1 r h):
  al 175 [vL 2 a,.fn (.func 176) [] [.aB 0 0]] [.aH [vN b]] r h:=.of func175 Hv H
def Kw(c:Rw)(d a b:Int)(H:aw (decide (a<d)) (aaG c a fun e f=>cc 176 [.agg [N e,S f],.aB 0 0] [.aH [vN b]] fun g=>aw g (Fi r h [vN a] [.aH [vN b]])
 (au (a+1)/\Lp f175 0 (pK c d (a+1) b) 1 r h))
 (Fi r h [vN (-1)] [.aH [vN b]])):
  Lp f175 0 (pK c d a b) 1 r h:=.of Hv H
def aeA:bu:={an:=[(1,2,ah)]}
def aeB(a:Rw)(b:Int)(H:kL 255 [vL 1 a,vN b] [] fun c=>Fi r h [vB (decide (c>=0))] []):
  al 182 [vL 1 a,vN b] [] r h:=.of func182 aeA H
def QJ:bu:={}
def QK(a:Rw)(H:kL 266 [vL 6 a,.fn (.func 201) [] [.aB 0 0]] [.aH [.fn (.func 143) [] []]] fun b=>Fi r h [vB (decide (b>=0))] [.aH [.fn (.func 143) [] []]]):
  al 200 [vL 6 a,.fn (.func 201) [] [.aB 0 0]] [.aH [.fn (.func 143) [] []]] r h:=.of func200 QJ H
def aeC:bu:={an:=[(1,2,ah)]}
def aeD(a:Rw)(b:By)(H:kL 267 [vL 1 a,vS b] [] fun c=>Fi r h [vB (decide (c>=0))] []):
  al 203 [vL 1 a,vS b] [] r h:=.of func203 aeC H
def QL:bu:={}
def QM(a:Rw)(H:kL 269 [vL 2 a,.fn (.func 207) [] [.aB 0 0]] [.aH [.fn (.func 147) [] []]] fun b=>Fi r h [vB (decide (b>=0))] [.aH [.fn (.func 147) [] []]]):
  al 206 [vL 2 a,.fn (.func 207) [] [.aB 0 0]] [.aH [.fn (.func 147) [] []]] r h:=.of func206 QL H
def QN:bu:={}
def QO(a:Rw)(H:kL 270 [vL 4 a,.fn (.func 209) [] [.aB 0 0]] [.aH [.fn (.func 149) [] []]] fun b=>Fi r h [vB (decide (b>=0))] [.aH [.fn (.func 149) [] []]]):
  al 208 [vL 4 a,.fn (.func 209) [] [.aB 0 0]] [.aH [.fn (.func 149) [] []]] r h:=.of func208 QN H
def QP:bu:={}
def QQ(a:Rw)(H:kL 276 [vL 1 a,.fn (.func 213) [] [.aB 0 0]] [.aH [.fn (.func 144) [] []]] fun b=>Fi r h [vB (decide (b>=0))] [.aH [.fn (.func 144) [] []]]):
  al 212 [vL 1 a,.fn (.func 213) [] [.aB 0 0]] [.aH [.fn (.func 144) [] []]] r h:=.of func212 QP H
def pL(a:Rw)(b c:Int)(d:By):St:=⟨aO 19 [(0,vL 3 a),(1,.fn (.func 221) [] [.aB 0 0]),(7,vN b),(8,vN c)],[],[.aH [vS d]]⟩
def Hw:bu:={an:=[(4,4,ah)],cut:=[(2,{bl:=[0,1,7,8]})]}
def QR(a:Rw)(b:By)(H:Lp f220 0 (pL a (a.length:Int) 0 b) 1 r h):
  al 220 [vL 3 a,.fn (.func 221) [] [.aB 0 0]] [.aH [vS b]] r h:=.of func220 Hw H
def Kx(c:Rw)(d a:Int)(b:By)(H:aw (decide (a<d)) (wA c a fun e f g=>cc 221 [.agg [S e,W f,L 1 g],.aB 0 0] [.aH [vS b]] fun i=>aw i (Fi r h [vN a] [.aH [vS b]])
 (au (a+1)/\Lp f220 0 (pL c d (a+1) b) 1 r h))
 (Fi r h [vN (-1)] [.aH [vS b]])):
  Lp f220 0 (pL c d a b) 1 r h:=.of Hw H
def QS:bu:={}
def QT(H:kL 295 [vL 1 a,.fn (.func 230) [] []] [] fun b=>Fi r h [vB (decide (b>=0))] []):
  al 229 [vL 1 a,.fn (.func 230) [] []] [] r h:=.of func229 QS H
def m9(a b c:Int)(d e:Bool)(f:Rw):St:=⟨aO 134 [(0,.bA 0),(1,vN a),(2,vN b),(3,vN c),(8,vB d),(9,vB e)],[],[.bk 1 f]⟩
def sH(a b c:Int)(d e:Bool)(f:Int)(g:Rw):St:=⟨aO 134 [(0,.bA 0),(1,vN a),(2,vN b),(3,vN c),(8,vB d),(9,vB e),(10,vN f)],[],[.bk 1 g]⟩
def yA(a b c:Int)(d e:Bool)(f g i:Int)(j:Rw):St:=⟨aO 134 [(0,.bA 0),(1,vN a),(2,vN b),(3,vN c),(8,vB d),(9,vB e),(10,vN f),(11,vN g),(12,vN i)],[],[.bk 1 j]⟩
def yB(a b c:Int)(d e:Bool)(f g:Int)(i:Rw):St:=⟨aO 134 [(0,.bA 0),(1,vN a),(2,vN b),(3,vN c),(8,vB d),(9,vB e),(10,vN f),(11,vN g)],[],[.bk 1 i]⟩
def QU:bu:={an:=[(15,2,aa),(15,5,aa),(15,6,aa),(17,6,aY),(17,10,aY),(17,12,ah)],mod:=[(4,3,[(0,[])]),(6,3,[(0,[])]),(8,3,[(0,[])]),(12,3,[(0,[])]),(16,3,[(0,[])]),(18,4,[(0,[])]),(20,4,[(0,[])]),(26,4,[(0,[])]),(29,5,[(0,[])])],cut:=[(2,{bl:=[0,1,2,3,8,9],iQ:=[(0,1)]})],join:=[(10,{bl:=[0,1,2,3,8,9,10],iQ:=[(0,1)]}),(15,{bl:=[0,1,2,3,8,9,10,11,12],iQ:=[(0,1)]}),(17,{bl:=[0,1,2,3,8,9,10,11],iQ:=[(0,1)]})]}
def YI(a:Rw)(b c d:Int)(H:Lp f232 0 (m9 b c d true true a) 1 r h):
  al 232 [.bA 0,vN b,vN c,vN d] [.bk 1 a] r h:=.of func232 QU H
def QV(a b c:Int)(e f:Bool)(d:Rw)(H:au (b-a)/\aw (decide ((b-a)<=12)) (∃g,al 296 [.bA 0,vN a,vN b] [.bk 1 d] [] [.bk 1 g]/\Fi r h [] [.bk 1 g])
 (aw (c==0) (∃i,al 297 [.bA 0,vN a,vN b] [.bk 1 d] [] [.bk 1 i]/\Fi r h [] [.bk 1 i])
 (aw (!e) (∃j,al 298 [.bA 0,vN a,vN b] [.bk 1 d] [] [.bk 1 j]/\au (c-1)/\Rp f232 10 (sH a b (c-1) e f (b-a) j) 1 r h)
 (Rp f232 10 (sH a b c e f (b-a) d) 1 r h)))):
  Lp f232 0 (m9 a b c e f d) 1 r h:=.of QU H
def Mf(a b e:Int)(f g:Bool)(i:Int)(c:Rw)(H:∃d j,al 299 [.bA 0,vN a,vN b] [.bk 1 c] [vN d,vN j] [.bk 1 c]/\aw (j==2) (∃k,al 300 [.bA 0,vN a,vN b] [.bk 1 c] [] [.bk 1 k]/\au (b-1)/\au (d-a)/\au ((b-1)-(d-a))/\Rp f232 15 (yA a b e f g i ((b-1)-(d-a)) 1 k) 1 r h)
 (Rp f232 15 (yA a b e f g i d j c) 1 r h)):
  Rp f232 10 (sH a b e f g i c) 1 r h:=yx.of QU H
def ET(a b e:Int)(c d:Bool)(f g k:Int)(i:Rw)(H:aw (bif(bif c then d else false)then(k==1)else false) (∃l j,al 301 [.bA 0,vN a,vN b] [.bk 1 i] [vB l] [.bk 1 j]/\aw l (Fi r h [] [.bk 1 j])
 (Rp f232 17 (yB a b e c d f g j) 1 r h))
 (Rp f232 17 (yB a b e c d f g i) 1 r h)):
  Rp f232 15 (yA a b e c d f g k i) 1 r h:=yx.of QU H
def EU(a b e:Int)(n o:Bool)(g i:Int)(f:Rw)(H:aw (decide (a>0)) (au (a-1)/\(0<=(a-1)/\(a-1)<(f.length:Int))/\∃p,(f[toNat (a-1)]?).bind (·[0]?)=some (W p)/\(0<=i/\i<(f.length:Int))/\∃q,(f[toNat i]?).bind (·[0]?)=some (W q)/\cc 302 [vW p,vW q] [] fun y=>aw (!y) (∃s t,al 303 [.bA 0,vN a,vN b,vN i] [.bk 1 f] [vN s] [.bk 1 t]/\Lp f232 0 (m9 s b e n o t) 1 r h)
 (∃c j k,al 304 [.bA 0,vN a,vN b,vN i] [.bk 1 f] [vN c,vB j] [.bk 1 k]/\au (c-a)/\au (b-c)/\(8:Int)≠0/\aw (decide ((c-a)<(b-c))) (∃u,al 232 [.bA 0,vN a,vN c,vN e] [.bk 1 k] [] [.bk 1 u]/\au (c+1)/\Lp f232 0 (m9 (c+1) b e (decide ((c-a)>=(wrap .i64 (tdiv g 8)))) j u) 1 r h)
 (au (c+1)/\∃v,al 232 [.bA 0,vN (c+1),vN b,vN e] [.bk 1 k] [] [.bk 1 v]/\Lp f232 0 (m9 a c e (decide ((b-c)>=(wrap .i64 (tdiv g 8)))) j v) 1 r h))) (∃d l m,al 304 [.bA 0,vN a,vN b,vN i] [.bk 1 f] [vN d,vB l] [.bk 1 m]/\au (d-a)/\au (b-d)/\(8:Int)≠0/\aw (decide ((d-a)<(b-d))) (∃w,al 232 [.bA 0,vN a,vN d,vN e] [.bk 1 m] [] [.bk 1 w]/\au (d+1)/\Lp f232 0 (m9 (d+1) b e (decide ((d-a)>=(wrap .i64 (tdiv g 8)))) l w) 1 r h)
 (au (d+1)/\∃x,al 232 [.bA 0,vN (d+1),vN b,vN e] [.bk 1 m] [] [.bk 1 x]/\Lp f232 0 (m9 a d e (decide ((b-d)>=(wrap .i64 (tdiv g 8)))) l x) 1 r h))):
  Rp f232 17 (yB a b e n o g i f) 1 r h:=yx.of QU H
def pM(a b:Rw)(c d:Int):St:=⟨aO 32 [(1,vL 3 a),(2,.fn (.func 238) [] []),(15,vL 3 b),(16,vN c),(17,vN d)],[],[]⟩
def Hx:bu:={an:=[(5,2,ah),(6,3,ah)],cut:=[(4,{bl:=[1,2,15,16,17]})]}
def QW(H:aw ((a.length:Int) !=(b.length:Int)) (Fi r h [vB false] [])
 (Lp f237 0 (pM b a (a.length:Int) 0) 0 r h)):
  al 237 [vL 3 a,vL 3 b,.fn (.func 238) [] []] [] r h:=.of func237 Hx H
def Ky(b c:Rw)(d a:Int)(H:aw (decide (a<d)) (rG c a fun e f g=>rG b a fun i j k=>cc 238 [.agg [L 1 e,N f,N g],.agg [L 1 i,N j,N k]] [] fun l=>aw (!l) (Fi r h [vB false] [])
 (au (a+1)/\Lp f237 0 (pM b c d (a+1)) 0 r h))
 (Fi r h [vB true] [])):
  Lp f237 0 (pM b c d a) 0 r h:=.of Hx H
def EV(a:Rw)(b c d:Int):St:=⟨aO 19 [(0,vL 1 a),(1,vN b),(7,vN c),(8,vN d)],[],[]⟩
def aaV:bu:={an:=[(4,4,ah)],cut:=[(2,{bl:=[0,1,7,8]})]}
def aeE(a:Rw)(b:Int)(H:Lp f255 0 (EV a b (a.length:Int) 0) 0 r h):
  al 255 [vL 1 a,vN b] [] r h:=.of func255 aaV H
def YJ(b:Rw)(c d a:Int)(H:aw (decide (a<d)) (Rdn b a fun e=>aw (c==e) (Fi r h [vN a] [])
 (au (a+1)/\Lp f255 0 (EV b c d (a+1)) 0 r h))
 (Fi r h [vN (-1)] [])):
  Lp f255 0 (EV b c d a) 0 r h:=.of aaV H
def pN(a:Rw)(b c:Int):St:=⟨aO 19 [(0,vL 6 a),(1,.fn (.func 201) [] [.aB 0 0]),(7,vN b),(8,vN c)],[],[.aH [.fn (.func 143) [] []]]⟩
def Hy:bu:={an:=[(4,4,ah)],cut:=[(2,{bl:=[0,1,7,8]})]}
def QX(a:Rw)(H:Lp f266 0 (pN a (a.length:Int) 0) 1 r h):
  al 266 [vL 6 a,.fn (.func 201) [] [.aB 0 0]] [.aH [.fn (.func 143) [] []]] r h:=.of func266 Hy H
def Kz(b:Rw)(c a:Int)(H:aw (decide (a<c)) (eh b a fun d e f g i j=>cc 201 [.agg [S d,N e,S f,S g,U i,L 5 j],.aB 0 0] [.aH [.fn (.func 143) [] []]] fun k=>aw k (Fi r h [vN a] [.aH [.fn (.func 143) [] []]])
 (au (a+1)/\Lp f266 0 (pN b c (a+1)) 1 r h))
 (Fi r h [vN (-1)] [.aH [.fn (.func 143) [] []]])):
  Lp f266 0 (pN b c a) 1 r h:=.of Hy H
def EW(a:Rw)(b:By)(c d:Int):St:=⟨aO 19 [(0,vL 1 a),(1,vS b),(7,vN c),(8,vN d)],[],[]⟩
def aaW:bu:={an:=[(4,4,ah)],cut:=[(2,{bl:=[0,1,7,8]})]}
def aeF(a:Rw)(b:By)(H:Lp f267 0 (EW a b (a.length:Int) 0) 0 r h):
  al 267 [vL 1 a,vS b] [] r h:=.of func267 aaW H
def YK(b:Rw)(c:By)(d a:Int)(H:aw (decide (a<d)) (Ho b a fun e=>aw (c==e) (Fi r h [vN a] [])
 (au (a+1)/\Lp f267 0 (EW b c d (a+1)) 0 r h))
 (Fi r h [vN (-1)] [])):
  Lp f267 0 (EW b c d a) 0 r h:=.of aaW H
def pO(a:Rw)(b c:Int):St:=⟨aO 19 [(0,vL 2 a),(1,.fn (.func 207) [] [.aB 0 0]),(7,vN b),(8,vN c)],[],[.aH [.fn (.func 147) [] []]]⟩
def Hz:bu:={an:=[(4,4,ah)],cut:=[(2,{bl:=[0,1,7,8]})]}
def QY(a:Rw)(H:Lp f269 0 (pO a (a.length:Int) 0) 1 r h):
  al 269 [vL 2 a,.fn (.func 207) [] [.aB 0 0]] [.aH [.fn (.func 147) [] []]] r h:=.of func269 Hz H
def KA(b:Rw)(c a:Int)(H:aw (decide (a<c)) (lO b a fun d e=>cc 207 [.agg [S d,L 4 e],.aB 0 0] [.aH [.fn (.func 147) [] []]] fun f=>aw f (Fi r h [vN a] [.aH [.fn (.func 147) [] []]])
 (au (a+1)/\Lp f269 0 (pO b c (a+1)) 1 r h))
 (Fi r h [vN (-1)] [.aH [.fn (.func 147) [] []]])):
  Lp f269 0 (pO b c a) 1 r h:=.of Hz H
def pP(a:Rw)(b c:Int):St:=⟨aO 19 [(0,vL 4 a),(1,.fn (.func 209) [] [.aB 0 0]),(7,vN b),(8,vN c)],[],[.aH [.fn (.func 149) [] []]]⟩
def HA:bu:={an:=[(4,4,ah)],cut:=[(2,{bl:=[0,1,7,8]})]}
def QZ(a:Rw)(H:Lp f270 0 (pP a (a.length:Int) 0) 1 r h):
  al 270 [vL 4 a,.fn (.func 209) [] [.aB 0 0]] [.aH [.fn (.func 149) [] []]] r h:=.of func270 HA H
def KB(b:Rw)(c a:Int)(H:aw (decide (a<c)) (gC b a fun d e f g=>cc 209 [.agg [S d,N e,N f,L 3 g],.aB 0 0] [.aH [.fn (.func 149) [] []]] fun i=>aw i (Fi r h [vN a] [.aH [.fn (.func 149) [] []]])
 (au (a+1)/\Lp f270 0 (pP b c (a+1)) 1 r h))
 (Fi r h [vN (-1)] [.aH [.fn (.func 149) [] []]])):
  Lp f270 0 (pP b c a) 1 r h:=.of HA H
def Q0:bu:={}
def Q1(a:Rw)(H:kL 328 [vL 3 a,.fn (.func 272) [] [.aB 0 0]] [.aH [.fn (.func 211) [] []]] fun b=>Fi r h [vB (decide (b>=0))] [.aH [.fn (.func 211) [] []]]):
  al 271 [vL 3 a,.fn (.func 272) [] [.aB 0 0]] [.aH [.fn (.func 211) [] []]] r h:=.of func271 Q0 H
def pQ(a:Rw)(b c:Int):St:=⟨aO 19 [(0,vL 1 a),(1,.fn (.func 213) [] [.aB 0 0]),(7,vN b),(8,vN c)],[],[.aH [.fn (.func 144) [] []]]⟩
def HB:bu:={an:=[(4,4,ah)],cut:=[(2,{bl:=[0,1,7,8]})]}
def Q2(a:Rw)(H:Lp f276 0 (pQ a (a.length:Int) 0) 1 r h):
  al 276 [vL 1 a,.fn (.func 213) [] [.aB 0 0]] [.aH [.fn (.func 144) [] []]] r h:=.of func276 HB H
def KC(b:Rw)(c a:Int)(H:aw (decide (a<c)) (Ho b a fun d=>cc 213 [vS d,.aB 0 0] [.aH [.fn (.func 144) [] []]] fun e=>aw e (Fi r h [vN a] [.aH [.fn (.func 144) [] []]])
 (au (a+1)/\Lp f276 0 (pQ b c (a+1)) 1 r h))
 (Fi r h [vN (-1)] [.aH [.fn (.func 144) [] []]])):
  Lp f276 0 (pQ b c a) 1 r h:=.of HB H
abbrev KD(a:Rw)(b:Int)(c:Rw)(d e:Int)r h:=Lp f285 0 ⟨aO 36 [(0,vL 1 a),(3,vN b),(9,vL 1 c),(10,vN d),(11,vN e)],[],[]⟩ 0 r h
abbrev KE(a b:Rw)(c d:Int)r h:=Lp f285 1 ⟨aO 36 [(6,.own 0 0 5 a),(25,vL 1 b),(26,vN c),(27,vN d)],[some 0],[]⟩ 0 r h
def YL:bu:={an:=[(4,1,ah),(9,1,{fz:=true,bD:=true,cons:=[99]}),(12,1,ah)],cut:=[(11,{bl:=[6,25,26,27],cW:=[(6,5)],owns:=[6]}),(3,{bl:=[0,3,9,10,11]})]}
def aeG(H:KD a 0 a (a.length:Int) 0 r h):
  al 285 [vL 1 a] [] r h:=.of func285 YL H
def KF(H:aw (decide (b<e)) (wB d b fun f=>au (a+(f.length:Int))/\aw (decide ((a+(f.length:Int))<0)) (False)
 (au (b+1)/\KD c (a+(f.length:Int)) d e (b+1) r h))
 (∃g,al 341 [.v .nil,vN a] [] [.own 0 0 5 g] []/\KE g c (c.length:Int) 0 r h)):
  KD c a d e b r h:=.of YL H
def KG(H:aw (decide (a<d)) (wB c a fun e=>(b++e).length*32<=2^47/\au (a+1)/\KE (b++e) c d (a+1) r h)
 (Fi r h [.own 0 0 5 b] [])):
  KE b c d a r h:=.of YL H
def Q3:bu:={}
def Q4(H:kL 342 [vL 5 f,.fn (.func 290) [] [.aB 0 0]] [.aH [vN a,vN b,vB c,vW d,vW e]] fun g=>Fi r h [vB (decide (g>=0))] [.aH [vN a,vN b,vB c,vW d,vW e]]):
  al 289 [vL 5 f,.fn (.func 290) [] [.aB 0 0]] [.aH [vN a,vN b,vB c,vW d,vW e]] r h:=.of func289 Q3 H
def Q5:bu:={}
def Q6(H:kL 342 [vL 5 b,.fn (.func 294) [] [.aB 0 0]] [.aH [vL 5 a]] fun c=>Fi r h [vB (decide (c>=0))] [.aH [vL 5 a]]):
  al 289 [vL 5 b,.fn (.func 294) [] [.aB 0 0]] [.aH [vL 5 a]] r h:=.of func289 Q5 H
def aeH:bu:={an:=[(1,2,ah)]}
def aeI(H:kL 343 [vL 5 a,.agg [N b,N c,B d,W e,W f]] [] fun g=>Fi r h [vB (decide (g>=0))] []):
  al 293 [vL 5 a,.agg [N b,N c,B d,W e,W f]] [] r h:=.of func293 aeH H
def pR(a:Rw)(b c:Int):St:=⟨aO 19 [(0,vL 1 a),(1,.fn (.func 230) [] []),(7,vN b),(8,vN c)],[],[]⟩
def HC:bu:={an:=[(4,4,ah)],cut:=[(2,{bl:=[0,1,7,8]})]}
def Q7(H:Lp f295 0 (pR a (a.length:Int) 0) 0 r h):
  al 295 [vL 1 a,.fn (.func 230) [] []] [] r h:=.of func295 HC H
def KH(b:Rw)(c a:Int)(H:aw (decide (a<c)) (wB b a fun d=>cc 230 [vL 5 d] [] fun e=>aw e (Fi r h [vN a] [])
 (au (a+1)/\Lp f295 0 (pR b c (a+1)) 0 r h))
 (Fi r h [vN (-1)] [])):
  Lp f295 0 (pR b c a) 0 r h:=.of HC H
abbrev tC(a b c:Int)(d:Rw)r h:=Lp f296 0 ⟨aO 49 [(0,.bA 0),(1,vN a),(2,vN b),(6,vN c)],[],[.bk 1 d]⟩ 1 r h
abbrev EX(a b c d:Int)(e:Rw)r h:=Lp f296 1 ⟨aO 49 [(0,.bA 0),(1,vN a),(2,vN b),(6,vN c),(7,vN d)],[],[.bk 1 e]⟩ 1 r h
def YM:bu:={an:=[(4,6,aY),(4,11,aY),(4,13,ah),(6,8,aY),(6,12,aY),(6,14,aY),(6,16,aY)],cut:=[(1,{bl:=[0,1,2,6],iQ:=[(0,1)]}),(4,{bl:=[0,1,2,6,7],iQ:=[(0,1)]})]}
def aeJ(b:Rw)(a c:Int)(H:au (a+1)/\tC a c (a+1) b r h):
  al 296 [.bA 0,vN a,vN c] [.bk 1 b] r h:=.of func296 YM H
def Q8(d b a:Int)(c:Rw)(H:aw (decide (a<b)) (EX d b a a c r h)
 (Fi r h [] [.bk 1 c])):
  tC d b a c r h:=.of YM H
def Q9(d e c a:Int)(b:Rw)(H:aw (decide (a>d)) ((0<=a/\a<(b.length:Int))/\∃g,(b[toNat a]?).bind (·[0]?)=some (W g)/\au (a-1)/\(0<=(a-1)/\(a-1)<(b.length:Int))/\∃i,(b[toNat (a-1)]?).bind (·[0]?)=some (W i)/\cc 302 [vW g,vW i] [] fun k=>aw k (au (a-1)/\au (a-1)/\(0<=(a-1)/\(a-1)<(b.length:Int))/\∃f,(b[toNat (a-1)]?).bind (·[0]?)=some (W f)/\(0<=a/\a<(b.length:Int))/\∃j,(b[toNat a]?).bind (·[0]?)=some (W j)/\(0<=a/\a<(b.length:Int))/\0+1<=1/\(0<=(a-1)/\(a-1)<((setRow b (toNat a) 0 [W f]).length:Int))/\0+1<=1/\au (a-1)/\EX d e c (a-1) (setRow (setRow b (toNat a) 0 [W f]) (toNat (a-1)) 0 [W j]) r h)
 (au (c+1)/\tC d e (c+1) b r h)) (au (c+1)/\tC d e (c+1) b r h)):
  EX d e c a b r h:=.of YM H
abbrev EY(a b c d:Int)(e:Rw)r h:=Lp f297 0 ⟨aO 56 [(0,.bA 0),(6,vN a),(7,vN b),(8,vN c),(9,vN d)],[],[.bk 1 e]⟩ 1 r h
abbrev EZ(a b c:Int)(d:Rw)r h:=Lp f297 1 ⟨aO 56 [(0,.bA 0),(6,vN a),(7,vN b),(10,vN c)],[],[.bk 1 d]⟩ 1 r h
def YN:bu:={an:=[(10,10,aY),(10,14,aY),(10,16,aY),(10,18,aY)],mod:=[(6,4,[(0,[])]),(11,4,[(0,[])])],cut:=[(4,{bl:=[0,6,7,8,9],iQ:=[(0,1)]}),(8,{bl:=[0,6,7,10],iQ:=[(0,1)]})]}
def aeK(c:Rw)(a b:Int)(H:au (b-a)/\au ((b-a)-1)/\(2:Int)≠0/\EY a 0 (b-a) (wrap .i64 (tdiv ((b-a)-1) 2)) c r h):
  al 297 [.bA 0,vN a,vN b] [.bk 1 c] r h:=.of func297 YN H
def Ra(c d a b:Int)(e:Rw)(H:aw (decide (b>=0)) (∃f,al 344 [.bA 0,vN b,vN a,vN c] [.bk 1 e] [] [.bk 1 f]/\au (b-1)/\EY c d a (b-1) f r h)
 (au (a-1)/\EZ c d (a-1) e r h)):
  EY c d a b e r h:=.of YN H
def Rb(a d b:Int)(c:Rw)(H:aw (decide (b>=0)) (au (a+b)/\au (a+b)/\(0<=(a+b)/\(a+b)<(c.length:Int))/\∃e,(c[toNat (a+b)]?).bind (·[0]?)=some (W e)/\(0<=a/\a<(c.length:Int))/\∃f,(c[toNat a]?).bind (·[0]?)=some (W f)/\(0<=a/\a<(c.length:Int))/\0+1<=1/\(0<=(a+b)/\(a+b)<((setRow c (toNat a) 0 [W e]).length:Int))/\0+1<=1/\∃g,al 344 [.bA 0,vN d,vN b,vN a] [.bk 1 (setRow (setRow c (toNat a) 0 [W e]) (toNat (a+b)) 0 [W f])] [] [.bk 1 g]/\au (b-1)/\EZ a d (b-1) g r h)
 (Fi r h [] [.bk 1 c])):
  EZ a d b c r h:=.of YN H
abbrev zG(a b c d:Int)(e:Rw)(f:Int)r h:=Lp f298 0 ⟨aO 65 [(0,.bA 0),(1,vN a),(6,vN b),(7,.aB 1 0),(8,vU c),(9,vN d)],[],[.bk 1 e,.aH [vU f]]⟩ 1 r h
abbrev sI(a b c d e:Int)(f:Rw)(g:Int)r h:=Rp f298 10 ⟨aO 65 [(0,.bA 0),(1,vN a),(6,vN b),(7,.aB 1 0),(8,vU c),(9,vN d),(10,vN e)],[],[.bk 1 f,.aH [vU g]]⟩ 1 r h
def YO:bu:={an:=[(3,1,ah),(10,10,aY),(10,14,aY),(10,16,aY),(10,18,aY)],mod:=[(7,0,[(0,[0])])],cut:=[(5,{bl:=[0,1,6,7,8,9],iQ:=[(0,1)]})],join:=[(10,{bl:=[0,1,6,7,8,9,10],iQ:=[(0,1)]})]}
def aeL(c:Rw)(a b:Int)(H:au (b-a)/\aw (decide ((b-a)>=8)) (Oy 345 [vN (b-a)] [] fun d=>(4:Int)≠0/\au ((wrap .i64 (tdiv (b-a) 4))*2)/\au (a+((wrap .i64 (tdiv (b-a) 4))*2))/\au ((a+((wrap .i64 (tdiv (b-a) 4))*2))-1)/\zG a (b-a) d ((a+((wrap .i64 (tdiv (b-a) 4))*2))-1) c (wrap .u64 (b-a)) r h)
 (Fi r h [] [.bk 1 c])):
  al 298 [.bA 0,vN a,vN b] [.bk 1 c] r h:=.of func298 YO H
def Rc(c a b e:Int)(f:Rw)(i:Int)(H:(4:Int)≠0/\au ((wrap .i64 (tdiv a 4))*2)/\au (c+((wrap .i64 (tdiv a 4))*2))/\au ((c+((wrap .i64 (tdiv a 4))*2))+1)/\aw (decide (e<=((c+((wrap .i64 (tdiv a 4))*2))+1))) (∃d g,al 346 [.aB 0 0] [.aH [vU i]] [vU d] [.aH [vU g]]/\aw (decide ((wrap .i64 (cH .and .u64 d (wrap .u64 (b-1))))>=a)) (au ((wrap .i64 (cH .and .u64 d (wrap .u64 (b-1))))-a)/\sI c a b e ((wrap .i64 (cH .and .u64 d (wrap .u64 (b-1))))-a) f g r h)
 (sI c a b e (wrap .i64 (cH .and .u64 d (wrap .u64 (b-1)))) f g r h))
 (Fi r h [] [.bk 1 f])):
  zG c a b e f i r h:=.of YO H
def Vh(a e g b c:Int)(d:Rw)(i:Int)(H:au (a+c)/\au (a+c)/\(0<=(a+c)/\(a+c)<(d.length:Int))/\∃f,(d[toNat (a+c)]?).bind (·[0]?)=some (W f)/\(0<=b/\b<(d.length:Int))/\∃j,(d[toNat b]?).bind (·[0]?)=some (W j)/\(0<=b/\b<(d.length:Int))/\0+1<=1/\(0<=(a+c)/\(a+c)<((setRow d (toNat b) 0 [W f]).length:Int))/\0+1<=1/\au (b+1)/\zG a e g (b+1) (setRow (setRow d (toNat b) 0 [W f]) (toNat (a+c)) 0 [W j]) i r h):
  sI a e g b c d i r h:=yx.of YO H
def aeM:bu:={mod:=[(8,2,[(1,[0])]),(9,2,[(1,[0])]),(10,2,[(1,[0])]),(11,4,[(1,[0])])]}
def aaX(b:Rw)(a c:Int)(H:au (c-a)/\(4:Int)≠0/\au ((wrap .i64 (tdiv (c-a) 4))*1)/\au (a+((wrap .i64 (tdiv (c-a) 4))*1))/\(4:Int)≠0/\au ((wrap .i64 (tdiv (c-a) 4))*2)/\au (a+((wrap .i64 (tdiv (c-a) 4))*2))/\(4:Int)≠0/\au ((wrap .i64 (tdiv (c-a) 4))*3)/\au (a+((wrap .i64 (tdiv (c-a) 4))*3))/\aw (decide ((c-a)>=8)) (aw (decide ((c-a)>=50)) (∃i j,al 347 [.bA 0,vN (a+((wrap .i64 (tdiv (c-a) 4))*1)),.aB 1 0] [.bk 1 b,.aH [vN 0]] [vN i] [.bk 1 b,.aH [vN j]]/\∃k l,al 347 [.bA 0,vN (a+((wrap .i64 (tdiv (c-a) 4))*2)),.aB 1 0] [.bk 1 b,.aH [vN j]] [vN k] [.bk 1 b,.aH [vN l]]/\∃m n,al 347 [.bA 0,vN (a+((wrap .i64 (tdiv (c-a) 4))*3)),.aB 1 0] [.bk 1 b,.aH [vN l]] [vN m] [.bk 1 b,.aH [vN n]]/\∃d f,al 348 [.bA 0,vN i,vN k,vN m,.aB 1 0] [.bk 1 b,.aH [vN n]] [vN d] [.bk 1 b,.aH [vN f]]/\aw (f==0) (Fi r h [vN d,vN 1] [.bk 1 b])
 (aw (f==12) (Fi r h [vN d,vN 2] [.bk 1 b])
 (Fi r h [vN d,vN 0] [.bk 1 b])))
 (∃e g,al 348 [.bA 0,vN (a+((wrap .i64 (tdiv (c-a) 4))*1)),vN (a+((wrap .i64 (tdiv (c-a) 4))*2)),vN (a+((wrap .i64 (tdiv (c-a) 4))*3)),.aB 1 0] [.bk 1 b,.aH [vN 0]] [vN e] [.bk 1 b,.aH [vN g]]/\aw (g==0) (Fi r h [vN e,vN 1] [.bk 1 b])
 (aw (g==12) (Fi r h [vN e,vN 2] [.bk 1 b])
 (Fi r h [vN e,vN 0] [.bk 1 b]))))
 (aw ((0:Int)==0) (Fi r h [vN (a+((wrap .i64 (tdiv (c-a) 4))*2)),vN 1] [.bk 1 b])
 (aw ((0:Int)==12) (Fi r h [vN (a+((wrap .i64 (tdiv (c-a) 4))*2)),vN 2] [.bk 1 b])
 (Fi r h [vN (a+((wrap .i64 (tdiv (c-a) 4))*2)),vN 0] [.bk 1 b])))):
  al 299 [.bA 0,vN a,vN c] [.bk 1 b] r h:=.of func299 aeM H
abbrev E0(a b:Int)(c:Rw)r h:=Lp f300 0 ⟨aO 32 [(0,.bA 0),(6,vN a),(7,vN b)],[],[.bk 1 c]⟩ 1 r h
def aaY:bu:={an:=[(3,6,aY),(3,10,aY),(3,12,aY),(3,14,aY)],cut:=[(2,{bl:=[0,6,7],iQ:=[(0,1)]})]}
def aeN(b:Rw)(c a:Int)(H:au (a-1)/\E0 c (a-1) b r h):
  al 300 [.bA 0,vN c,vN a] [.bk 1 b] r h:=.of func300 aaY H
def Rd(a b:Int)(c:Rw)(H:aw (decide (a<b)) ((0<=b/\b<(c.length:Int))/\∃d,(c[toNat b]?).bind (·[0]?)=some (W d)/\(0<=a/\a<(c.length:Int))/\∃e,(c[toNat a]?).bind (·[0]?)=some (W e)/\(0<=a/\a<(c.length:Int))/\0+1<=1/\(0<=b/\b<((setRow c (toNat a) 0 [W d]).length:Int))/\0+1<=1/\au (a+1)/\au (b-1)/\E0 (a+1) (b-1) (setRow (setRow c (toNat a) 0 [W d]) (toNat b) 0 [W e]) r h)
 (Fi r h [] [.bk 1 c])):
  E0 a b c r h:=.of aaY H
abbrev na(a b c d:Int)(e:Rw)r h:=Lp f301 0 ⟨aO 133 [(0,.bA 0),(1,vN a),(2,vN b),(7,vN c),(8,vN d)],[],[.bk 1 e]⟩ 1 r h
abbrev E1(a b c d:Int)(e:Rw)r h:=Lp f301 1 ⟨aO 133 [(0,.bA 0),(1,vN a),(2,vN b),(7,vN c),(8,vN d)],[],[.bk 1 e]⟩ 1 r h
abbrev E2(a b c d:Int)(e:Rw)r h:=Rp f301 7 ⟨aO 133 [(0,.bA 0),(1,vN a),(2,vN b),(7,vN c),(8,vN d)],[],[.bk 1 e]⟩ 1 r h
abbrev E3(a b c d e:Int)(f:Rw)r h:=Lp f301 2 ⟨aO 133 [(0,.bA 0),(1,vN a),(2,vN b),(7,vN c),(8,vN d),(9,vN e)],[],[.bk 1 f]⟩ 1 r h
abbrev rH(a b c d e:Int)(f:Rw)r h:=Lp f301 3 ⟨aO 133 [(0,.bA 0),(1,vN a),(2,vN b),(7,vN c),(8,vN d),(10,vN e)],[],[.bk 1 f]⟩ 1 r h
def OC:bu:={an:=[(5,6,aY),(5,11,aY),(5,13,ah),(11,8,aY),(11,12,aY),(11,14,aY),(11,16,aY),(16,2,aY),(16,7,aY),(16,9,ah),(17,8,aY),(17,12,aY),(17,14,aY),(17,16,aY),(22,2,aY),(22,7,aY),(22,9,ah),(23,8,aY),(23,12,aY),(23,14,aY),(23,16,aY)],cut:=[(14,{bl:=[0,1,2,7,8,9],iQ:=[(0,1)]}),(20,{bl:=[0,1,2,7,8,10],iQ:=[(0,1)]}),(3,{bl:=[0,1,2,7,8],iQ:=[(0,1)]}),(5,{bl:=[0,1,2,7,8],iQ:=[(0,1)]})],join:=[(7,{bl:=[0,1,2,7,8],iQ:=[(0,1)]})]}
def aeO(b:Rw)(a c:Int)(H:au (a+1)/\na a c (a+1) 0 b r h):
  al 301 [.bA 0,vN a,vN c] [.bk 1 b] r h:=.of func301 OC H
def Re(c d e a:Int)(b:Rw)(H:aw (decide (a<5)) (E1 c d e a b r h)
 (Fi r h [vB false] [.bk 1 b])):
  na c d e a b r h:=.of OC H
def YP(d c a e:Int)(b:Rw)(H:aw (decide (a<c)) ((0<=a/\a<(b.length:Int))/\∃f,(b[toNat a]?).bind (·[0]?)=some (W f)/\au (a-1)/\(0<=(a-1)/\(a-1)<(b.length:Int))/\∃g,(b[toNat (a-1)]?).bind (·[0]?)=some (W g)/\cc 302 [vW f,vW g] [] fun i=>aw (!i) (au (a+1)/\E1 d c (a+1) e b r h)
 (E2 d c a e b r h)) (E2 d c a e b r h)):
  E1 d c a e b r h:=.of OC H
def YQ(d c a e:Int)(b:Rw)(H:aw (a==c) (Fi r h [vB true] [.bk 1 b])
 (au (c-d)/\aw (decide ((c-d)<50)) (Fi r h [vB false] [.bk 1 b])
 (au (a-1)/\au (a-1)/\(0<=(a-1)/\(a-1)<(b.length:Int))/\∃f,(b[toNat (a-1)]?).bind (·[0]?)=some (W f)/\(0<=a/\a<(b.length:Int))/\∃g,(b[toNat a]?).bind (·[0]?)=some (W g)/\(0<=a/\a<(b.length:Int))/\0+1<=1/\(0<=(a-1)/\(a-1)<((setRow b (toNat a) 0 [W f]).length:Int))/\0+1<=1/\au (a-d)/\aw (decide ((a-d)>=2)) (au (a-1)/\E3 d c a e (a-1) (setRow (setRow b (toNat a) 0 [W f]) (toNat (a-1)) 0 [W g]) r h)
 (au (c-a)/\aw (decide ((c-a)>=2)) (au (a+1)/\rH d c a e (a+1) (setRow (setRow b (toNat a) 0 [W f]) (toNat (a-1)) 0 [W g]) r h)
 (au (e+1)/\na d c a (e+1) (setRow (setRow b (toNat a) 0 [W f]) (toNat (a-1)) 0 [W g]) r h))))):
  E2 d c a e b r h:=yx.of OC H
def Rf(f d c e a:Int)(b:Rw)(H:aw (decide (a>=1)) ((0<=a/\a<(b.length:Int))/\∃i,(b[toNat a]?).bind (·[0]?)=some (W i)/\au (a-1)/\(0<=(a-1)/\(a-1)<(b.length:Int))/\∃j,(b[toNat (a-1)]?).bind (·[0]?)=some (W j)/\cc 302 [vW i,vW j] [] fun l=>aw (!l) (au (d-c)/\aw (decide ((d-c)>=2)) (au (c+1)/\rH f d c e (c+1) b r h)
 (au (e+1)/\na f d c (e+1) b r h))
 (au (a-1)/\au (a-1)/\(0<=(a-1)/\(a-1)<(b.length:Int))/\∃g,(b[toNat (a-1)]?).bind (·[0]?)=some (W g)/\(0<=a/\a<(b.length:Int))/\∃k,(b[toNat a]?).bind (·[0]?)=some (W k)/\(0<=a/\a<(b.length:Int))/\0+1<=1/\(0<=(a-1)/\(a-1)<((setRow b (toNat a) 0 [W g]).length:Int))/\0+1<=1/\au (a-1)/\E3 f d c e (a-1) (setRow (setRow b (toNat a) 0 [W g]) (toNat (a-1)) 0 [W k]) r h))
 (au (d-c)/\aw (decide ((d-c)>=2)) (au (c+1)/\rH f d c e (c+1) b r h)
 (au (e+1)/\na f d c (e+1) b r h))):
  E3 f d c e a b r h:=.of OC H
def YR(e d f c a:Int)(b:Rw)(H:aw (decide (a<d)) ((0<=a/\a<(b.length:Int))/\∃i,(b[toNat a]?).bind (·[0]?)=some (W i)/\au (a-1)/\(0<=(a-1)/\(a-1)<(b.length:Int))/\∃j,(b[toNat (a-1)]?).bind (·[0]?)=some (W j)/\cc 302 [vW i,vW j] [] fun l=>aw (!l) (au (c+1)/\na e d f (c+1) b r h)
 (au (a-1)/\au (a-1)/\(0<=(a-1)/\(a-1)<(b.length:Int))/\∃g,(b[toNat (a-1)]?).bind (·[0]?)=some (W g)/\(0<=a/\a<(b.length:Int))/\∃k,(b[toNat a]?).bind (·[0]?)=some (W k)/\(0<=a/\a<(b.length:Int))/\0+1<=1/\(0<=(a-1)/\(a-1)<((setRow b (toNat a) 0 [W g]).length:Int))/\0+1<=1/\au (a+1)/\rH e d f c (a+1) (setRow (setRow b (toNat a) 0 [W g]) (toNat (a-1)) 0 [W k]) r h))
 (au (c+1)/\na e d f (c+1) b r h)):
  rH e d f c a b r h:=.of OC H
abbrev tD(a b c:Int)(d:Rw)r h:=Rp f303 3 ⟨aO 84 [(0,.bA 0),(1,vN a),(9,vN b),(10,vN c)],[],[.bk 1 d]⟩ 1 r h
abbrev wH(a b c:Int)(d:Rw)r h:=Lp f303 2 ⟨aO 84 [(0,.bA 0),(1,vN a),(9,vN b),(10,vN c)],[],[.bk 1 d]⟩ 1 r h
abbrev zH(a b c:Int)(d:Rw)r h:=Rp f303 7 ⟨aO 84 [(0,.bA 0),(1,vN a),(9,vN b),(10,vN c)],[],[.bk 1 d]⟩ 1 r h
def Vi:bu:={an:=[(1,6,aY),(1,10,aY),(1,12,aY),(1,14,aY),(3,6,aY),(3,10,aY),(3,12,ah),(5,6,aY),(5,10,aY),(5,12,ah),(8,6,aY),(8,10,aY),(8,12,aY),(8,14,aY)],cut:=[(5,{bl:=[0,1,9,10],iQ:=[(0,1)]})],join:=[(3,{bl:=[0,1,9,10],iQ:=[(0,1)]}),(7,{bl:=[0,1,9,10],iQ:=[(0,1)]})]}
def aeP(b:Rw)(a d c:Int)(H:(0<=c/\c<(b.length:Int))/\∃e,(b[toNat c]?).bind (·[0]?)=some (W e)/\(0<=a/\a<(b.length:Int))/\∃f,(b[toNat a]?).bind (·[0]?)=some (W f)/\(0<=a/\a<(b.length:Int))/\0+1<=1/\(0<=c/\c<((setRow b (toNat a) 0 [W e]).length:Int))/\0+1<=1/\au (a+1)/\au (d-1)/\tD a (a+1) (d-1) (setRow (setRow b (toNat a) 0 [W e]) (toNat c) 0 [W f]) r h):
  al 303 [.bA 0,vN a,vN d,vN c] [.bk 1 b] r h:=.of func303 Vi H
def YS(c a d:Int)(b:Rw)(H:aw (decide (a<=d)) ((0<=c/\c<(b.length:Int))/\∃e,(b[toNat c]?).bind (·[0]?)=some (W e)/\(0<=a/\a<(b.length:Int))/\∃f,(b[toNat a]?).bind (·[0]?)=some (W f)/\cc 302 [vW e,vW f] [] fun g=>aw (!g) (au (a+1)/\tD c (a+1) d b r h)
 (wH c a d b r h)) (wH c a d b r h)):
  tD c a d b r h:=yx.of Vi H
def YT(c d a:Int)(b:Rw)(H:aw (decide (d<=a)) ((0<=c/\c<(b.length:Int))/\∃e,(b[toNat c]?).bind (·[0]?)=some (W e)/\(0<=a/\a<(b.length:Int))/\∃f,(b[toNat a]?).bind (·[0]?)=some (W f)/\cc 302 [vW e,vW f] [] fun g=>aw g (au (a-1)/\wH c d (a-1) b r h)
 (zH c d a b r h)) (zH c d a b r h)):
  wH c d a b r h:=.of Vi H
def YU(e a b:Int)(c:Rw)(H:aw (decide (a>b)) (Fi r h [vN a] [.bk 1 c])
 ((0<=b/\b<(c.length:Int))/\∃d,(c[toNat b]?).bind (·[0]?)=some (W d)/\(0<=a/\a<(c.length:Int))/\∃f,(c[toNat a]?).bind (·[0]?)=some (W f)/\(0<=a/\a<(c.length:Int))/\0+1<=1/\(0<=b/\b<((setRow c (toNat a) 0 [W d]).length:Int))/\0+1<=1/\au (a+1)/\au (b-1)/\tD e (a+1) (b-1) (setRow (setRow c (toNat a) 0 [W d]) (toNat b) 0 [W f]) r h)):
  zH e a b c r h:=yx.of Vi H
abbrev zI(a b c:Int)(d:Rw)r h:=Lp f304 0 ⟨aO 168 [(0,.bA 0),(1,vN a),(10,vN b),(11,vN c)],[],[.bk 1 d]⟩ 1 r h
abbrev wI(a b c:Int)(d:Rw)r h:=Lp f304 1 ⟨aO 168 [(0,.bA 0),(1,vN a),(10,vN b),(11,vN c)],[],[.bk 1 d]⟩ 1 r h
abbrev zJ(a b c:Int)(d:Rw)r h:=Rp f304 7 ⟨aO 168 [(0,.bA 0),(1,vN a),(10,vN b),(11,vN c)],[],[.bk 1 d]⟩ 1 r h
abbrev pS(a b c:Int)(d:Rw)r h:=Rp f304 13 ⟨aO 168 [(0,.bA 0),(1,vN a),(10,vN b),(11,vN c)],[],[.bk 1 d]⟩ 1 r h
abbrev wJ(a b c:Int)(d:Rw)r h:=Lp f304 4 ⟨aO 168 [(0,.bA 0),(1,vN a),(10,vN b),(11,vN c)],[],[.bk 1 d]⟩ 1 r h
abbrev ve(a b c:Int)(d:Rw)r h:=Rp f304 17 ⟨aO 168 [(0,.bA 0),(1,vN a),(10,vN b),(11,vN c)],[],[.bk 1 d]⟩ 1 r h
def KI:bu:={an:=[(1,6,aY),(1,10,aY),(1,12,aY),(1,14,aY),(3,6,aY),(3,10,aY),(3,12,ah),(5,6,aY),(5,10,aY),(5,12,ah),(8,6,aY),(8,10,aY),(8,12,aY),(8,14,aY),(10,6,aY),(10,10,aY),(10,12,aY),(10,14,aY),(13,6,aY),(13,10,aY),(13,12,ah),(15,6,aY),(15,10,aY),(15,12,ah),(18,6,aY),(18,10,aY),(18,12,aY),(18,14,aY),(21,6,aY),(21,10,aY),(21,12,aY),(21,14,aY)],cut:=[(15,{bl:=[0,1,10,11],iQ:=[(0,1)]}),(3,{bl:=[0,1,10,11],iQ:=[(0,1)]}),(5,{bl:=[0,1,10,11],iQ:=[(0,1)]})],join:=[(13,{bl:=[0,1,10,11],iQ:=[(0,1)]}),(17,{bl:=[0,1,10,11],iQ:=[(0,1)]}),(7,{bl:=[0,1,10,11],iQ:=[(0,1)]})]}
def aeQ(b:Rw)(a d c:Int)(H:(0<=c/\c<(b.length:Int))/\∃e,(b[toNat c]?).bind (·[0]?)=some (W e)/\(0<=a/\a<(b.length:Int))/\∃f,(b[toNat a]?).bind (·[0]?)=some (W f)/\(0<=a/\a<(b.length:Int))/\0+1<=1/\(0<=c/\c<((setRow b (toNat a) 0 [W e]).length:Int))/\0+1<=1/\au (a+1)/\au (d-1)/\zI a (a+1) (d-1) (setRow (setRow b (toNat a) 0 [W e]) (toNat c) 0 [W f]) r h):
  al 304 [.bA 0,vN a,vN d,vN c] [.bk 1 b] r h:=.of func304 KI H
def YV(c a d:Int)(b:Rw)(H:aw (decide (a<=d)) ((0<=a/\a<(b.length:Int))/\∃e,(b[toNat a]?).bind (·[0]?)=some (W e)/\(0<=c/\c<(b.length:Int))/\∃f,(b[toNat c]?).bind (·[0]?)=some (W f)/\cc 302 [vW e,vW f] [] fun g=>aw g (au (a+1)/\zI c (a+1) d b r h)
 (wI c a d b r h)) (wI c a d b r h)):
  zI c a d b r h:=.of KI H
def YW(c d a:Int)(b:Rw)(H:aw (decide (d<=a)) ((0<=a/\a<(b.length:Int))/\∃e,(b[toNat a]?).bind (·[0]?)=some (W e)/\(0<=c/\c<(b.length:Int))/\∃f,(b[toNat c]?).bind (·[0]?)=some (W f)/\cc 302 [vW e,vW f] [] fun g=>aw (!g) (au (a-1)/\wI c d (a-1) b r h)
 (zJ c d a b r h)) (zJ c d a b r h)):
  wI c d a b r h:=.of KI H
def YX(d c a:Int)(b:Rw)(H:aw (decide (c>a)) ((0<=d/\d<(b.length:Int))/\∃e,(b[toNat d]?).bind (·[0]?)=some (W e)/\(0<=a/\a<(b.length:Int))/\∃g,(b[toNat a]?).bind (·[0]?)=some (W g)/\(0<=a/\a<(b.length:Int))/\0+1<=1/\(0<=d/\d<((setRow b (toNat a) 0 [W e]).length:Int))/\0+1<=1/\Fi r h [vN a,vB true] [.bk 1 (setRow (setRow b (toNat a) 0 [W e]) (toNat d) 0 [W g])])
 ((0<=a/\a<(b.length:Int))/\∃f,(b[toNat a]?).bind (·[0]?)=some (W f)/\(0<=c/\c<(b.length:Int))/\∃i,(b[toNat c]?).bind (·[0]?)=some (W i)/\(0<=c/\c<(b.length:Int))/\0+1<=1/\(0<=a/\a<((setRow b (toNat c) 0 [W f]).length:Int))/\0+1<=1/\au (c+1)/\au (a-1)/\pS d (c+1) (a-1) (setRow (setRow b (toNat c) 0 [W f]) (toNat a) 0 [W i]) r h)):
  zJ d c a b r h:=yx.of KI H
def Vj(c a d:Int)(b:Rw)(H:aw (decide (a<=d)) ((0<=a/\a<(b.length:Int))/\∃e,(b[toNat a]?).bind (·[0]?)=some (W e)/\(0<=c/\c<(b.length:Int))/\∃f,(b[toNat c]?).bind (·[0]?)=some (W f)/\cc 302 [vW e,vW f] [] fun g=>aw g (au (a+1)/\pS c (a+1) d b r h)
 (wJ c a d b r h)) (wJ c a d b r h)):
  pS c a d b r h:=yx.of KI H
def YY(c d a:Int)(b:Rw)(H:aw (decide (d<=a)) ((0<=a/\a<(b.length:Int))/\∃e,(b[toNat a]?).bind (·[0]?)=some (W e)/\(0<=c/\c<(b.length:Int))/\∃f,(b[toNat c]?).bind (·[0]?)=some (W f)/\cc 302 [vW e,vW f] [] fun g=>aw (!g) (au (a-1)/\wJ c d (a-1) b r h)
 (ve c d a b r h)) (ve c d a b r h)):
  wJ c d a b r h:=.of KI H
def Vk(d c a:Int)(b:Rw)(H:aw (decide (c>a)) ((0<=d/\d<(b.length:Int))/\∃e,(b[toNat d]?).bind (·[0]?)=some (W e)/\(0<=a/\a<(b.length:Int))/\∃g,(b[toNat a]?).bind (·[0]?)=some (W g)/\(0<=a/\a<(b.length:Int))/\0+1<=1/\(0<=d/\d<((setRow b (toNat a) 0 [W e]).length:Int))/\0+1<=1/\Fi r h [vN a,vB false] [.bk 1 (setRow (setRow b (toNat a) 0 [W e]) (toNat d) 0 [W g])])
 ((0<=a/\a<(b.length:Int))/\∃f,(b[toNat a]?).bind (·[0]?)=some (W f)/\(0<=c/\c<(b.length:Int))/\∃i,(b[toNat c]?).bind (·[0]?)=some (W i)/\(0<=c/\c<(b.length:Int))/\0+1<=1/\(0<=a/\a<((setRow b (toNat c) 0 [W f]).length:Int))/\0+1<=1/\au (c+1)/\au (a-1)/\pS d (c+1) (a-1) (setRow (setRow b (toNat c) 0 [W f]) (toNat a) 0 [W i]) r h)):
  ve d c a b r h:=yx.of KI H
def pT(a b:Rw)(c d:Int):St:=⟨aO 32 [(1,vL 1 a),(2,.fn (.func 310) [] []),(15,vL 1 b),(16,vN c),(17,vN d)],[],[]⟩
def HD:bu:={an:=[(5,2,ah),(6,3,ah)],cut:=[(4,{bl:=[1,2,15,16,17]})]}
def Rg(H:aw ((a.length:Int) !=(b.length:Int)) (Fi r h [vB false] [])
 (Lp f309 0 (pT b a (a.length:Int) 0) 0 r h)):
  al 309 [vL 1 a,vL 1 b,.fn (.func 310) [] []] [] r h:=.of func309 HD H
def KJ(b c:Rw)(d a:Int)(H:aw (decide (a<d)) (wB c a fun e=>wB b a fun f=>cc 310 [vL 5 e,vL 5 f] [] fun g=>aw (!g) (Fi r h [vB false] [])
 (au (a+1)/\Lp f309 0 (pT b c d (a+1)) 0 r h))
 (Fi r h [vB true] [])):
  Lp f309 0 (pT b c d a) 0 r h:=.of HD H
def E4(a b:Rw)(c d:Int):St:=⟨aO 26 [(0,vL 5 a),(1,vL 5 b),(12,vN c),(13,vN d)],[],[]⟩
def aaZ:bu:={an:=[(6,3,ah),(6,7,ah)],cut:=[(4,{bl:=[0,1,12,13]})]}
def aeR(H:aw ((a.length:Int) !=(b.length:Int)) (Fi r h [vB false] [])
 (Lp f311 0 (E4 a b (a.length:Int) 0) 0 r h)):
  al 311 [vL 5 a,vL 5 b] [] r h:=.of func311 aaZ H
def YZ(b c:Rw)(d a:Int)(H:aw (decide (a<d)) (n3 b a fun e f g i j=>n3 c a fun k l m n o=>aw (!(((((true&&(e==k))&&(f==l))&&(g==m))&&(i==n))&&(j==o))) (Fi r h [vB false] [])
 (au (a+1)/\Lp f311 0 (E4 b c d (a+1)) 0 r h))
 (Fi r h [vB true] [])):
  Lp f311 0 (E4 b c d a) 0 r h:=.of aaZ H
def pU(a:Rw)(b c:Int):St:=⟨aO 19 [(0,vL 3 a),(1,.fn (.func 272) [] [.aB 0 0]),(7,vN b),(8,vN c)],[],[.aH [.fn (.func 211) [] []]]⟩
def HE:bu:={an:=[(4,4,ah)],cut:=[(2,{bl:=[0,1,7,8]})]}
def Rh(a:Rw)(H:Lp f328 0 (pU a (a.length:Int) 0) 1 r h):
  al 328 [vL 3 a,.fn (.func 272) [] [.aB 0 0]] [.aH [.fn (.func 211) [] []]] r h:=.of func328 HE H
def KK(b:Rw)(c a:Int)(H:aw (decide (a<c)) (pH b a fun d e f=>cc 272 [.agg [S d,L 1 e,L 5 f],.aB 0 0] [.aH [.fn (.func 211) [] []]] fun g=>aw g (Fi r h [vN a] [.aH [.fn (.func 211) [] []]])
 (au (a+1)/\Lp f328 0 (pU b c (a+1)) 1 r h))
 (Fi r h [vN (-1)] [.aH [.fn (.func 211) [] []]])):
  Lp f328 0 (pU b c a) 1 r h:=.of HE H
def Ri:bu:={}
def Rj(a:Rw)(H:kL 356 [vL 5 a,.fn (.func 330) [] [.aB 0 0]] [.aH [.fn (.func 274) [] []]] fun b=>Fi r h [vB (decide (b>=0))] [.aH [.fn (.func 274) [] []]]):
  al 329 [vL 5 a,.fn (.func 330) [] [.aB 0 0]] [.aH [.fn (.func 274) [] []]] r h:=.of func329 Ri H
def Rk:bu:={}
def Rl(a:Rw)(H:kL 359 [vL 6 a,.fn (.func 338) [] []] [] fun b=>Fi r h [vB (decide (b>=0))] []):
  al 337 [vL 6 a,.fn (.func 338) [] []] [] r h:=.of func337 Rk H
def pV(a:Rw)(b c d e:Int)(f:Bool)(g i:Int):St:=⟨aO 19 [(0,vL 5 a),(1,.fn (.func 290) [] [.aB 0 0]),(7,vN b),(8,vN c)],[],[.aH [vN d,vN e,vB f,vW g,vW i]]⟩
def HF:bu:={an:=[(4,4,ah)],cut:=[(2,{bl:=[0,1,7,8]})]}
def Rm(H:Lp f342 0 (pV a (a.length:Int) 0 b c d e f) 1 r h):
  al 342 [vL 5 a,.fn (.func 290) [] [.aB 0 0]] [.aH [vN b,vN c,vB d,vW e,vW f]] r h:=.of func342 HF H
def KL(g:Rw)(i a b c:Int)(d:Bool)(e f:Int)(H:aw (decide (a<i)) (n3 g a fun j k l m n=>cc 290 [.agg [N j,N k,B l,W m,W n],.aB 0 0] [.aH [vN b,vN c,vB d,vW e,vW f]] fun o=>aw o (Fi r h [vN a] [.aH [vN b,vN c,vB d,vW e,vW f]])
 (au (a+1)/\Lp f342 0 (pV g i (a+1) b c d e f) 1 r h))
 (Fi r h [vN (-1)] [.aH [vN b,vN c,vB d,vW e,vW f]])):
  Lp f342 0 (pV g i a b c d e f) 1 r h:=.of HF H
def pW(a:Rw)(b c:Int)(d:Rw):St:=⟨aO 19 [(0,vL 5 a),(1,.fn (.func 294) [] [.aB 0 0]),(7,vN b),(8,vN c)],[],[.aH [vL 5 d]]⟩
def HG:bu:={an:=[(4,4,ah)],cut:=[(2,{bl:=[0,1,7,8]})]}
def Rn(H:Lp f342 0 (pW a (a.length:Int) 0 b) 1 r h):
  al 342 [vL 5 a,.fn (.func 294) [] [.aB 0 0]] [.aH [vL 5 b]] r h:=.of func342 HG H
def KM(c:Rw)(d a:Int)(b:Rw)(H:aw (decide (a<d)) (n3 c a fun e f g i j=>cc 294 [.agg [N e,N f,B g,W i,W j],.aB 0 0] [.aH [vL 5 b]] fun k=>aw k (Fi r h [vN a] [.aH [vL 5 b]])
 (au (a+1)/\Lp f342 0 (pW c d (a+1) b) 1 r h))
 (Fi r h [vN (-1)] [.aH [vL 5 b]])):
  Lp f342 0 (pW c d a b) 1 r h:=.of HG H
def E5(a:Rw)(b c d e:Int)(f:Bool)(g i:Int):St:=⟨aO 19 [(0,vL 5 a),(3,.aB 0 0),(7,vN b),(8,vN c)],[],[.aH [vN d,vN e,vB f,vW g,vW i]]⟩
def aa0:bu:={an:=[(4,4,ah)],cut:=[(2,{bl:=[0,3,7,8]})]}
def aeS(H:Lp f343 0 (E5 a (a.length:Int) 0 b c d e f) 0 r h):
  al 343 [vL 5 a,.agg [N b,N c,B d,W e,W f]] [] r h:=.of func343 aa0 H
def Y0(b:Rw)(c a d e:Int)(f:Bool)(g i:Int)(H:aw (decide (a<c)) (n3 b a fun j k l m n=>aw (((((true&&(d==j))&&(e==k))&&(f==l))&&(g==m))&&(i==n)) (Fi r h [vN a] [])
 (au (a+1)/\Lp f343 0 (E5 b c (a+1) d e f g i) 0 r h))
 (Fi r h [vN (-1)] [])):
  Lp f343 0 (E5 b c a d e f g i) 0 r h:=.of aa0 H
abbrev E6(a b c:Int)(d:Rw)r h:=Lp f344 0 ⟨aO 76 [(0,.bA 0),(2,vN a),(3,vN b),(8,vN c)],[],[.bk 1 d]⟩ 1 r h
abbrev zK(a b c d:Int)(e:Rw)r h:=Rp f344 5 ⟨aO 76 [(0,.bA 0),(2,vN a),(3,vN b),(8,vN c),(9,vN d)],[],[.bk 1 e]⟩ 1 r h
def Y1:bu:={an:=[(3,9,aY),(3,16,aY),(3,18,ah),(5,4,aY),(5,10,aY),(5,12,ah),(6,12,aY),(6,18,aY),(6,20,aY),(6,22,aY)],cut:=[(1,{bl:=[0,2,3,8],iQ:=[(0,1)]})],join:=[(5,{bl:=[0,2,3,8,9],iQ:=[(0,1)]})]}
def aeT(a:Rw)(b c d:Int)(H:E6 c d b a r h):
  al 344 [.bA 0,vN b,vN c,vN d] [.bk 1 a] r h:=.of func344 Y1 H
def Y2(d b a:Int)(c:Rw)(H:au ((2:Int)*a)/\au (((2:Int)*a)+1)/\aw (decide ((((2:Int)*a)+1)>=d)) (Fi r h [] [.bk 1 c])
 (au ((((2:Int)*a)+1)+1)/\aw (decide (((((2:Int)*a)+1)+1)<d)) (au (b+(((2:Int)*a)+1))/\(0<=(b+(((2:Int)*a)+1))/\(b+(((2:Int)*a)+1))<(c.length:Int))/\∃e,(c[toNat (b+(((2:Int)*a)+1))]?).bind (·[0]?)=some (W e)/\au (b+(((2:Int)*a)+1))/\au ((b+(((2:Int)*a)+1))+1)/\(0<=((b+(((2:Int)*a)+1))+1)/\((b+(((2:Int)*a)+1))+1)<(c.length:Int))/\∃f,(c[toNat ((b+(((2:Int)*a)+1))+1)]?).bind (·[0]?)=some (W f)/\cc 302 [vW e,vW f] [] fun g=>aw g (au ((((2:Int)*a)+1)+1)/\zK d b a ((((2:Int)*a)+1)+1) c r h)
 (zK d b a (((2:Int)*a)+1) c r h)) (zK d b a (((2:Int)*a)+1) c r h))):
  E6 d b a c r h:=.of Y1 H
def Y3(f a b c:Int)(d:Rw)(H:au (a+b)/\(0<=(a+b)/\(a+b)<(d.length:Int))/\∃g,(d[toNat (a+b)]?).bind (·[0]?)=some (W g)/\au (a+c)/\(0<=(a+c)/\(a+c)<(d.length:Int))/\∃i,(d[toNat (a+c)]?).bind (·[0]?)=some (W i)/\cc 302 [vW g,vW i] [] fun k=>aw (!k) (Fi r h [] [.bk 1 d])
 (au (a+b)/\au (a+c)/\au (a+c)/\(0<=(a+c)/\(a+c)<(d.length:Int))/\∃e,(d[toNat (a+c)]?).bind (·[0]?)=some (W e)/\au (a+b)/\(0<=(a+b)/\(a+b)<(d.length:Int))/\∃j,(d[toNat (a+b)]?).bind (·[0]?)=some (W j)/\(0<=(a+b)/\(a+b)<(d.length:Int))/\0+1<=1/\(0<=(a+c)/\(a+c)<((setRow d (toNat (a+b)) 0 [W e]).length:Int))/\0+1<=1/\E6 f a c (setRow (setRow d (toNat (a+b)) 0 [W e]) (toNat (a+c)) 0 [W j]) r h)):
  zK f a b c d r h:=yx.of Y1 H
def aeU:bu:={an:=[(1,2,ah)]}
def aeV(a:Int)(H:kL 233 [vU (wrap .u64 a)] [] fun b=>0<=b/\Fi r h [vU (wrap .u64 ((1:Int)*2^(min (toNat b) (IntKind.bits .u64))))] []):
  al 345 [vN a] [] r h:=.of func345 aeU H
def aeW:bu:={}
def aeX(a:Int)(H:0<=(13:Int)/\0<=(7:Int)/\0<=(17:Int)/\Fi r h [vU (cH .xor .u64 (cH .xor .u64 (cH .xor .u64 a (wrap .u64 (a*2^(min (toNat 13) (IntKind.bits .u64))))) (fdiv (cH .xor .u64 a (wrap .u64 (a*2^(min (toNat 13) (IntKind.bits .u64))))) (2^(min (toNat 7) (IntKind.bits .u64))))) (wrap .u64 ((cH .xor .u64 (cH .xor .u64 a (wrap .u64 (a*2^(min (toNat 13) (IntKind.bits .u64))))) (fdiv (cH .xor .u64 a (wrap .u64 (a*2^(min (toNat 13) (IntKind.bits .u64))))) (2^(min (toNat 7) (IntKind.bits .u64)))))*2^(min (toNat 17) (IntKind.bits .u64)))))] [.aH [vU (cH .xor .u64 (cH .xor .u64 (cH .xor .u64 a (wrap .u64 (a*2^(min (toNat 13) (IntKind.bits .u64))))) (fdiv (cH .xor .u64 a (wrap .u64 (a*2^(min (toNat 13) (IntKind.bits .u64))))) (2^(min (toNat 7) (IntKind.bits .u64))))) (wrap .u64 ((cH .xor .u64 (cH .xor .u64 a (wrap .u64 (a*2^(min (toNat 13) (IntKind.bits .u64))))) (fdiv (cH .xor .u64 a (wrap .u64 (a*2^(min (toNat 13) (IntKind.bits .u64))))) (2^(min (toNat 7) (IntKind.bits .u64)))))*2^(min (toNat 17) (IntKind.bits .u64)))))]]):
  al 346 [.aB 0 0] [.aH [vU a]] r h:=.of func346 aeW H
def aeY:bu:={mod:=[(1,7,[(1,[0])])]}
def aeZ(b:Rw)(a c:Int)(H:au (a-1)/\au (a+1)/\∃d e,al 348 [.bA 0,vN (a-1),vN a,vN (a+1),.aB 1 0] [.bk 1 b,.aH [vN c]] [vN d] [.bk 1 b,.aH [vN e]]/\Fi r h [vN d] [.bk 1 b,.aH [vN e]]):
  al 347 [.bA 0,vN a,.aB 1 0] [.bk 1 b,.aH [vN c]] r h:=.of func347 aeY H
def ae0:bu:={mod:=[(1,4,[(1,[0])]),(2,4,[(1,[0])]),(3,4,[(1,[0])])]}
def ae1(a:Rw)(b c d e:Int)(H:∃f g i,al 360 [.bA 0,vN b,vN c,.aB 1 0] [.bk 1 a,.aH [vN e]] [vN f,vN g] [.bk 1 a,.aH [vN i]]/\∃j n k,al 360 [.bA 0,vN g,vN d,.aB 1 0] [.bk 1 a,.aH [vN i]] [vN j,vN n] [.bk 1 a,.aH [vN k]]/\∃o l m,al 360 [.bA 0,vN f,vN j,.aB 1 0] [.bk 1 a,.aH [vN k]] [vN o,vN l] [.bk 1 a,.aH [vN m]]/\Fi r h [vN l] [.bk 1 a,.aH [vN m]]):
  al 348 [.bA 0,vN b,vN c,vN d,.aB 1 0] [.bk 1 a,.aH [vN e]] r h:=.of func348 ae0 H
def pZ(a:Rw)(b c:Int):St:=⟨aO 19 [(0,vL 5 a),(1,.fn (.func 330) [] [.aB 0 0]),(7,vN b),(8,vN c)],[],[.aH [.fn (.func 274) [] []]]⟩
def HH:bu:={an:=[(4,4,ah)],cut:=[(2,{bl:=[0,1,7,8]})]}
def Ro(a:Rw)(H:Lp f356 0 (pZ a (a.length:Int) 0) 1 r h):
  al 356 [vL 5 a,.fn (.func 330) [] [.aB 0 0]] [.aH [.fn (.func 274) [] []]] r h:=.of func356 HH H
def KN(b:Rw)(c a:Int)(H:aw (decide (a<c)) (bq b a fun d e f g i=>cc 330 [.agg [N d,S e,S f,U g,L 5 i],.aB 0 0] [.aH [.fn (.func 274) [] []]] fun j=>aw j (Fi r h [vN a] [.aH [.fn (.func 274) [] []]])
 (au (a+1)/\Lp f356 0 (pZ b c (a+1)) 1 r h))
 (Fi r h [vN (-1)] [.aH [.fn (.func 274) [] []]])):
  Lp f356 0 (pZ b c a) 1 r h:=.of HH H
abbrev KO(a:Rw)(b:Int)(c:Rw)(d e:Int)r h:=Lp f358 0 ⟨aO 36 [(0,vL 1 a),(3,vN b),(9,vL 1 c),(10,vN d),(11,vN e)],[],[]⟩ 0 r h
abbrev KP(a b:Rw)(c d:Int)r h:=Lp f358 1 ⟨aO 36 [(6,.own 0 0 4 a),(25,vL 1 b),(26,vN c),(27,vN d)],[some 0],[]⟩ 0 r h
def Y4:bu:={an:=[(4,1,ah),(9,1,{fz:=true,bD:=true,cons:=[99]}),(12,1,ah)],cut:=[(11,{bl:=[6,25,26,27],cW:=[(6,4)],owns:=[6]}),(3,{bl:=[0,3,9,10,11]})]}
def ae2(H:KO a 0 a (a.length:Int) 0 r h):
  al 358 [vL 1 a] [] r h:=.of func358 Y4 H
def KQ(H:aw (decide (b<e)) (Qt d b fun f=>au (a+(f.length:Int))/\aw (decide ((a+(f.length:Int))<0)) (False)
 (au (b+1)/\KO c (a+(f.length:Int)) d e (b+1) r h))
 (∃g,al 364 [.v .nil,vN a] [] [.own 0 0 4 g] []/\KP g c (c.length:Int) 0 r h)):
  KO c a d e b r h:=.of Y4 H
def KR(H:aw (decide (a<d)) (Qt c a fun e=>(b++e).length*32<=2^47/\au (a+1)/\KP (b++e) c d (a+1) r h)
 (Fi r h [.own 0 0 4 b] [])):
  KP b c d a r h:=.of Y4 H
def p6(a:Rw)(b c:Int):St:=⟨aO 19 [(0,vL 6 a),(1,.fn (.func 338) [] []),(7,vN b),(8,vN c)],[],[]⟩
def HI:bu:={an:=[(4,4,ah)],cut:=[(2,{bl:=[0,1,7,8]})]}
def Rq(a:Rw)(H:Lp f359 0 (p6 a (a.length:Int) 0) 0 r h):
  al 359 [vL 6 a,.fn (.func 338) [] []] [] r h:=.of func359 HI H
def KS(b:Rw)(c a:Int)(H:aw (decide (a<c)) (sE b a fun d e f g i j=>cc 338 [.agg [N d,N e,N f,U g,U i,L 6 j]] [] fun k=>aw k (Fi r h [vN a] [])
 (au (a+1)/\Lp f359 0 (p6 b c (a+1)) 0 r h))
 (Fi r h [vN (-1)] [])):
  Lp f359 0 (p6 b c a) 0 r h:=.of HI H
def ae3:bu:={an:=[(1,2,aY),(1,6,aY),(1,8,ah)]}
def aa1(a:Rw)(b c d:Int)(H:(0<=c/\c<(a.length:Int))/\∃e,(a[toNat c]?).bind (·[0]?)=some (W e)/\(0<=b/\b<(a.length:Int))/\∃f,(a[toNat b]?).bind (·[0]?)=some (W f)/\cc 302 [vW e,vW f] [] fun g=>aw g (au (d+1)/\Fi r h [vN c,vN b] [.bk 1 a,.aH [vN (d+1)]])
 (Fi r h [vN b,vN c] [.bk 1 a,.aH [vN d]])):
  al 360 [.bA 0,vN b,vN c,.aB 1 0] [.bk 1 a,.aH [vN d]] r h:=.of func360 ae3 H
def ae4:bu:={an:=[(1,1,ah),(1,4,ah),(1,8,aa),(1,9,aa),(1,10,aa)]}
def ae5(a b:Int)(H:cc 349 [vW a] [] fun c=>aw c (cc 349 [vW b] [] fun d=>Fi r h [vB (bif(!d)then true else(decide (a<b)))] []) (Fi r h [vB (bif false then true else(decide (a<b)))] [])):
  al 302 [vW a,vW b] [] r h:=.of func302 ae4 H
def ae6:bu:={}
def ae7(a:Int)(H:Fi r h [vB (a !=a)] []):
  al 349 [vW a] [] r h:=.of func349 ae6 H
section
open Go.Sort (ltInt swp swp_size PermIn SortedIn)
def rA(d:Array Int):Rw:=d.toList.map fun x=>[W x]
def Rr(d:Array Int):((rA d).length:Int)=d.size:=by simp[rA]
def Y5(h:i<d.size):((rA d)[i]?).bind (·[0]?)=some (W d[i]!):=by
 simp[rA,h]
def Vl(l:Rw)(i:Nat)(p:List PV):((setRow l i 0 p).length:Int)=l.length:=by simp[setRow]
def Rs(d:Array Int)(i:Nat)(x:Int):setRow (rA d) i 0 [W x]=rA (d.setIfInBounds i x):=by
 unfold setRow rA;apply fu;intro j;rw[D3];simp only[bw,hQ,Array.getElem?_setIfInBounds];by_cases h:i=j
 .subst h
  by_cases a:i<d.size
  .simp[a,putAt]
  .simp[a]
 .simp[h]
def dL{n:Int}{i:Nat}(b:n=i)(a:i<d.size){P:Int->Prop}(c:P d[i]!):
  (0<=n/\n<((rA d).length:Int))/\∃x,((rA d)[toNat n]?).bind (·[0]?)=some (W x)/\P x:=by
 subst b;exact⟨by rw[Rr];omega,_,Y5 a,c⟩
def jJ{n m:Int}{i j:Nat}(b:n=i)(a:m=j):setRow (setRow (rA d) (toNat n) 0 [W d[j]!]) (toNat m) 0 [W d[i]!]=rA (swp d i j):=by
 subst b a;rw[Rs,Rs];rfl
def tE{n m:Int}{i j k:Nat}(e:n=i)(c:m=j)(a:i<d.size)(b:j<d.size)(h:R):
  (0<=n/\n<((rA d).length:Int))/\0+1<=1/\(0<=m/\m<((setRow (rA d) k 0 [y]).length:Int))/\0+1<=1/\R:=by
 rw[Vl,Rr];exact⟨by omega,by omega,by omega,by omega,h⟩
def aa2(x y:Int):al 302 [vW x,vW y] [] [vB (ltInt x y)] []:=
 ae5 x y ⟨_,ae7 x fi,ad (fun h=>by simp at h) fun _=>fi⟩
def KU{A B:Prop}(a:ltInt x y=true->A)(b:ltInt x y=false->B):∃less,al 302 [vW x,vW y] [] [vB less] []/\aw less A B:=
 ⟨_,aa2 x y,ad a b⟩
def E7{A B:Prop}(a:ltInt x y=false->A)(b:ltInt x y=true->B):∃less,al 302 [vW x,vW y] [] [vB less] []/\aw (!less) A B:=
 ⟨_,aa2 x y,ad (fun h=>a (by simpa using h)) fun h=>b (by simpa using h)⟩
def ow(a:Nat):∀j(d:Array Int),(Sort.insInner ltInt a j d).size=d.size
 |0,_=>rfl
 |j+1,d=>by
  unfold Sort.insInner;split
  .rw[ow,swp_size]
  .rfl
def Rt{a b i:Nat}{r:List AV}{h:List Bx}:∀(j:Nat)(d:Array Int),j<d.size->d.size<=2^40->i<2^40 ->
  tC a b ((i+1:Nat):Int) (rA (Sort.insInner ltInt a j d)) r h->EX a b i j (rA d) r h
 |0,d,_,_,g,H=>Q9 _ _ _ _ _ (ad (fun h=>by simp at h;omega) fun _=>⟨aC,H⟩)
 |j+1,d,e,l,g,H=>by
  have c:au ((i:Int)+1)/\tC a b ((i:Int)+1) (rA (Sort.insInner ltInt a (j+1) d)) r h:=⟨aC,H⟩;unfold Sort.insInner at c;refine Q9 _ _ _ _ _ (ad (fun h=>?_) fun h=>?_)
  .have k:j+1>a:=by simp at h;omega
   refine dL (i:=j+1) rfl e ⟨aC,dL (i:=j) (by omega) (by omega) (KU (fun f=>?_) fun f=>?_)⟩
   .rw[aJ (by simp[k,f])]at c
    refine⟨aC,aC,dL (i:=j) (by omega) (by omega) (dL (i:=j+1) rfl e (tE (i:=j+1) (j:=j) rfl (by omega) e (by omega) ⟨aC,?_⟩))⟩
    rw[jJ (i:=j+1) (j:=j) rfl (by omega),show((j+1:Nat):Int)-1=j by omega]
    exact Rt j _ (by rw[swp_size];omega) (by rw[swp_size];omega) g c.2
   .rw[aN (by simp[f])]at c
    exact c
  .rw[aN (by simp at h;simp;omega)]at c
   exact c
def Mg{a b:Nat}:∀(n i:Nat)(d:Array Int),b-i<=n->0<i->b<=d.size->d.size<=2^40->i<=2^40+1 ->
  tC a b i (rA d) [] [.bk 1 (rA (Sort.insOuter ltInt a b i d))]
 |n,i,d,e,j,g,f,k=>by
  unfold Sort.insOuter;by_cases h:i<b
  .rw[aJ h]
   refine Q8 _ _ _ _ (ad (fun _=>Rt i d (by omega) f (by omega) ?_) fun c=>by simp at c;omega)
   match n,e with
   |0,e=>omega
   |n+1,e=>exact Mg n (i+1) _ (by omega) (by omega) (by rw[ow];exact g) (by rw[ow];exact f) (by omega)
  .rw[aN h]
   exact Q8 _ _ _ _ (ad (fun c=>by simp at c;omega) fun _=>fi)
def ae8{a b:Nat}(c:b<=d.size)(e:d.size<=2^40)(f:a<=b):al 296 [.bA 0,vN a,vN b] [.bk 1 (rA d)] [] [.bk 1 (rA (Sort.insertionSort ltInt d a b))]:=
 aeJ _ _ _ ⟨aC,Mg _ (a+1) d (ar _) (by omega) c e (by omega)⟩
def Ru{b:Nat}:∀(n i j:Nat)(d:Array Int),j-i<=n->j<d.size->i<=d.size->d.size<=2^40 ->
  E0 i j (rA d) [] [.bk 1 (rA (Sort.reverseLoop i j d))]
 |n,i,j,d,c,e,g,f=>by
  unfold Sort.reverseLoop;by_cases h:i<j
  .rw[aJ h]
   refine Rd _ _ _ (ad (fun _=>dL (i:=j) rfl e (dL (i:=i) rfl (by omega) (tE (i:=i) (j:=j) rfl rfl (by omega) e ⟨aC,aC,?_⟩))) fun a=>by simp at a;omega)
   rw[jJ (i:=i) (j:=j) rfl rfl,show(j:Int)-1=((j-1:Nat):Int) by omega]
   match n,c with
   |0,c=>omega
   |n+1,c=>exact Ru (b:=b) n (i+1) (j-1) _ (by omega) (by rw[swp_size];omega) (by rw[swp_size];omega) (by rw[swp_size];exact f)
  .rw[aN h]
   exact Rd _ _ _ (ad (fun a=>by simp at a;omega) fun _=>fi)
def ae9{a b:Nat}(f:b<=d.size)(c:d.size<=2^40)(e:a<b):al 300 [.bA 0,vN a,vN b] [.bk 1 (rA d)] [] [.bk 1 (rA (Sort.reverseRange d a b))]:=
 aeN _ _ _ ⟨aC,by
  rw[show(b:Int)-1=((b-1:Nat):Int) by omega]
  exact Ru (b:=b) _ _ _ d (ar _) (by omega) (by omega) c⟩
def ox(a first:Nat):∀(n c:Nat)(d:Array Int),a-c<=n->(Sort.siftDown ltInt a first c d).size=d.size
 |n,c,d,b=>by
  unfold Sort.siftDown;split
  .rfl
  .match n,b with
   |0,b=>omega
   |n+1,b=>
    split
    .split
     .rfl
     .split
      .rw[ox a first n _ _ (by omega),swp_size]
      .rfl
    .split
     .rfl
     .rw[ox a first n _ _ (by omega),swp_size]
def Mh:∀(n a:Nat)(d:Array Int),b-a<=n->first+b<=d.size->a<=d.size->d.size<=2^40 ->
  E6 b first a (rA d) [] [.bk 1 (rA (Sort.siftDown ltInt b first a d))]
 |n,a,d,g,t,w,s=>by
  have key:∀(c:Nat),c<b->a<c->first+a<d.size ->
    zK b first a c (rA d) [] [.bk 1 (rA (if !ltInt d[first+a]! d[first+c]! then d else Sort.siftDown ltInt b first c (swp d (first+a) (first+c))))]:=by
   intro c v x l;refine Y3 _ _ _ _ _ ⟨aC,dL (i:=first+a) (by omega) l ⟨aC,dL (i:=first+c) (by omega) (by omega) (E7 (fun e=>?_) fun e=>?_)⟩⟩
   .rw[e];exact fi
   .rw[e]
    refine⟨aC,aC,aC,dL (i:=first+c) (by omega) (by omega) ⟨aC,dL (i:=first+a) (by omega) l (tE (i:=first+a) (j:=first+c) (by omega) (by omega) l (by omega) ?_)⟩⟩
    rw[jJ (i:=first+a) (j:=first+c) (by omega) (by omega)]
    match n,g with
    |0,g=>omega
    |n+1,g=>exact Mh n c _ (by omega) (by rw[swp_size];exact t) (by rw[swp_size];omega) (by rw[swp_size];exact s)
  unfold Sort.siftDown;refine Y2 _ _ _ _ ⟨aC,aC,ad (fun h=>?_) fun h=>⟨aC,?_⟩⟩
  .rw[dif_pos (by simp at h;omega)];exact fi
  .have q:¬2*a+1>=b:=by simp at h;omega
   rw[dif_neg q];have k:=key (2*a+1) (by omega) (by omega) (by omega)
   have o:((2*a+1:Nat):Int)=(2:Int)*a+1:=by omega
   rw[o]at k;refine ad (fun f=>?_) fun f=>?_
   .have u:2*a+2<b:=by simp at f;omega
    have m:=key (2*a+2) (by omega) (by omega) (by omega)
    have p:((2*a+2:Nat):Int)=(2:Int)*a+1+1:=by omega
    rw[p]at m;refine⟨aC,dL (i:=first+(2*a+1)) (by omega) (by omega) ⟨aC,aC,dL (i:=first+(2*a+1)+1) (by omega) (by omega) (KU (fun e=>⟨aC,?_⟩) fun e=>?_)⟩⟩
    .rw[aJ (by simp[e];omega),dif_pos u]
     exact m
    .rw[aN (by simp[e])]
     exact k
   .rw[aN (by simp at f;simp;omega)]
    exact k
def aa3{lo a first:Nat}(e:first+a<=d.size)(c:lo<=d.size)(b:d.size<=2^40):al 344 [.bA 0,vN lo,vN a,vN first] [.bk 1 (rA d)] [] [.bk 1 (rA (Sort.siftDown ltInt a first lo d))]:=
 aeT _ _ _ _ (Mh _ _ _ (ar _) e c b)
def vf(a first b:Nat)(d:Array Int):(Sort.siftDown ltInt a first b d).size=d.size:=ox a first _ b d (ar _)
def HJ:∀(k:Nat)(d:Array Int),a+k<=d.size->d.size<=2^40 ->
  EZ a 0 ((k:Int)-1) (rA d) [] [.bk 1 (rA (Sort.heapPop ltInt a k d))]
 |0,d,_,_=>Rb _ _ _ _ (ad (fun h=>by simp at h) fun _=>fi)
 |k+1,d,c,b=>by
  have e:((k+1:Nat):Int)-1=k:=by omega
  rw[e];refine Rb _ _ _ _ (ad (fun _=>⟨aC,aC,dL (i:=a+k) (by omega) (by omega) (dL (i:=a) rfl (by omega) (tE (i:=a) (j:=a+k) rfl (by omega) (by omega) (by omega) ⟨rA (Sort.siftDown ltInt k a 0 (swp d a (a+k))),?_,aC,?_⟩))⟩) fun h=>absurd h (by simp))
  .rw[jJ (i:=a) (j:=a+k) rfl (by omega)]
   exact aa3 (lo:=0) (by rw[swp_size];omega) (by omega) (by rw[swp_size];exact b)
  .exact HJ k _ (by rw[vf,swp_size];omega) (by rw[vf,swp_size];exact b)
def zL:∀(k:Nat)(d:Array Int),a+n<=d.size->d.size<=2^40->k<=d.size ->
  EY a 0 n ((k:Int)-1) (rA d) [] [.bk 1 (rA (Sort.heapPop ltInt a n (Sort.heapBuild ltInt n a k d)))]
 |0,d,c,b,_=>Ra _ _ _ _ _ (ad (fun h=>by simp at h) fun _=>⟨aC,HJ n d c b⟩)
 |k+1,d,c,b,f=>by
  have e:((k+1:Nat):Int)-1=k:=by omega
  rw[e];exact Ra _ _ _ _ _ (ad (fun _=>⟨_,aa3 (lo:=k) c (by omega) b,aC,zL k _ (by rw[vf];exact c) (by rw[vf];exact b) (by rw[vf];omega)⟩) fun h=>absurd h (by simp))
def afa{a b:Nat}(g:b<=d.size)(c:d.size<=2^40)(f:a<b):al 297 [.bA 0,vN a,vN b] [.bk 1 (rA d)] [] [.bk 1 (rA (Sort.heapSort ltInt d a b))]:=by
 refine aeK _ _ _ ⟨aC,aC,by decide,?_⟩
 have e:wrap .i64 (tdiv ((b:Int)-a-1) 2)=(((b-a-1)/2+1:Nat):Int)-1:=by
  rw[yu (by omega),qX aC]
  omega
 rw[e,show(b:Int)-a=((b-a:Nat):Int) by omega]
 exact zL _ d (by omega) c (by omega)
end
section
open Go.Sort (ltInt swp swp_size PermIn SortedIn scanUp scanDown scanUp_ge scanDown_le)
def sJ{a i:Nat}{d:Array Int}{Go At:Nat->Prop}(g:1<=i)(f:d.size<=2^40)(step:∀j:Nat,j<d.size->aw (decide ((i:Int)<=j)) ((q d[j]! = true->au ((j:Int)-1)/\(1<=j->Go (j-1)))/\(q d[j]! = false->At j)) (At j)->Go j):∀(j:Nat),j<d.size->At (scanDown q d i j)->Go j
 |0,c,H=>step 0 c (ad (fun b=>by simp at b;omega) fun _=>H)
 |j+1,c,H=>by
  unfold scanDown at H;refine step _ c (ad (fun b=>⟨fun e=>⟨aC,fun _=>?_⟩,fun e=>?_⟩) fun b=>?_)
  .have b:i<=j+1:=by simp at b;omega
   rw[aJ (by simp[b,e])]at H
   exact sJ (a:=a) g f step j (by omega) H
  .rw[aN (by simp[e])]at H
   exact H
  .rw[aN (by simp at b;simp;omega)]at H
   exact H
def yC{d:Array Int}{Go At:Nat->Prop}(f:j<d.size)(e:d.size<=2^40)(step:∀i:Nat,aw (decide ((i:Int)<=j)) ((p d[i]! = true->au ((i:Int)+1)/\Go (i+1))/\(p d[i]! = false->At i)) (At i)->Go i):∀(n i:Nat),j+1-i<=n->At (scanUp p d j i)->Go i
 |n,i,b,H=>by
  unfold scanUp at H;refine step i (ad (fun a=>?_) fun a=>?_)
  .have a:i<=j:=by simp at a;omega
   refine⟨fun c=>⟨aC,?_⟩,fun c=>?_⟩
   .rw[aJ (by simp[a,c])]at H
    match n,b with
    |0,b=>omega
    |n+1,b=>exact yC f e step n (i+1) (by omega) H
   .rw[aN (by simp[c])]at H
    exact H
  .rw[aN (by simp at a;simp;omega)]at H
   exact H
def sK(h:aw b x y)(d:b=true->x->a)(e:b=false->y->c):aw b a c:=by cases b;exact e rfl h;exact d rfl h
def Rv{a i j:Nat}(g:a<d.size)(t:1<=i)(c:j<d.size)(k:d.size<=2^40)(H:∀f l,f=scanUp (fun x => !ltInt d[a]! x) d j i->l=scanDown (fun x=>ltInt d[a]! x) d f j->zH a f l (rA d) r h):
  tD a i j (rA d) r h:=by
 have s:=scanUp_ge (fun x => !ltInt d[a]! x) d j i
 refine yC (p:=fun x => !ltInt d[a]! x) (Go:=fun i=>tD a i j (rA d) r h) (At:=fun i=>wH a i j (rA d) r h) c k
  (fun i H=>YS _ _ _ _ (sK H (fun e H=>dL (i:=a) rfl g (dL (i:=i) rfl (by simp at e;omega) (E7 (fun b=>H.1 (by simp[b])) fun b=>H.2 (by simp[b])))) fun _ H=>H)) _ i (ar _) ?_
 refine sJ (a:=a) (q:=fun x=>ltInt d[a]! x) (Go:=fun j=>wH a (scanUp (fun x => !ltInt d[a]! x) d _ i:Nat) j (rA d) r h) (At:=fun j=>zH a _ j (rA d) r h) (by omega) k
  (fun j c H=>YT _ _ _ _ (sK H (fun e H=>dL (i:=a) rfl g (dL (i:=j) rfl c (KU (fun b=>?_) fun b=>H.2 (by simp[b])))) fun _ H=>H)) j c (H _ _ rfl rfl)
 obtain⟨m,n⟩:=H.1 b;refine⟨m,?_⟩;have o:1<=j:=by simp at e;omega
 rw[show(j:Int)-1=((j-1:Nat):Int) by omega]
 exact n o
def Mi:∀(n i j:Nat)(d:Array Int),j+1-i<=n->a<i->a<d.size->j<d.size->d.size<=2^40 ->
  tD a i j (rA d) [vN (Sort.partEqLoop ltInt a i j d).1] [.bk 1 (rA (Sort.partEqLoop ltInt a i j d).2)]
 |n,i,j,d,e,q,o,p,k=>by
  refine Rv o (by omega) p k fun c b f g=>?_
  have l:=scanUp_ge (fun x => !ltInt d[a]! x) d j i
  have m:=scanDown_le (fun x=>ltInt d[a]! x) d c j
  rw[Sort.partEqLoop_eq,<-f,<-g];rw[<-f]at l;rw[<-g]at m;refine YU _ _ _ _ (ad (fun h=>?_) fun h=>?_)
  .rw[aJ (by simp at h;omega)]
   exact fi
  .have h:c<=b:=by simp at h;omega
   rw[aN (by omega)]
   refine dL (i:=b) rfl (by omega) (dL (i:=c) rfl (by omega) (tE (i:=c) (j:=b) rfl rfl (by omega) (by omega) ⟨aC,aC,?_⟩))
   rw[jJ (i:=c) (j:=b) rfl rfl,show(b:Int)-1=((b-1:Nat):Int) by omega]
   match n,e with
   |0,e=>omega
   |n+1,e=>exact Mi n (c+1) (b-1) _ (by omega) (by omega) (by rw[swp_size];omega) (by rw[swp_size];omega) (by rw[swp_size];exact k)
def afb{a b p:Nat}(f:b<=d.size)(c:d.size<=2^40)(e:a<=p)(g:p<b):
  al 303 [.bA 0,vN a,vN b,vN p] [.bk 1 (rA d)] [vN (Sort.partitionEqual ltInt d a b p).1] [.bk 1 (rA (Sort.partitionEqual ltInt d a b p).2)]:=by
 refine aeP _ _ _ _ (dL (i:=p) rfl (by omega) (dL (i:=a) rfl (by omega) (tE (i:=a) (j:=p) rfl rfl (by omega) (by omega) ⟨aC,aC,?_⟩)))
 rw[jJ (i:=a) (j:=p) rfl rfl,show(b:Int)-1=((b-1:Nat):Int) by omega]
 exact Mi _ (a+1) (b-1) _ (ar _) (by omega) (by rw[swp_size];omega) (by rw[swp_size];omega) (by rw[swp_size];exact c)
def OD{a i j:Nat}(g:a<d.size)(t:1<=i)(c:j<d.size)(k:d.size<=2^40)(H:∀f l,f=scanUp (fun x=>ltInt x d[a]!) d j i->l=scanDown (fun x => !ltInt x d[a]!) d f j->zJ a f l (rA d) r h):
  zI a i j (rA d) r h:=by
 have s:=scanUp_ge (fun x=>ltInt x d[a]!) d j i
 refine yC (p:=fun x=>ltInt x d[a]!) (Go:=fun i=>zI a i j (rA d) r h) (At:=fun i=>wI a i j (rA d) r h) c k
  (fun i H=>YV _ _ _ _ (sK H (fun e H=>dL (i:=i) rfl (by simp at e;omega) (dL (i:=a) rfl g (KU (fun b=>H.1 (by simp[b])) fun b=>H.2 (by simp[b])))) fun _ H=>H)) _ i (ar _) ?_
 refine sJ (a:=a) (q:=fun x => !ltInt x d[a]!) (Go:=fun j=>wI a (scanUp (fun x=>ltInt x d[a]!) d _ i:Nat) j (rA d) r h) (At:=fun j=>zJ a _ j (rA d) r h) (by omega) k
  (fun j c H=>YW _ _ _ _ (sK H (fun e H=>dL (i:=j) rfl c (dL (i:=a) rfl g (E7 (fun b=>?_) fun b=>H.2 (by simp[b])))) fun _ H=>H)) j c (H _ _ rfl rfl)
 obtain⟨m,n⟩:=H.1 (by simp[b])
 refine⟨m,?_⟩;have o:1<=j:=by simp at e;omega
 rw[show(j:Int)-1=((j-1:Nat):Int) by omega]
 exact n o
def OE{a i j:Nat}(g:a<d.size)(t:1<=i)(c:j<d.size)(k:d.size<=2^40)(H:∀f l,f=scanUp (fun x=>ltInt x d[a]!) d j i->l=scanDown (fun x => !ltInt x d[a]!) d f j->ve a f l (rA d) r h):
  pS a i j (rA d) r h:=by
 have s:=scanUp_ge (fun x=>ltInt x d[a]!) d j i
 refine yC (p:=fun x=>ltInt x d[a]!) (Go:=fun i=>pS a i j (rA d) r h) (At:=fun i=>wJ a i j (rA d) r h) c k
  (fun i H=>Vj _ _ _ _ (sK H (fun e H=>dL (i:=i) rfl (by simp at e;omega) (dL (i:=a) rfl g (KU (fun b=>H.1 (by simp[b])) fun b=>H.2 (by simp[b])))) fun _ H=>H)) _ i (ar _) ?_
 refine sJ (a:=a) (q:=fun x => !ltInt x d[a]!) (Go:=fun j=>wJ a (scanUp (fun x=>ltInt x d[a]!) d _ i:Nat) j (rA d) r h) (At:=fun j=>ve a _ j (rA d) r h) (by omega) k
  (fun j c H=>YY _ _ _ _ (sK H (fun e H=>dL (i:=j) rfl c (dL (i:=a) rfl g (E7 (fun b=>?_) fun b=>H.2 (by simp[b])))) fun _ H=>H)) j c (H _ _ rfl rfl)
 obtain⟨m,n⟩:=H.1 (by simp[b])
 refine⟨m,?_⟩;have o:1<=j:=by simp at e;omega
 rw[show(j:Int)-1=((j-1:Nat):Int) by omega]
 exact n o
def Mj:∀(n i j:Nat)(d:Array Int),j+1-i<=n->a<i->a<d.size->j<d.size->d.size<=2^40 ->
  pS a i j (rA d) [vN (Sort.partLoop ltInt a i j d).1,vB false] [.bk 1 (rA (swp (Sort.partLoop ltInt a i j d).2 (Sort.partLoop ltInt a i j d).1 a))]
 |n,i,j,d,f,q,e,p,l=>by
  refine OE e (by omega) p l fun c b g k=>?_
  have m:=scanUp_ge (fun x=>ltInt x d[a]!) d j i
  have o:=scanDown_le (fun x => !ltInt x d[a]!) d c j
  rw[Sort.partLoop_eq,<-g,<-k];rw[<-g]at m;rw[<-k]at o;refine Vk _ _ _ _ (ad (fun h=>?_) fun h=>?_)
  .rw[aJ (by simp at h;omega)]
   refine dL (i:=a) rfl e (dL (i:=b) rfl (by omega) (tE (i:=b) (j:=a) rfl rfl (by omega) e (ai rfl ?_)))
   rw[jJ (i:=b) (j:=a) rfl rfl]
  .have h:c<=b:=by simp at h;omega
   rw[aN (by omega)]
   refine dL (i:=b) rfl (by omega) (dL (i:=c) rfl (by omega) (tE (i:=c) (j:=b) rfl rfl (by omega) (by omega) ⟨aC,aC,?_⟩))
   rw[jJ (i:=c) (j:=b) rfl rfl,show(b:Int)-1=((b-1:Nat):Int) by omega]
   match n,f with
   |0,f=>omega
   |n+1,f=>exact Mj n (c+1) (b-1) _ (by omega) (by omega) (by rw[swp_size];omega) (by rw[swp_size];omega) (by rw[swp_size];exact l)
def afc{a b p:Nat}(o:b<=d.size)(q:d.size<=2^40)(n:a<=p)(s:p<b):
  al 304 [.bA 0,vN a,vN b,vN p] [.bk 1 (rA d)] [vN (Sort.partition ltInt d a b p).1,vB (Sort.partition ltInt d a b p).2.1] [.bk 1 (rA (Sort.partition ltInt d a b p).2.2)]:=by
 refine aeQ _ _ _ _ (dL (i:=p) rfl (by omega) (dL (i:=a) rfl (by omega) (tE (i:=a) (j:=p) rfl rfl (by omega) (by omega) ⟨aC,aC,?_⟩)))
 rw[jJ (i:=a) (j:=p) rfl rfl,show(b:Int)-1=((b-1:Nat):Int) by omega]
 unfold Sort.partition;generalize m:swp d a p=D;have t:D.size=d.size:=by rw[<-m,swp_size]
 refine OD (i:=a+1) (j:=b-1) (by omega) (by omega) (by omega) (by omega) fun e c f g=>?_
 simp only[<-f,<-g];have k:=scanUp_ge (fun x=>ltInt x D[a]!) D (b-1) (a+1)
 have l:=scanDown_le (fun x => !ltInt x D[a]!) D e (b-1)
 rw[<-f]at k;rw[<-g]at l;refine YX _ _ _ _ (ad (fun h=>?_) fun h=>?_)
 .simp only[aJ (show e>c by simp at h;omega)]
  refine dL (i:=a) rfl (by omega) (dL (i:=c) rfl (by omega) (tE (i:=c) (j:=a) rfl rfl (by omega) (by omega) (ai rfl ?_)))
  rw[jJ (i:=c) (j:=a) rfl rfl]
 .have h:e<=c:=by simp at h;omega
  simp only[aN (show¬e>c by omega)]
  refine dL (i:=c) rfl (by omega) (dL (i:=e) rfl (by omega) (tE (i:=e) (j:=c) rfl rfl (by omega) (by omega) ⟨aC,aC,?_⟩))
  rw[jJ (i:=e) (j:=c) rfl rfl,show(c:Int)-1=((c-1:Nat):Int) by omega]
  exact Mj _ (e+1) (c-1) _ (ar _) (by omega) (by rw[swp_size];omega) (by rw[swp_size];omega) (by rw[swp_size];omega)
def rI:∀j(d:Array Int),(Sort.shiftDown ltInt j d).size=d.size
 |0,_=>rfl
 |j+1,d=>by
  unfold Sort.shiftDown;split
  .rfl
  .rw[rI,swp_size]
def vg(b:Nat):∀n j(d:Array Int),b-j<=n->(Sort.shiftUp ltInt b j d).size=d.size
 |n,j,d,a=>by
  unfold Sort.shiftUp;split
  .match n,a with
   |0,a=>omega
   |n+1,a=>
    split
    .rfl
    .rw[vg b n _ _ (by omega),swp_size]
  .rfl
def tj(b:Nat)(d:Array Int):∀n i,b-i<=n->i<=b->i<=Sort.scanSorted ltInt d b i/\Sort.scanSorted ltInt d b i<=b
 |n,i,a,c=>by
  unfold Sort.scanSorted;split
  .rename_i h
   simp at h;match n,a with
   |0,a=>omega
   |n+1,a=>have:=tj b d n (i+1) (by omega) (by omega);omega
  .omega
def WS{a b i:Nat}{j:Int}{r:List AV}{h:List Bx}(e:au (j+1)):∀(n k:Nat)(d:Array Int),b-k<=n->1<=k->b<=d.size->d.size<=2^40 ->
  na a b i (j+1) (rA (Sort.shiftUp ltInt b k d)) r h->rH a b i j k (rA d) r h
 |n,k,d,g,o,l,m,H=>by
  unfold Sort.shiftUp at H;refine YR _ _ _ _ _ _ (ad (fun c=>?_) fun c=>?_)
  .have c:k<b:=by simp at c;omega
   rw[aJ c]at H;refine dL (i:=k) rfl (by omega) ⟨aC,dL (i:=k-1) (by omega) (by omega) (E7 (fun f=>⟨e,?_⟩) fun f=>?_)⟩
   .rw[aJ (by simp[f])]at H
    exact H
   .rw[aN (by simp[f])]at H
    refine⟨aC,aC,dL (i:=k-1) (by omega) (by omega) (dL (i:=k) rfl (by omega) (tE (i:=k) (j:=k-1) rfl (by omega) (by omega) (by omega) ⟨aC,?_⟩))⟩
    rw[jJ (i:=k) (j:=k-1) rfl (by omega)]
    match n,g with
    |0,g=>omega
    |n+1,g=>exact WS e n (k+1) _ (by omega) (by omega) (by rw[swp_size];exact l) (by rw[swp_size];exact m) H
  .rw[aN (by simp at c;omega)]at H
   exact⟨e,H⟩
def Ml{a b i:Nat}{j:Int}{r:List AV}{h:List Bx}:∀(k:Nat)(d:Array Int),k<d.size->d.size<=2^40 ->
  (au ((b:Int)-i)/\aw (decide (((b:Int)-i)>=2)) (au ((i:Int)+1)/\rH a b i j ((i:Int)+1) (rA (Sort.shiftDown ltInt k d)) r h)
   (au (j+1)/\na a b i (j+1) (rA (Sort.shiftDown ltInt k d)) r h))->E3 a b i j k (rA d) r h
 |0,d,e,g,H=>Rf _ _ _ _ _ _ (ad (fun c=>by simp at c) fun _=>H)
 |k+1,d,e,g,H=>by
  unfold Sort.shiftDown at H;refine Rf _ _ _ _ _ _ (ad (fun c=>?_) fun c=>by simp at c;omega)
  refine dL (i:=k+1) rfl e ⟨aC,dL (i:=k) (by omega) (by omega) (E7 (fun f=>?_) fun f=>?_)⟩
  .rw[aJ (by simp[f])]at H
   exact H
  .rw[aN (by simp[f])]at H
   refine⟨aC,aC,dL (i:=k) (by omega) (by omega) (dL (i:=k+1) rfl e (tE (i:=k+1) (j:=k) rfl (by omega) e (by omega) ⟨aC,?_⟩))⟩
   rw[jJ (i:=k+1) (j:=k) rfl (by omega),show((k+1:Nat):Int)-1=k by omega]
   exact Ml k _ (by rw[swp_size];omega) (by rw[swp_size];exact g) H
def Mm{a b:Nat}{j:Int}{d:Array Int}{r:List AV}{h:List Bx}(g:b<=d.size)(k:d.size<=2^40):∀(n i:Nat),b-i<=n->1<=i ->
  E2 a b (Sort.scanSorted ltInt d b i:Nat) j (rA d) r h->E1 a b i j (rA d) r h
 |n,i,f,l,H=>by
  unfold Sort.scanSorted at H;refine YP _ _ _ _ _ (ad (fun c=>?_) fun c=>?_)
  .have c:i<b:=by simp at c;omega
   refine dL (i:=i) rfl (by omega) ⟨aC,dL (i:=i-1) (by omega) (by omega) (E7 (fun e=>?_) fun e=>?_)⟩
   .rw[aJ (by simp[c,e])]at H
    match n,f with
    |0,f=>omega
    |n+1,f=>exact⟨aC,Mm g k n (i+1) (by omega) (by omega) H⟩
   .rw[aN (by simp[e])]at H
    exact H
  .rw[aN (by simp at c;simp;omega)]at H
   exact H
def E8:∀(s i:Nat)(d:Array Int),a<i->i<=b->b<=d.size->d.size<=2^40->s<=5 ->
  na a b i (5-(s:Int)) (rA d) [vB (Sort.partialIns ltInt a b s i d).2] [.bk 1 (rA (Sort.partialIns ltInt a b s i d).1)]
 |0,i,d,p,n,l,m,q=>Re _ _ _ _ _ (ad (fun h=>by simp at h) fun _=>fi)
 |s+1,i,d,p,n,l,m,q=>by
  refine Re _ _ _ _ _ (ad (fun _=>Mm l m _ i (ar _) (by omega) ?_) fun h=>by simp at h;omega)
  rw[Sort.partialIns_succ];obtain⟨u,v⟩:=tj b d _ i (ar _) n;generalize Sort.scanSorted ltInt d b i=k at*;have g:(5-((s+1:Nat):Int))+1=5-(s:Int):=by omega
  refine YQ _ _ _ _ _ (ad (fun h=>?_) fun h=>⟨aC,ad (fun f=>?_) fun f=>?_⟩)
  .rw[aJ (by simp at h;omega)]
   exact fi
  .rw[aN (by simp at h;omega),aJ (by simp at f;omega)]
   exact fi
  .rw[aN (by simp at h;omega),aN (by simp at f;omega)]
   have w:k<b:=by simp at h;omega
   refine⟨aC,aC,dL (i:=k-1) (by omega) (by omega) (dL (i:=k) rfl (by omega) (tE (i:=k) (j:=k-1) rfl (by omega) (by omega) (by omega) ?_))⟩
   rw[jJ (i:=k) (j:=k-1) rfl (by omega)]
   have o:(swp d k (k-1)).size=d.size:=swp_size ..;generalize swp d k (k-1)=d1 at*;have tail:∀c:Array Int,c.size=d.size->au ((b:Int)-k)/\aw (decide (((b:Int)-k)>=2)) (au ((k:Int)+1)/\rH a b k (5-((s+1:Nat):Int)) ((k:Int)+1) (rA c) [vB (Sort.partialIns ltInt a b s k (Sort.fixUp ltInt b k c)).2] [.bk 1 (rA (Sort.partialIns ltInt a b s k (Sort.fixUp ltInt b k c)).1)])
     (au ((5-((s+1:Nat):Int))+1)/\na a b k ((5-((s+1:Nat):Int))+1) (rA c) [vB (Sort.partialIns ltInt a b s k (Sort.fixUp ltInt b k c)).2] [.bk 1 (rA (Sort.partialIns ltInt a b s k (Sort.fixUp ltInt b k c)).1)]):=by
    intro c t;unfold Sort.fixUp;refine⟨aC,ad (fun e=>⟨aC,?_⟩) fun e=>⟨aC,?_⟩⟩
    .rw[aJ (by simp at e;omega)]
     refine WS aC _ (k+1) c (ar _) (by omega) (by omega) (by omega) ?_
     rw[g];have x:=vg b _ (k+1) c (ar _);exact E8 s k _ (by omega) (by omega) (by omega) (by omega) (by omega)
    .rw[aN (by simp at e;omega),g]
     exact E8 s k _ (by omega) (by omega) (by omega) (by omega) (by omega)
   unfold Sort.fixDown;refine⟨aC,ad (fun e=>⟨aC,?_⟩) fun e=>?_⟩
   .rw[aJ (by simp at e;omega),show(k:Int)-1=((k-1:Nat):Int) by omega]
    refine Ml (k-1) d1 (by omega) (by omega) (tail _ (by rw[rI];exact o))
   .rw[aN (by simp at e;omega)]
    exact tail d1 o
def afd{a b:Nat}(c:b<=d.size)(e:d.size<=2^40)(f:a<b):
  al 301 [.bA 0,vN a,vN b] [.bk 1 (rA d)] [vB (Sort.partialInsertionSort ltInt d a b).2] [.bk 1 (rA (Sort.partialInsertionSort ltInt d a b).1)]:=
 aeO _ _ _ ⟨aC,E8 5 (a+1) d (by omega) (by omega) c e (by omega)⟩
end
end Go.Ac.S4
end
section
namespace Go.Proofs
def Tryz.Rx:Go.Shelf.Ren:=⟨fun|125=>233|128=>305|129=>306|n=>n,fun|46=>61|3=>3|51=>29|53=>30|4=>4|5=>5|9=>9|n=>n,fun|n=>n⟩
def Tryz.afe:Go.Proofs.Lays.n125 prog Tryz.Rx:={
 mixed:=by kernel_rfl
 f125:=Tryz.func233.trans (congrArg some (by kernel_rfl))
 f128:=Tryz.func305.trans (congrArg some (by kernel_rfl))
 f129:=Tryz.func306.trans (congrArg some (by kernel_rfl))
 t3:=underlying3
 a3:=isAgg3
 z3:=sizeOf3
 v3:=zeroValue3
 t4:=underlying4
 a4:=isAgg4
 z4:=sizeOf4
 v4:=zeroValue4
 t5:=underlying5
 a5:=isAgg5
 z5:=sizeOf5
 v5:=zeroValue5
 t9:=underlying9
 a9:=isAgg9
 z9:=sizeOf9
 v9:=zeroValue9
 t46:=underlying61
 a46:=isAgg61
 z46:=sizeOf61
 v46:=zeroValue61
 t51:=underlying29
 a51:=isAgg29
 z51:=sizeOf29
 v51:=zeroValue29
 t53:=underlying30
 a53:=isAgg30
 z53:=sizeOf30
 v53:=zeroValue30}
end Go.Proofs
namespace Go.Ac.S4
open Go Go.Proofs Go.Proofs.Tryz Go.Ac
open Go.IntKind (wrap)
open Int (toNat tdiv tmod fdiv)
open List (drop take replicate)
open Go.Sort (ltInt swp swp_size PermIn SortedIn swp_permIn permIn_refl permIn_trans bitsLen)
set_option maxRecDepth 100000
def Vm(x:Nat)(h:x<2^64):Lib.bitLen x=bitsLen x:=by
 induction x using Nat.strongRecOn with
 |_ x c=>
  by_cases a:x=0
  .subst a;rfl
  .rw[Lib.bitLen_half x a h,c (x/2) (by omega) (by omega),bitsLen,bitsLen,aN a,Nat.log2_def x]
   by_cases b:2<=x
   .rw[aJ b,aN (by omega)];omega
   .obtain rfl:x=1:=by omega
    simp
def aa4(n:Nat)(h:n<2^41):al 233 [vU n] [] [vN (bitsLen n:Nat)] []:=
 ev1 (enters_of func233 rfl rfl) (r:=[N (bitsLen n:Nat)]) fun v w b _ a=>by
  have k:Calls prog 233 #[.int .u64 n] w fun e w'=>e = .returned (.int .i64 (Lib.bitLen (n:Int).toNat))/\w'=w:=calls_of_every_depth fun D=>AnyS.bits_LenIn Tryz.afe D n w (by omega) (by omega)
  rw[wD a];rw[uw,Vm n (by omega)]at k
  exact⟨[.int .i64 (bitsLen n:Nat)],rfl,sF (.int _ _),k⟩
def aff(n:Nat)(h:n<2^41):al 345 [vN n] [] [vU ((2^bitsLen n:Nat):Int)] []:=by
 have a:=(Sort.bitsLen_le_iff n 41).2 h;have b:2^bitsLen n<=2^41:=DY (by omega) a
 have e:wrap .u64 (n:Int)=n:=by simp[wrap,IntKind.signed,IntKind.bits];omega
 refine aeV n ⟨(bitsLen n:Nat),by rw[e];exact aa4 n h,by omega,ai ?_ rfl⟩
 rw[uw,show min (bitsLen n) (IntKind.bits .u64)=bitsLen n by simp[IntKind.bits];omega,show(1:Int)*2^bitsLen n=((2^bitsLen n:Nat):Int) by simp]
 generalize 2^bitsLen n=m at*;have:wrap .u64 (m:Int)=m:=by simp[wrap,IntKind.signed,IntKind.bits];omega
 rw[this]
def afg(c:Int):∃n,al 346 [.aB 0 0] [.aH [vU c]] [vU n] [.aH [vU n]]:=⟨_,aeX c ⟨by decide,by decide,by decide,fi⟩⟩
def Y6(y:Int)(c:1<=M)(d:M<=2^42):∃o:Nat,o<M/\wrap .i64 (cH .and .u64 y (wrap .u64 ((M:Int)-1)))=o:=by
 have e:wrap .u64 ((M:Int)-1)=((M-1:Nat):Int):=by simp[wrap,IntKind.signed,IntKind.bits];omega
 have a:cH .and .u64 y ((M-1:Nat):Int)=wrap .u64 ((BitVec.ofInt 64 y &&& BitVec.ofInt 64 ((M-1:Nat):Int)).toNat:Int):=rfl;have b:(BitVec.ofInt 64 y &&& BitVec.ofInt 64 ((M-1:Nat):Int)).toNat<=M-1:=by
  rw[BitVec.toNat_and];refine dR Nat.and_le_right ?_;rw[BitVec.toNat_ofInt];omega
 rw[e,a];generalize(BitVec.ofInt 64 y &&& BitVec.ofInt 64 ((M-1:Nat):Int)).toNat=o at*;exact⟨o,by omega,by simp[wrap,IntKind.signed,IntKind.bits];omega⟩
def quarter{n:Nat}(h:n<2^62):wrap .i64 (tdiv (n:Int) 4)=((n/4:Nat):Int):=by
 rw[yu (by omega),qX aC]
 omega
def Mn{a n b M:Nat}(u:a+n=b)(t:8<=n)(m:1<=M)(r:M<=2*n):∀(k idx:Nat)(d:Array Int)(c:Int),a+n/4*2+2<=idx+k->a<=idx->b<=d.size->d.size<=2^40 ->
  ∃d',PermIn a b d d'/\zG a n M idx (rA d) c [] [.bk 1 (rA d')]
 |k,idx,d,c,l,w,p,v=>by
  have q:=quarter (n:=n) (by omega)
  by_cases h:idx<=a+n/4*2+1
  .obtain⟨y,z⟩:=afg c
   obtain⟨o,D,s⟩:=Y6 y m (by omega)
   have key:∀o':Nat,o'<n->∃d',PermIn a b d d'/\sI a n M idx o' (rA d) y [] [.bk 1 (rA d')]:=by
    intro o' E;match k,l with
    |0,l=>omega
    |k+1,l=>
     obtain⟨d',g,f⟩:=Mn u t m r k (idx+1) (swp d idx (a+o')) y (by omega) (by omega) (by rw[swp_size];exact p) (by rw[swp_size];exact v)
     refine⟨d',permIn_trans _ _ _ _ _ (swp_permIn d a b idx (a+o') w (by omega) (by omega) (by omega) p) g,Vh _ _ _ _ _ _ _ ⟨aC,aC,dL (i:=a+o') (by omega) (by omega) (dL (i:=idx) rfl (by omega) (tE (i:=idx) (j:=a+o') rfl (by omega) (by omega) (by omega) ⟨aC,?_⟩))⟩⟩
     rw[jJ (i:=idx) (j:=a+o') rfl (by omega)]
     exact f
   have fin:∀d':Array Int,(aw (decide ((o:Int)>=n)) (au ((o:Int)-n)/\sI a n M idx ((o:Int)-n) (rA d) y [] [.bk 1 (rA d')])
     (sI a n M idx o (rA d) y [] [.bk 1 (rA d')]))->zG a n M idx (rA d) c [] [.bk 1 (rA d')]:=fun d' H=>
    Rc _ _ _ _ _ _ (by
     rw[q];exact⟨by decide,aC,aC,aC,ad (fun _=>⟨_,_,z,by rw[s];exact H⟩) fun e=>by simp at e;omega⟩)
   by_cases x:o<n
   .obtain⟨d',g,f⟩:=key o x
    exact⟨d',g,fin d' (ad (fun e=>by simp at e;omega) fun _=>f)⟩
   .obtain⟨d',g,f⟩:=key (o-n) (by omega)
    exact⟨d',g,fin d' (ad (fun _=>⟨aC,by rw[show(o:Int)-n=((o-n:Nat):Int) by omega];exact f⟩) fun e=>by simp at e;omega)⟩
  .exact⟨d,permIn_refl _ _ _,Rc _ _ _ _ _ _ (by
    rw[q];exact⟨by decide,aC,aC,aC,ad (fun e=>by simp at e;omega) fun _=>fi⟩)⟩
def afh(j:b<=d.size)(k:d.size<=2^40)(m:a+8<=b):∃d',PermIn a b d d'/\al 298 [.bA 0,vN a,vN b] [.bk 1 (rA d)] [] [.bk 1 (rA d')]:=by
 have q:=quarter (n:=b-a) (by omega)
 have e:(b:Int)-a=((b-a:Nat):Int):=by omega
 have g:=Sort.two_pow_bitsLen_le (n:=b-a) (by omega)
 have f:1<=2^bitsLen (b-a):=Nat.one_le_two_pow;obtain⟨d',l,i⟩:=Mn (a:=a) (n:=b-a) (b:=b) (by omega) (by omega) f g 4 (a+(b-a)/4*2-1) d (wrap .u64 ((b-a:Nat):Int)) (by omega) (by omega) j k
 refine⟨d',l,aeL _ _ _ ?_⟩;rw[e,q];refine⟨aC,ad (fun _=>⟨_,aff (b-a) (by omega),by decide,aC,aC,aC,?_⟩) fun c=>by simp at c;omega⟩
 rw[show(a:Int)+((b-a)/4:Nat)*2-1=((a+(b-a)/4*2-1:Nat):Int) by omega]
 exact i
def Y7(c:a<d.size)(e:b<d.size)(f:d.size<=2^40)(g:s<=100):
  ∃x y t:Nat,(x=a/\y=b\/x=b/\y=a)/\t<=s+1/\al 360 [.bA 0,vN a,vN b,.aB 1 0] [.bk 1 (rA d),.aH [vN s]] [vN x,vN y] [.bk 1 (rA d),.aH [vN t]]:=by
 cases hl:ltInt d[b]! d[a]!
 .exact⟨a,b,s,.inl ⟨rfl,rfl⟩,by omega,aa1 _ _ _ _ (dL (i:=b) rfl e (dL (i:=a) rfl c (KU (fun h=>by rw[hl]at h;simp at h) fun _=>fi)))⟩
 .exact⟨b,a,s+1,.inr ⟨rfl,rfl⟩,by omega,aa1 _ _ _ _ (dL (i:=b) rfl e (dL (i:=a) rfl c (KU (fun _=>⟨aC,fi⟩) fun h=>by rw[hl]at h;simp at h)))⟩
def Y8(f:a<d.size)(g:b<d.size)(i:c<d.size)(e:d.size<=2^40)(D:s<=50):
  ∃m t:Nat,(m=a\/m=b\/m=c)/\t<=s+3/\al 348 [.bA 0,vN a,vN b,vN c,.aB 1 0] [.bk 1 (rA d),.aH [vN s]] [vN m] [.bk 1 (rA d),.aH [vN t]]:=by
 obtain⟨p,u,n,z,w,j⟩:=Y7 f g e (s:=s) (by omega)
 obtain⟨q,G,t2,h,x,k⟩:=Y7 (a:=u) (b:=c) (d:=d) (by omega) i e (s:=n) (by omega)
 obtain⟨E,v,o,r,y,l⟩:=Y7 (a:=p) (b:=q) (d:=d) (by omega) (by omega) e (s:=t2) (by omega)
 exact⟨v,o,by omega,by omega,ae1 _ _ _ _ _ ⟨_,_,_,j,_,_,_,k,_,_,_,l,fi⟩⟩
def Y9(l:1<=a)(f:a+1<d.size)(g:d.size<=2^40)(i:s<=50):
  ∃m t:Nat,a<=m+1/\m<=a+1/\t<=s+3/\al 347 [.bA 0,vN a,.aB 1 0] [.bk 1 (rA d),.aH [vN s]] [vN m] [.bk 1 (rA d),.aH [vN t]]:=by
 obtain⟨m,t,j,e,k⟩:=Y8 (a:=a-1) (b:=a) (c:=a+1) (d:=d) (s:=s) (by omega) (by omega) f g i
 refine⟨m,t,by omega,by omega,e,aeZ _ _ _ ⟨aC,aC,_,_,?_,fi⟩⟩
 rw[show(a:Int)-1=((a-1:Nat):Int) by omega]
 exact k
def CE(s:Int):Int:=bif s==0 then 1 else bif s==12 then 2 else 0
def Mo:aw (s==0) (Fi [vN m,vN (CE s)] h [vN m,vN 1] h) (aw (s==12) (Fi [vN m,vN (CE s)] h [vN m,vN 2] h) (Fi [vN m,vN (CE s)] h [vN m,vN 0] h)):=by
 unfold CE;exact ad (fun h=>ai (by rw[h];rfl) rfl) fun h=>ad (fun a=>ai (by rw[h,a];rfl) rfl) fun a=>ai (by rw[h,a];rfl) rfl
def afi(J:b<=d.size)(i:d.size<=2^40)(I:a+8<=b):∃(p:Nat)(h:Int),a<=p/\p<b/\al 299 [.bA 0,vN a,vN b] [.bk 1 (rA d)] [vN p,vN h] [.bk 1 (rA d)]:=by
 have q:=quarter (n:=b-a) (by omega)
 have e:(b:Int)-a=((b-a:Nat):Int):=by omega
 have j:(a:Int)+((b-a)/4:Nat)*1=((a+(b-a)/4*1:Nat):Int):=by omega
 have l:(a:Int)+((b-a)/4:Nat)*2=((a+(b-a)/4*2:Nat):Int):=by omega
 have o:(a:Int)+((b-a)/4:Nat)*3=((a+(b-a)/4*3:Nat):Int):=by omega
 by_cases T:50<=b-a
 .obtain⟨x,r,E,K,f1,u⟩:=Y9 (a:=a+(b-a)/4*1) (d:=d) (s:=0) (by omega) (by omega) i (by omega)
  obtain⟨y,t2,G,M,f2,v⟩:=Y9 (a:=a+(b-a)/4*2) (d:=d) (s:=r) (by omega) (by omega) i (by omega)
  obtain⟨z,D,H,Q,f3,w⟩:=Y9 (a:=a+(b-a)/4*3) (d:=d) (s:=t2) (by omega) (by omega) i (by omega)
  obtain⟨m,t,g,f,k⟩:=Y8 (a:=x) (b:=y) (c:=z) (d:=d) (s:=D) (by omega) (by omega) (by omega) i (by omega)
  refine⟨m,CE t,by omega,by omega,aaX _ _ _ ?_⟩
  rw[e,q,j,l,o];exact⟨aC,by decide,aC,aC,by decide,aC,aC,by decide,aC,aC,
   ad (fun _=>ad (fun _=>⟨_,_,u,_,_,v,_,_,w,_,_,k,Mo⟩) fun h=>by simp at h;omega) fun h=>by simp at h;omega⟩
 .obtain⟨m,t,g,f,k⟩:=Y8 (a:=a+(b-a)/4*1) (b:=a+(b-a)/4*2) (c:=a+(b-a)/4*3) (d:=d) (s:=0) (by omega) (by omega) (by omega) i (by omega)
  refine⟨m,CE t,by omega,by omega,aaX _ _ _ ?_⟩
  rw[e,q,j,l,o];exact⟨aC,by decide,aC,aC,by decide,aC,aC,by decide,aC,aC,
   ad (fun _=>ad (fun h=>by simp at h;omega) fun _=>⟨_,_,k,Mo⟩) fun h=>by simp at h;omega⟩
end Go.Ac.S4
end
section
namespace Go.Ac.S4
open Go Go.Proofs Go.Proofs.Tryz Go.Ac
open Go.IntKind (wrap)
open Int (toNat tdiv tmod fdiv)
open List (drop take replicate)
set_option maxRecDepth 100000
section
open Go.Sort (ltInt swp swp_size PermIn SortedIn permIn_refl permIn_trans bitsLen swo_ltInt)
def Sd(a b:Nat)(d:Array Int)(K:List AV->List Bx->Prop):Prop:=∃d',PermIn a b d d'/\SortedIn ltInt a b d'/\K [] [.bk 1 (rA d')]
def Sd.mono(h:Sd a b d K)(e:∀r h,K r h->c r h):Sd a b d c:=
 let ⟨d',h1,h2,h3⟩:=h;⟨d',h1,h2,e _ _ h3⟩
def Sd.perm(e:PermIn a b d c)(h:Sd a b c K):Sd a b d K:=
 let ⟨d',h1,h2,h3⟩:=h;⟨d',permIn_trans _ _ _ _ _ e h1,h2,h3⟩
structure Pq (a b:Nat) (d:Array Int) (dY:Nat):Prop where
 B:Sort.Below ltInt a b d
 ab:a<=b
 l:dY<=2^40
 b:b<=d.size
 d:d.size<=2^40
def Pq.perm{a b:Nat}{d d':Array Int}{l:Nat}(h:Pq a b d l)(c:PermIn a b d d'):Pq a b d' l:=
 ⟨h.B.perm h.b c,h.ab,h.l,by rw[c.1];exact h.b,by rw[c.1];exact h.d⟩
def Ry(n:Nat):Prop:=∀(d:Array Int)(a b dY:Nat)(wb wp:Bool),b-a<n->Pq a b d dY->Sd a b d (Lp f232 0 (m9 a b dY wb wp (rA d)) 1)
def afj(a b dY length d:Int)(l:Rw)(r:List AV)(h:List Bx):Prop:=
 ∃p q c,al 304 [.bA 0,vN a,vN b,vN d] [.bk 1 l] [vN p,vB q] [.bk 1 c]/\au (p-a)/\au (b-p)/\(8:Int)≠0/\aw (decide ((p-a)<(b-p))) (∃y,al 232 [.bA 0,vN a,vN p,vN dY] [.bk 1 c] [] [.bk 1 y]/\au (p+1)/\Lp f232 0 (m9 (p+1) b dY (decide ((p-a)>=(wrap .i64 (tdiv length 8)))) q y) 1 r h)
  (au (p+1)/\∃y,al 232 [.bA 0,vN (p+1),vN b,vN dY] [.bk 1 c] [] [.bk 1 y]/\Lp f232 0 (m9 a p dY (decide ((b-p)>=(wrap .i64 (tdiv length 8)))) q y) 1 r h)
def Vn(f:Ry n)(J:b-a<=n)(c:Pq a b d dY)(v:a<=p)(w:p<b):Sd a b d (afj a b dY length p (rA d)):=by
 have k:=afc c.b c.d v w;have g:Sort.partition ltInt d a b p=((Sort.partition ltInt d a b p).1,(Sort.partition ltInt d a b p).2.1,(Sort.partition ltInt d a b p).2.2):=rfl;generalize(Sort.partition ltInt d a b p).1=mid at g k;generalize(Sort.partition ltInt d a b p).2.1=ap at g k;generalize(Sort.partition ltInt d a b p).2.2=d4 at g k;obtain⟨x,E,K,y,z,r,D⟩:=Sort.round_part swo_ltInt (Sort.partition_holds ltInt) v w c.b c.B g;have G:=c.b;have H:=c.d;by_cases I:mid-a<b-mid
 .obtain⟨L,e,i,j⟩:=f d4 a mid dY true true (by omega) ⟨y,x,c.l,by omega,by omega⟩
  obtain⟨t,u⟩:=r L e i;obtain⟨R,o,q,s⟩:=f L (mid+1) b dY (decide ((mid:Int)-a>=(wrap .i64 (tdiv length 8)))) ap (by omega) ⟨t,by omega,c.l,by rw[e.1];omega,by rw[e.1];omega⟩
  obtain⟨l,m⟩:=u R o q;exact⟨R,l,m,_,_,_,k,aC,aC,by decide,ad (fun _=>⟨_,YI _ _ _ _ j,aC,s⟩) fun h=>by simp at h;omega⟩
 .obtain⟨L,e,i,j⟩:=f d4 (mid+1) b dY true true (by omega) ⟨z,by omega,c.l,by omega,by omega⟩
  obtain⟨t,u⟩:=D L e i;obtain⟨R,o,q,s⟩:=f L a mid dY (decide ((b:Int)-mid>=(wrap .i64 (tdiv length 8)))) ap (by omega) ⟨t,by omega,c.l,by rw[e.1];omega,by rw[e.1];omega⟩
  obtain⟨l,m⟩:=u R o q;exact⟨R,l,m,_,_,_,k,aC,aC,by decide,ad (fun h=>by simp at h;omega) fun _=>⟨aC,_,YI _ _ _ _ j,s⟩⟩
def WT{wb wp:Bool}(j:Ry n)(q:b-a<=n)(c:Pq a b d dY)(e:a<=p)(f:p<b):
  Sd a b d (Rp f232 17 (yB a b dY wb wp length p (rA d)) 1):=by
 have D:=c.b;have E:=c.d;have l:=Vn (length:=length) j q c e f;by_cases o:0<a
 .cases hl:ltInt d[a-1]! d[p]!
  .have k:=afb c.b c.d e f
   have g:Sort.partitionEqual ltInt d a b p=((Sort.partitionEqual ltInt d a b p).1,(Sort.partitionEqual ltInt d a b p).2):=rfl;generalize(Sort.partitionEqual ltInt d a b p).1=mid at g k;generalize(Sort.partitionEqual ltInt d a b p).2=d4 at g k;obtain⟨z,m,G,x,y⟩:=Sort.round_eq swo_ltInt (Sort.partitionEqual_holds ltInt) o e f c.b c.B hl g;obtain⟨R,u,v,w⟩:=j d4 mid b dY wb wp (by omega) ⟨x,m,c.l,by omega,by omega⟩
   obtain⟨s,t⟩:=y R u v;exact⟨R,s,t,EU _ _ _ _ _ _ _ _ (ad (fun _=>⟨aC,dL (i:=a-1) (by omega) (by omega) (dL (i:=p) rfl (by omega) (E7 (fun _=>⟨_,_,k,w⟩) fun h=>by rw[hl]at h;simp at h))⟩) fun h=>by simp at h;omega)⟩
  .exact l.mono fun r h H=>EU _ _ _ _ _ _ _ _ (ad (fun _=>⟨aC,dL (i:=a-1) (by omega) (by omega) (dL (i:=p) rfl (by omega) (E7 (fun h=>by rw[hl]at h;simp at h) fun _=>H))⟩) fun h=>by simp at h;omega)
 .exact l.mono fun r h H=>EU _ _ _ _ _ _ _ _ (ad (fun h=>by simp at h;omega) fun _=>H)
def WU{wb wp:Bool}(f:Ry n)(j:b-a<=n)(c:Pq a b d dY)(g:a<=p)(i:p<b):
  Sd a b d (Rp f232 15 (yA a b dY wb wp length p hint (rA d)) 1):=by
 cases hc:(bif(bif wb then wp else false)then(hint==1)else false)
 .exact(WT (wb:=wb) (wp:=wp) (length:=length) f j c g i).mono fun r h H=>ET _ _ _ _ _ _ _ _ _ (ad (fun h=>by rw[hc]at h;simp at h) fun _=>H)
 .have k:=afd c.b c.d (show a<b by omega)
  obtain⟨e,l⟩:=Sort.partialInsertionSort_holds swo_ltInt d a b (by omega) c.b c.B
  generalize(Sort.partialInsertionSort ltInt d a b).1=d1 at*;generalize(Sort.partialInsertionSort ltInt d a b).2=res at*;cases res
  .exact((WT (wb:=wb) (wp:=wp) (length:=length) f j (c.perm e) g i).perm e).mono fun r h H=>ET _ _ _ _ _ _ _ _ _ (ad (fun _=>⟨_,_,k,ad (fun h=>by simp at h) fun _=>H⟩) fun h=>by rw[hc]at h;simp at h)
  .exact⟨d1,e,l rfl,ET _ _ _ _ _ _ _ _ _ (ad (fun _=>⟨_,_,k,ad (fun _=>fi) fun h=>by simp at h⟩) fun h=>by rw[hc]at h;simp at h)⟩
def WV{wb wp:Bool}(e:Ry n)(g:b-a<=n)(c:Pq a b d dY)(l:a+8<=b):
  Sd a b d (Rp f232 10 (sH a b dY wb wp length (rA d)) 1):=by
 obtain⟨p,hint,i,j,k⟩:=afi c.b c.d l;have m:=c.b;have o:=c.d;cases hc:hint==2
 .exact(WU (wb:=wb) (wp:=wp) (length:=length) (hint:=hint) e g c i j).mono fun r h H=>Mf _ _ _ _ _ _ _ ⟨_,_,k,ad (fun h=>by rw[hc]at h;simp at h) fun _=>H⟩
 .have f:=Sort.reverseRange_holds d a b c.ab c.b
  refine((WU (p:=b-1-(p-a)) (wb:=wb) (wp:=wp) (length:=length) (hint:=1) e g (c.perm f) (by omega) (by omega)).perm f).mono fun r h H=>Mf _ _ _ _ _ _ _ ⟨_,_,k,ad (fun _=>⟨_,ae9 c.b c.d (by omega),aC,aC,aC,?_⟩) fun h=>by rw[hc]at h;simp at h⟩
  rw[show(b:Int)-1-((p:Int)-a)=((b-1-(p-a):Nat):Int) by omega]
  exact H
def Rz:∀n,Ry n
 |0=>fun d a b dY wb wp p=>absurd p (by omega)
 |n+1=>fun d a b dY wb wp p c=>by
  have o:=Rz n;have t:=c.b;have u:=c.d;have v:=c.l;have x:=c.ab;by_cases w:b-a<=12
  .obtain⟨e,g⟩:=Sort.insertionSort_holds swo_ltInt d a b c.ab c.b
   exact⟨_,e,g,QV _ _ _ _ _ _ ⟨aC,ad (fun _=>⟨_,ae8 c.b c.d c.ab,fi⟩) fun h=>by simp at h;omega⟩⟩
  .have i:∀{d':Array Int},(aw ((dY:Int)==0) (∃y,al 297 [.bA 0,vN a,vN b] [.bk 1 (rA d)] [] [.bk 1 y]/\Fi [] [.bk 1 (rA d')] [] [.bk 1 y])
     (aw (!wb) (∃y,al 298 [.bA 0,vN a,vN b] [.bk 1 (rA d)] [] [.bk 1 y]/\au ((dY:Int)-1)/\Rp f232 10 (sH a b ((dY:Int)-1) wb wp ((b:Int)-a) y) 1 [] [.bk 1 (rA d')])
     (Rp f232 10 (sH a b dY wb wp ((b:Int)-a) (rA d)) 1 [] [.bk 1 (rA d')])))->Lp f232 0 (m9 a b dY wb wp (rA d)) 1 [] [.bk 1 (rA d')]:=fun H=>
    QV _ _ _ _ _ _ ⟨aC,ad (fun h=>by simp at h;omega) fun _=>H⟩
   by_cases s:dY=0
   .obtain⟨e,g⟩:=Sort.heapSort_holds swo_ltInt d a b c.ab c.b
    exact⟨_,e,g,i (ad (fun _=>⟨_,afa c.b c.d (by omega),fi⟩) fun h=>by simp at h;omega)⟩
   .cases wb
    .obtain⟨q,e,k⟩:=afh c.b c.d (show a+8<=b by omega)
     have f:=c.perm e;obtain⟨d',j,l,m⟩:=(WV (dY:=dY-1) (wb:=false) (wp:=wp) (length:=(b:Int)-a) o (by omega) ⟨f.B,f.ab,by omega,f.b,f.d⟩ (by omega)).perm e
     refine⟨d',j,l,i (ad (fun h=>by simp at h;omega) fun _=>ad (fun _=>⟨_,k,aC,?_⟩) fun h=>by simp at h)⟩
     rw[show(dY:Int)-1=((dY-1:Nat):Int) by omega]
     exact m
    .obtain⟨d',j,l,m⟩:=WV (wb:=true) (wp:=wp) (length:=(b:Int)-a) o (by omega) c (by omega)
     exact⟨d',j,l,i (ad (fun h=>by simp at h;omega) fun _=>ad (fun h=>by simp at h) fun _=>m)⟩
def afk(z:List Int)(m:z.length<=2^40):al 164 [.bA 0] [.bk 1 (z.map fun x=>[W x])] [] [.bk 1 ((z.mergeSort fun x y=>decide (x<=y)).map fun x=>[W x])]:=by
 have c:z.toArray.size=z.length:=by simp
 have l:bitsLen z.length<=41:=(Sort.bitsLen_le_iff z.length 41).2 (by omega)
 obtain⟨d',j,k,d⟩:=Rz (z.length+1) z.toArray 0 z.length (bitsLen z.length) true true (by omega) ⟨.inl rfl,dP _,by omega,by omega,by omega⟩
 have f:rA z.toArray=z.map fun x=>[W x]:=by simp[rA]
 have g:d'.toList=z.mergeSort fun x y=>decide (x<=y):=by
  have h:=Sort.sorted_unique_holds (lt:=ltInt) swo_ltInt (fun x y a b=>by unfold ltInt at a b;simp at a b;omega) z.toArray d' (by rw[c];exact j) (by rw[c];exact k)
  rw[h];simp only[List.toList_toArray];congr 1
  funext x y
  unfold ltInt;by_cases h:x<=y
  .simp[h]
  .simp[h];omega
 have i:rA d'=(z.mergeSort fun x y=>decide (x<=y)).map fun x=>[W x]:=by rw[rA,g]
 rw[f,i]at d;refine aez _ ⟨(bitsLen z.length:Nat),?_,_,YI _ _ _ _ ?_,fi⟩
 .have e:wrap .u64 (((z.map fun x=>[W x]).length:Nat):Int)=z.length:=by simp[wrap,IntKind.signed,IntKind.bits];omega
  rw[e];exact aa4 z.length (by omega)
 .simpa using d
end
section
open Go.RowKit Go.Maps
def wK(w:World)(a:Nat)(v:Value)(l:List Int):Prop:=
 (l=[]/\∃A,v = .slice A 0 0)\/∃g cap X e,v = .slice (some ⟨g,0,none⟩) l.length cap/\a<=g/\w.heap[g]?=some (.cells X e (0,0))/\l.length<=cap/\cap<=X.size/\∀(i:Nat)x,l[i]?=some x->X[i]?=some (ku x)
def Za{d e:Nat}(h:w.ownsRow d e 1 v l.length (l.map ku)):wK w d v l:=by
 obtain⟨-,⟨a,f⟩|⟨g,cap,c,a,j,n,k,p,q,m⟩⟩:=h
 .exact .inl ⟨hX.1 f,none,a⟩
 .refine .inr ⟨g,cap,c,e,a,j,n,k,by omega,fun i x b=>?_⟩
  have o:i<l.length:=(aG.1 b).1;have:(c.toList.take (l.length*1))[i]?=some (ku x):=by rw[m,bw,b];rfl
  rw[fv,aJ (by omega)]at this
  simpa using this
def RA(w:World)(g b:Nat):Nat:=if b=g then 0 else oV w b
def Vo{w:World}(h:w.cell? ⟨b,o,none⟩=some v):b<w.heap.size:=by
 rcases bU b w.heap.size with a|a
 .exact a
 .simp[World.cell?,sw a]at h
def WX(d:Laid l w)(e:Below w.heap.size w a)(n:w.heap.size<=g):Laid (RA a g) a:=by
 have key:∀(b o:Nat)(v:Value),w.cell? ⟨b,o,none⟩=some v->a.cell? ⟨b,o,none⟩=some v/\o<RA a g b:=fun b o v h=>by
  have k:=Vo h;have c:a.cell? ⟨b,o,none⟩=some v:=(World.cell?_of_block (e.block b k)).trans h;exact⟨c,by unfold RA;rw[aN (by omega)];exact(mJ c).1⟩
 exact⟨fun i f=>key _ _ _ (d.tab i f).1,d.num.elim fun m j=>⟨m,key _ _ _ j.1⟩⟩
def KV(a:Below w.heap.size w d)(j:w.heap.size<=g)(b:Inv prog d i (· = g) G f e):Below w.heap.size w e:=
 ⟨b.frame.os.trans a.os,b.frame.tape.trans a.tape,b.frame.output.trans a.output,dR a.size b.frame.size,fun k c=>(b.frame.Er k (gy c a.size) (by show¬k=g;omega)).1.trans (a.block k c)⟩
def OF(Y:Laid a4 w)(k:Below w.heap.size w a)(hv:wK a w.heap.size v l)(hz:l.length<=2^40):
  Calls prog 164 #[v] a fun e d=>e = .returned (.tuple #[])/\Below w.heap.size w d/\wK d w.heap.size v (l.mergeSort fun x y=>decide (x<=y)):=by
 have M:=afk l hz;have fin:∀{Q:Value->World->Prop},dB prog (callFunc 164 #[v]) a Q->(∀u d,Q u d->u = .tuple #[]/\Below w.heap.size w d/\wK d w.heap.size v (l.mergeSort fun x y=>decide (x<=y)))->
   Calls prog 164 #[v] a fun e d=>e = .returned (.tuple #[])/\Below w.heap.size w d/\wK d w.heap.size v (l.mergeSort fun x y=>decide (x<=y)):=fun{Q}E hq=>by
  unfold dB at E;rw[(enters_of func164 rfl rfl:Ent 164)]at E;refine Calls.mono E fun e w'⟨u,he,h⟩=>?_
  obtain⟨f,c⟩:=hq u w' h;exact⟨by rw[he,f],c⟩
 have hlen:(l.mergeSort fun x y=>decide (x<=y)).length=l.length:=List.length_mergeSort _
 rcases hv with⟨rfl,A,rfl⟩|⟨g,cap,X,e,rfl,t,T,a3,a7,a5⟩
 .have J:=WX (g:=w.heap.size) Y k (ar _)
  let G:Gh:=⟨RA a w.heap.size,fun _=>none,fun _=>.slice A 0 0,fun b=>b=0⟩
  have m:∀x n,G.h x≠some n:=fun x n h=>by simp[G]at h
  have H:Inv prog a G.bT (· = w.heap.size) G [.bk 1 []] a:=by
   refine⟨m0.refl _ _ _ (fun b k=>by show(if b=w.heap.size then 0 else oV a b)=0;split<;>simp[oV,sw k]) J,fun b h=>?_,fun b bx h=>?_,fun x y n h=>absurd h (m _ _),fun x n h=>absurd h (m _ _),fun b n _=>m _ _⟩
   .show b<1
    have:b=0:=h;omega
   .match b with
    |0=>simp at h;subst h;exact⟨rfl,by simp,.inr ⟨rfl,A,rfl⟩⟩
    |b+1=>simp at h
  refine fin (M.G6 a G (· = w.heap.size) [.slice A 0 0] H (ef (.bA (G:=G) (b:=0) rfl rfl))) fun u d⟨K,I,s,⟨f,_⟩,z,_⟩=>?_
  obtain rfl:I=[]:=hX.1 f;exact⟨z,KV k (ar _) s,.inl ⟨by simp,A,rfl⟩⟩
 .have J:=WX (g:=g) Y k t
  have a1:g<a.heap.size:=(gZ.1 T).1;let G:Gh:=⟨RA a g,fun|.box 0=>some g|_=>none,fun _=>.slice (some ⟨g,0,none⟩) l.length cap,fun b=>b=0⟩
  have m:∀x n,G.h x=some n->x = .box 0/\n=g:=fun x n h=>by
   cases x with
   |box b=>
    cases b with
    |zero=>exact⟨rfl,(ax h).symm⟩
    |succ b=>cases h
   |_=>cases h
  have H:Inv prog a G.bT (· = g) G [.bk 1 (l.map fun x=>[W x])] a:=by
   refine⟨m0.refl _ _ _ (fun b k=>by show(if b=g then 0 else oV a b)=0;split<;>simp[oV,sw k]) J,fun b h=>?_,fun b bx h=>?_,fun x y n f c=>by rw[(m x n f).1,(m y n c).1],fun x n h=>by rw[(m x n h).2];exact⟨a1,fun _=>rfl⟩,fun b n h=>?_⟩
   .show b<1
    have:b=0:=h;omega
   .match b with
    |b+1=>simp at h
    |0=>
     simp at h;subst h;refine⟨rfl,fun r hr=>?_,.inl ⟨g,X,e,cap,rfl,by simp[G],by simpa using a3,T,by omega,aJ rfl,fun i j v p f c=>?_⟩⟩
     .obtain⟨x,-,rfl⟩:=bh.1 hr;rfl
     .simp only[j9,bw]at c
      cases q:l[i]? with
      |none=>rw[q]at c;simp at c
      |some x=>
       rw[q]at c;match j,c with
       |0,c=>
        simp at c;subst c;rw[show i*1+0=i by omega,a5 i x q]at f
        obtain rfl:=ax f;exact .int _ _
   .match b with
    |0=>simp at h
    |b+1=>simp at h
  refine fin (M.G6 a G (· = g) [.slice (some ⟨g,0,none⟩) l.length cap] H (ef (.bA (G:=G) (b:=0) rfl rfl))) fun u d⟨K,I,s,⟨f,_⟩,z,a0⟩=>?_
  obtain rfl:I=[]:=hX.1 f;have R:K.val 0 = .slice (some ⟨g,0,none⟩) l.length cap:=(a0 0 rfl).2;obtain⟨-,-,⟨a6,D,e',a9,-,o,k3,k4,k5,-,k7⟩|⟨k1,A,o⟩⟩:=s.box 0 _ rfl
  .rw[R]at o
   simp only[Value.slice.injEq,ay,Addr.mk.injEq]at o;obtain⟨⟨rfl,-,-⟩,-,rfl⟩:=o;refine⟨z,KV k t s,.inr ⟨g,cap,D,e',by rw[hlen],t,k4,by omega,by omega,fun i x q=>?_⟩⟩
   have a8:=(aG.1 q).1;have Z:i<D.size:=by omega
   have hp:=k7 i 0 D[i] (W x) (by rw[show i*1+0=i by omega];exact cU Z) (by simp[j9,q])
   rw[cU Z,wD hp]
  .have F:(l.mergeSort fun x y=>decide (x<=y))=[]:=by simpa using k1
   have a2:l.length=0:=by rw[<-hlen,F];rfl
   rw[R]at o;simp only[Value.slice.injEq]at o;obtain⟨-,-,rfl⟩:=o;exact⟨z,KV k t s,.inl ⟨F,some ⟨g,0,none⟩,by rw[a2]⟩⟩
end
def afl:bu:={}
def afm(a:List (PV×AV))(H:Fi r h [.fn (.func 165) [] [.aB 1 0]] [.map 209 a,.aH [.mp 0]]):
  al 110 [.mp 0] [.map 209 a] r h:=.of func110 afl H
section
open Go.RowKit Go.Maps
open Go.WideElems (Fit rd rg rd_key rg_of)
def afn(c:List (PV×AV)):al 110 [.mp 0] [.map 209 c] [.fn (.func 165) [] [.aB 1 0]] [.map 209 c,.aH [.mp 0]]:=afm c fi
def wL(n:Int):∀l:List Int,(nQ n l).Perm (n::l)
 |[]=>.refl _
 |m::l=>by
  unfold nQ;cases decide (n<=m)
  .exact((wL n l).cons m).trans (.swap _ _ _)
  .exact .refl _
def tF:∀l:List Int,(gR l).Perm l
 |[]=>.refl _
 |n::l=>(wL n _).trans ((tF l).cons n)
def Mp(n:Int):∀{l:List Int},l.Pairwise (· <= ·)->(nQ n l).Pairwise (· <= ·)
 |[],_=>by simp[nQ]
 |m::l,h=>by
  obtain⟨c,d⟩:=lv.1 h;unfold nQ;cases b:decide (n<=m)
  .refine lv.2 ⟨fun x a=>?_,Mp n d⟩
   have b:m<n:=by simpa using b
   rcases aZ.1 ((wL n l).mem_iff.1 a)with rfl|a
   .omega
   .exact c x a
  .refine lv.2 ⟨fun x a=>?_,h⟩
   have b:n<=m:=by simpa using b
   rcases aZ.1 a with rfl|a
   .exact b
   .exact Int.le_trans b (c x a)
def HK:∀l:List Int,(gR l).Pairwise (· <= ·)
 |[]=>.nil
 |n::l=>Mp n (HK l)
def Vp{l k:List Int}(h:l.Perm k):(l.mergeSort fun x y=>decide (x<=y))=gR k:=by
 refine List.Perm.eq_of_pairwise (le:=(· <= ·)) (fun a b _ _ d e=>Int.le_antisymm d e) ?_ (HK k) (((List.mergeSort_perm l _).trans h).trans (tF k).symm)
 have:=List.pairwise_mergeSort (le:=fun x y:Int=>decide (x<=y)) (fun a b c d e=>by simp at*; omega) (fun a b=>by simp;omega) l
 exact this.imp fun h=>by simpa using h
def E9:Value->Option (DataW Unit×List MemPlace):=fun _=>some (.nil,[])
def RB{w:World}(J:w.heap[b]?=some (.map c clock))(d:x0 c clock a.length)(l:∀(i:Nat)e k,c[i]?=some e->a[i]?=some k->e.key=ku k)(u:a.Nodup)(M:∀k∈a,0<=k/\k<4294967296)(Z:a.length<=2^20):∃t,sG t a/\w.ownsMap prog 29 E9 b a.length t:=by
 have v:∀x∈c.toList,∃(i:Nat)(k:Int),c[i]?=some x/\a[i]?=some k/\x.key=ku k/\rg prog 29 E9 x=(Lit.int .u32 k,(.nil:DataW Unit))/\∃y,rd prog 29 E9 x=some y:=by
  intro x m;obtain⟨i,f⟩:=su.1 m;have q:c[i]?=some x:=by simpa using f
  have s:i<a.length:=by rw[<-d.1];exact(gZ.1 q).1
  have g:=l i x a[i] q (bo s);obtain⟨A,R⟩:=M _ (gL s);have r:rd prog 29 E9 x=some (Lit.int .u32 a[i],(.nil:DataW Unit)):=by
   have T:keyOf prog 29 x.key=some (.int .u32 a[i]):=by
    rw[g];simp[keyOf,u29,mapKey,Lit.wf,IntKind.min,IntKind.max,IntKind.signed,IntKind.bits];omega
   simp[rd,T,E9]
  exact⟨i,a[i],q,bo s,g,rg_of r,_,r⟩
 have a0:c.toList.length=a.length:=by rw[mu,d.1]
 have D:c.toList.map (fun x=>rg prog 29 E9 x)=a.map fun k=>(Lit.int .u32 k,(.nil:DataW Unit)):=by
  apply fu;intro i;rw[bw,bw];by_cases f:i<a.length
  .have z:i<c.toList.length:=by rw[mu,d.1];exact f
   obtain⟨F,k,X,Y,H,I,-⟩:=v c.toList[i] (gL z);have g:=l i c.toList[i] a[i] (by simp) (bo f)
   rw[H]at g;have g:k=a[i]:=by simpa[ku]using g
   rw[bo z,bo f];simp only[cY];rw[I,g]
  .rw[eE (show c.toList.length<=i by omega),eE (show a.length<=i by omega)];rfl
 refine⟨.map ((c.toList.map (rg prog 29 E9)).foldr DataW.insert []),⟨fun x=>?_,u,?_⟩,c,clock,J,⟨by rw[d.1];simp[maxLen];omega,(MapKept.stamped_iff _ _).2 ⟨d.2.1,d.2.2,?_⟩,fun x m=>(v x m).elim fun i h=>h.elim fun k h=>h.2.2.2.2⟩,by rw[d.1];exact ar _,rfl⟩
 .rw[has_eq,mU]
  constructor
  .rintro⟨p,n,K⟩
   have n:=mem_sorted.1 n;rw[show(c.toList.map (rg prog 29 E9))=_ from D]at n
   obtain⟨k,l,rfl⟩:=bh.1 n;have:k=x:=by simpa[Lit.sameKey]using K
   exact this▸l
  .intro m
   refine⟨(Lit.int .u32 x,.nil),mem_sorted.2 ?_,by simp[Lit.sameKey]⟩
   rw[show(c.toList.map (rg prog 29 E9))=_ from D]
   exact bh.2 ⟨x,m,rfl⟩
 .simp[Maps.size,length_sorted,d.1]
 .rw[yr]
  intro i j f o Q;rw[mu,d.1]at f o;have E:=l i c.toList[i] a[i] (by simp) (bo f)
  have G:=l j c.toList[j] a[j] (by simp) (bo o)
  rw[E,G];intro e;have e:a[i]=a[j]:=by simpa[ku]using e
  have:=(yr.1 u) i j f o Q;exact this e
set_option maxHeartbeats 1000000 in
theorem afo(c:List (PV×AV))(d:List Int)(M:c.map (·.1)=d.map W)(hn:d.Nodup)(hw:∀k∈d,0<=k/\k<4294967296)(Q:d.length<=2^20):
  al 109 [.fn (.func 165) [] [.aB 0 0]] [.aH [.mp 1],.map 209 c] [vL 1 ((gR d).map fun k=>[W k])] [.aH [.mp 1],.map 209 c]:=by
 constructor
 intro w y O vs q E;obtain⟨v,rfl,D⟩:=L5 E;obtain⟨n,X,elem,he,hh,b4,J,a3,-,a2⟩:=q.box 0 _ rfl;obtain⟨b,b1,clock,-,c2,b7,hb,hB,-,-,hc⟩:=q.box 1 _ rfl;have a4:c.length=d.length:=by have:=congrArg List.length M;simpa using this
 have b2:∀(i:Nat)e k,b1[i]?=some e->d[i]?=some k->e.key=ku k:=fun i e k D h2=>by
  have t:(c.map (·.1))[i]?=some (W k):=by rw[M,bw,h2];rfl
  rw[bw]at t;cases m:c[i]? with
  |none=>rw[m]at t;simp at t
  |some x=>
   rw[m]at t;have R:x.1=W k:=by simpa using t
   have:=(hc i e x D m).1;rw[R]at this;exact wD this
 obtain⟨F,a6,b3⟩:=RB hb (a4▸hB) b2 hn hw Q;have b5:w.cell? ⟨n,0,none⟩=some (.map (some b)):=by
  have Z:0<X.size:=by rw[a3];simp
  obtain⟨-,h⟩:=a2 0 X[0] (.mp 1) (cU Z) rfl;have s:X[0]=.map (some b):=by
   have h:aS y [] w X[0] (.mp 1):=h;generalize X[0]=u at h;cases h;exact b7
  simp[World.cell?,J,cU Z,s]
 obtain⟨lb,rfl,a7⟩:∃lb:Array Value,v = .func (.func 165) #[] lb/\lb = #[.pointer (some ⟨n,0,none⟩)]:=by
  cases D with
  |@fn f fi o first cap g1 g2 g3 g4=>
   obtain rfl:fi = #[]:=Array.eq_empty_of_size_eq_zero (by simpa using g1)
   refine⟨o,rfl,?_⟩;have G:o.size=1:=by simpa using g2
   have l:=g4 0 o[0] (.aB 0 0) (cU (by omega)) rfl
   have s:o[0]=.pointer (some ⟨n,0,none⟩):=by
    generalize o[0]=u at l;cases l with
    |aB _ h=>rw[b4]at h;simp only[Value.pointer.injEq,ay,Addr.mk.injEq]at h;rw[h.1]
   apply Array.ext
   .simp[G]
   .intro i c3 c4
    have:i=0:=by omega
    subst this;simpa using s
 subst a7;have a1:n<w.heap.size:=(gZ.1 J).1;have b6:SeqGives FW 2 prog 165 #[.pointer (some ⟨n,0,none⟩)] ku (fun H=>H.Perm d) d.length w:=B0 2 (by omega) n b d.length F a6 w a1 b5 b3
 have hC:CallsIn FW 5 prog 109 #[.func (.func 165) #[] #[.pointer (some ⟨n,0,none⟩)]] w fun e I=>∃v,e = .returned v/\Below w.heap.size w I/\wK I w.heap.size v (gR d):=by
  have mixed:=mixed;have t0:=underlying0;have a0:=isAgg0;have z0:=sizeOf0;have v0:=zeroValue0;have a9:=underlying60;have b9:=isAgg60;have d1:=sizeOf60;have c9:=zeroValue60;have b0:=underlying219;have c0:=isAgg219;have d2:=sizeOf219;have d0:=zeroValue219;have u0:=run_underlying t0;have c7:=run_underlying a9;have c8:=run_underlying b0;have e8:∀args w,(callFunc 163 args).run prog w = .ok (.enter 163 args) w:=enters_of func163 rfl rfl;have e9:∀args w,(callFunc 164 args).run prog w = .ok (.enter 164 args) w:=enters_of func164 rfl rfl;refine callsIn_of_wp func109 rfl trivial ?_ rfl;simp only[show f109.ntmps=9 from rfl,sn,aE,cN,Nat.reduceAdd,Nat.reduceSub,yl,yk,uu,yf,dT,dm]
  gi_wp2
  refine⟨trivial,(Kv 4 (by omega) 165 _ (enters_of func165 rfl rfl) _ d.length (by simp[maxLen];omega) (by omega) _ b6).mono ?_⟩
  rintro e w1 ⟨v,H,rfl,WY,x8,-,RC⟩;gi_wp2
  have hlen:H.length=d.length:=WY.length_eq;have G:=OF q.frame.Cc RC (Za x8) (by omega)
  refine⟨trivial,(callsIn_wide.2 G).mono ?_⟩;rintro e I ⟨rfl,hb2,hh2⟩;gi_wp2
  go_ret
  rw[Vp WY]at hh2;exact⟨_,rfl,hb2,hh2⟩
 refine eJ (enters_of func109 rfl rfl) (callsIn_wide.1 hC) ?_;rintro e w' ⟨v,rfl,RC,s⟩;have c6:(gR d).length<=2^20:=by rw[(tF d).length_eq];exact Q
 generalize gR d=z at*;rcases s with⟨rfl,A,rfl⟩|⟨g,cap,Y,e,rfl,hg,K,a8,c1,b8⟩
 .refine⟨_,rfl,oW y w w'.heap.size 0 false,[.slice A 0 0],pJ q RC ⟨RC.size,.inr ⟨rfl,rfl⟩⟩,ef (.v ?_),rfl,fun b h=>⟨h,rfl⟩⟩
  cases A with
  |none=>exact .mZ 1
  |some a=>exact .Jy a 1
 .have a5:g<w'.heap.size:=(gZ.1 K).1
  refine⟨_,rfl,oW y w g z.length false,[.slice (some ⟨g,0,none⟩) z.length cap],pJ q RC ⟨hg,.inl a5⟩,ef (.v ?_),rfl,fun b h=>⟨h,rfl⟩⟩
  have T:∀(i j:Nat)p,j9 (z.map fun k=>[W k]) i j=some p->∃x,z[i]?=some x/\j=0/\p=W x:=fun i j p l=>by
   simp only[j9,bw]at l;cases m:z[i]? with
   |none=>rw[m]at l;simp at l
   |some x=>
    rw[m]at l;match j,l with
    |0,l=>exact⟨x,rfl,rfl,by simpa using l.symm⟩
  refine .sl g 0 z.length cap 1 _ (fun i _=>ku (z.getD i 0)) (by simp) a8 (fun r E=>by obtain⟨x,-,rfl⟩:=bh.1 E;rfl) (fun i j p l=>?_) fun i j p l=>?_
  .obtain⟨x,m,rfl,rfl⟩:=T i j p l
   have c5:=(aG.1 m).1;refine⟨?_,?_⟩
   .show w'.cell? ⟨g,0+i*1+0,none⟩=_
    rw[show 0+i*1+0=i by omega,bW,m]
    simp[World.cell?,K,b8 i x m]
   .show 0+i*1+0<(if g<w.heap.size then y.bT g else if g=g then z.length else 0)
    rw[aN (by omega),aJ rfl]
    omega
  .obtain⟨x,m,rfl,rfl⟩:=T i j p l
   rw[bW,m];exact .int _ _
end
def A78:bu:={an:=[(1,7,ah)]}
def W78(a:By)(b:Int)(H:(0<=(0:Int)/\(0:Int)<=(if(if(a.length:Int)<b then(a.length:Int)else b)>0 then(if(a.length:Int)<b then(a.length:Int)else b)else 0)/\(if(if(a.length:Int)<b then(a.length:Int)else b)>0 then(if(a.length:Int)<b then(a.length:Int)else b)else 0)<=(a.length:Int))/\∃c,al 101 [vC (some (4607182418800017408,4607182418800017408)),vS (drop 0 (take (toNat (if(if(a.length:Int)<b then(a.length:Int)else b)>0 then(if(a.length:Int)<b then(a.length:Int)else b)else 0)) a))] [] [vC c] []/\Fi r h [vC c] []):
  al 78 [vS a,vN b] [] r h:=.of func78 A78 H
def afp:bu:={an:=[(1,1,ah),(4,8,ah)]}
def afq(b:Cx)(a:By)(H:kL 140 [vS a,vS [10]] [] fun c=>aw (c==0) (Fi r h [vC none] [])
 (kL 141 [vS a,vS [10]] [] fun d=>au ((a.length:Int)-d)/\Fi r h [vC none] [])):
  al 101 [vC b,vS a] [] r h:=.of func101 afp H
abbrev zM(a b c:Int)(d:Cx)(e:By)(f:Int)(g:Cx)(i:Rw)r h:=Lp f129 0 ⟨aO 56 [(1,vN a),(5,.aB 0 0),(6,.aB 1 0)],[],[.aH [vN b,vN c,vC d],.aH [vS e,vN f,vC g,O 4 i]]⟩ 0 r h
def aa5:bu:={an:=[(6,2,aa),(6,3,aa)],mod:=[(7,2,[(0,[0,2])]),(8,4,[(0,[0,2,3])])],cut:=[(4,{bl:=[1,5,6]})]}
def afr(b:By)(a:Int)(H:aw (decide ((b.length:Int)>20000)) (Fi r h [vL 4 [],.agg [N 9,N a,C (some (4607182418800017408,4607182418800017408))]] [])
 (zM a 0 0 (some (0,0)) b a (some (4607182418800017408,4607182418800017408)) [] r h)):
  al 129 [vS b,vN a] [] r h:=.of func129 aa5 H
def Zb(c f g:Int)(i:Cx)(d:By)(a:Int)(e:Cx)(b:Rw)(H:aw (!(d==[])) (L4 178 [.aB 0 0] [.aH [vS d,vN a,vC e,O 4 b]] fun p q=>aw (bif q then(decide (p>0))else false) (∃k l,al 179 [.aB 0 0,vN p] [.aH [vS d,vN a,vC e,O 4 b]] [] [.aH [vS k,vN a,vC l,O 4 b]]/\zM c f g i k a l b r h)
 (aw (!q) (Fi r h [vL 4 [],.agg [N 3,N c,C e]] []) (∃m n j o,al 180 [.aB 0 0] [.aH [vS d,vN a,vC e,O 4 b]] [vB m] [.aH [vS n,vN a,vC j,O 4 o]]/\aw (!m) (Fi r h [vL 4 [],.agg [N 3,N c,C j]] [])
 (zM c f g i n a j o r h))))
 (Fi r h [vL 4 b,.agg [N 0,N 0,C (some (0,0))]] [])):
  zM c f g i d a e b r h:=.of aa5 H
def afs:bu:={an:=[(1,4,ah),(3,4,ah),(4,5,ah)]}
def aft(a:By)(b:Int)(c:Cx)(d:Rw)(H:cc 243 [vS a,vS [47,47]] [] fun f=>aw f (kL 244 [vS a,.fn (.func 245) [] []] [] fun g=>Fi r h [vN g,vB true] [.aH [vS a,vN b,vC c,O 4 d]])
 (cc 243 [vS a,vS [47,42]] [] fun i=>aw i ((0<=(2:Int)/\(2:Int)<=(a.length:Int)/\(a.length:Int)<=(a.length:Int))/\kL 197 [vS (drop 2 (take a.length a)),vS [42,47]] [] fun e=>au (e+2)/\au ((e+2)+2)/\Fi r h [vN ((e+2)+2),vB (decide (e>=0))] [.aH [vS a,vN b,vC c,O 4 d]])
 (kL 244 [vS a,.fn (.func 246) [] []] [] fun j=>Fi r h [vN j,vB true] [.aH [vS a,vN b,vC c,O 4 d]]))):
  al 178 [.aB 0 0] [.aH [vS a,vN b,vC c,O 4 d]] r h:=.of func178 afs H
def afu:bu:={an:=[(0,11,ah)]}
def afv(a:By)(c:Int)(d:Cx)(e:Rw)(b:Int)(H:(0<=(0:Int)/\(0:Int)<=b/\b<=(a.length:Int))/\∃f,al 101 [vC d,vS (drop 0 (take (toNat b) a))] [] [vC f] []/\(0<=b/\b<=(a.length:Int)/\(a.length:Int)<=(a.length:Int))/\Fi r h [] [.aH [vS (drop (toNat b) (take a.length a)),vN c,vC f,O 4 e]]):
  al 179 [.aB 0 0,vN b] [.aH [vS a,vN c,vC d,O 4 e]] r h:=.of func179 afu H
def afw:bu:={an:=[(2,1,ah),(6,1,ah),(8,6,ah),(17,4,ah)],mod:=[(4,8,[(0,[0,2,3])]),(11,8,[(0,[0,2,3])]),(14,1,[(0,[0,2,3])]),(16,1,[(0,[0,2,3])]),(19,8,[(0,[0,2,3])])]}
def afx(a:By)(b:Int)(c:Cx)(d:Rw)(H:(0<=(0:Int)/\0<(a.length:Int))/\cc 247 [vY (UInt8.toNat (List.getD a (toNat 0) 0):Int)] [] fun G=>aw G (kL 244 [vS a,.fn (.func 248) [] []] [] fun g=>(0<=(0:Int)/\(0:Int)<=g/\g<=(a.length:Int))/\∃i j k,al 249 [.aB 0 0,vN 1,vN g,vS (drop 0 (take (toNat g) a))] [.aH [vS a,vN b,vC c,O 4 d]] [] [.aH [vS i,vN b,vC j,O 4 k]]/\Fi r h [vB true] [.aH [vS i,vN b,vC j,O 4 k]])
 (cc 250 [vY (UInt8.toNat (List.getD a (toNat 0) 0):Int)] [] fun I=>aw I (kL 244 [vS a,.fn (.func 248) [] []] [] fun e=>(0<=(0:Int)/\(0:Int)<=e/\e<=(a.length:Int))/\∃E l,al 251 [vS (drop 0 (take (toNat e) a))] [] [vU E,vB l] []/\aw (!l) (Fi r h [vB false] [.aH [vS a,vN b,vC c,O 4 d]])
 ((0<=(0:Int)/\(0:Int)<=e/\e<=(a.length:Int))/\∃m n o,al 249 [.aB 0 0,vN 2,vN e,vS (drop 0 (take (toNat e) a))] [.aH [vS a,vN b,vC c,O 4 d]] [] [.aH [vS m,vN b,vC n,O 4 o]]/\Fi r h [vB true] [.aH [vS m,vN b,vC n,O 4 o]]))
 (aw ((UInt8.toNat (List.getD a (toNat 0) 0):Int)==34) (∃p q s t,al 252 [.aB 0 0] [.aH [vS a,vN b,vC c,O 4 d]] [vB p] [.aH [vS q,vN b,vC s,O 4 t]]/\Fi r h [vB p] [.aH [vS q,vN b,vC s,O 4 t]])
 (aw ((UInt8.toNat (List.getD a (toNat 0) 0):Int)==35) (∃u v w x,al 253 [.aB 0 0] [.aH [vS a,vN b,vC c,O 4 d]] [vB u] [.aH [vS v,vN b,vC w,O 4 x]]/\Fi r h [vB u] [.aH [vS v,vN b,vC w,O 4 x]])
 (kL 254 [vS a] [] fun f=>aw (decide (f>0)) ((0<=(0:Int)/\(0:Int)<=f/\f<=(a.length:Int))/\∃y z D,al 249 [.aB 0 0,vN 3,vN f,vS (drop 0 (take (toNat f) a))] [.aH [vS a,vN b,vC c,O 4 d]] [] [.aH [vS y,vN b,vC z,O 4 D]]/\Fi r h [vB (decide (f>0))] [.aH [vS y,vN b,vC z,O 4 D]])
 (Fi r h [vB (decide (f>0))] [.aH [vS a,vN b,vC c,O 4 d]])))))):
  al 180 [.aB 0 0] [.aH [vS a,vN b,vC c,O 4 d]] r h:=.of func180 afw H
def afy:bu:={an:=[(1,5,ah)]}
def afz(a:By)(H:aw (!(a==[])) ((0<=(0:Int)/\0<(a.length:Int))/\cc 247 [vY (UInt8.toNat (List.getD a (toNat 0) 0):Int)] [] fun b=>aw b (kL 244 [vS a,.fn (.func 248) [] []] [] fun c=>Fi r h [vB (c==(a.length:Int))] []) (Fi r h [vB false] [])) (Fi r h [vB false] [])):
  al 202 [vS a] [] r h:=.of func202 afy H
def p7(a:By)(b:Int):St:=⟨aO 20 [(0,vS a),(1,.fn (.func 245) [] []),(5,vN b)],[],[]⟩
def HL:bu:={cut:=[(2,{bl:=[0,1,5]})]}
def RD(a:By)(H:Lp f244 0 (p7 a 0) 0 r h):
  al 244 [vS a,.fn (.func 245) [] []] [] r h:=.of func244 HL H
def KW(b:By)(a:Int)(H:aw (decide (a<(b.length:Int))) ((0<=a/\a<(b.length:Int))/\cc 245 [vY (UInt8.toNat (List.getD b (toNat a) 0):Int)] [] fun c=>aw c (au (a+1)/\Lp f244 0 (p7 b (a+1)) 0 r h)
 (Fi r h [vN a] [])) (Fi r h [vN a] [])):
  Lp f244 0 (p7 b a) 0 r h:=.of HL H
def p8(a:By)(b:Int):St:=⟨aO 20 [(0,vS a),(1,.fn (.func 246) [] []),(5,vN b)],[],[]⟩
def HM:bu:={cut:=[(2,{bl:=[0,1,5]})]}
def RE(a:By)(H:Lp f244 0 (p8 a 0) 0 r h):
  al 244 [vS a,.fn (.func 246) [] []] [] r h:=.of func244 HM H
def KX(b:By)(a:Int)(H:aw (decide (a<(b.length:Int))) ((0<=a/\a<(b.length:Int))/\cc 246 [vY (UInt8.toNat (List.getD b (toNat a) 0):Int)] [] fun c=>aw c (au (a+1)/\Lp f244 0 (p8 b (a+1)) 0 r h)
 (Fi r h [vN a] [])) (Fi r h [vN a] [])):
  Lp f244 0 (p8 b a) 0 r h:=.of HM H
def p9(a:By)(b:Int):St:=⟨aO 20 [(0,vS a),(1,.fn (.func 248) [] []),(5,vN b)],[],[]⟩
def HN:bu:={cut:=[(2,{bl:=[0,1,5]})]}
def RF(a:By)(H:Lp f244 0 (p9 a 0) 0 r h):
  al 244 [vS a,.fn (.func 248) [] []] [] r h:=.of func244 HN H
def KY(b:By)(a:Int)(H:aw (decide (a<(b.length:Int))) ((0<=a/\a<(b.length:Int))/\cc 248 [vY (UInt8.toNat (List.getD b (toNat a) 0):Int)] [] fun c=>aw c (au (a+1)/\Lp f244 0 (p9 b (a+1)) 0 r h)
 (Fi r h [vN a] [])) (Fi r h [vN a] [])):
  Lp f244 0 (p9 b a) 0 r h:=.of HN H
def qa(a:By)(b:Int):St:=⟨aO 20 [(0,vS a),(1,.fn (.func 317) [] []),(5,vN b)],[],[]⟩
def HO:bu:={cut:=[(2,{bl:=[0,1,5]})]}
def RG(a:By)(H:Lp f244 0 (qa a 0) 0 r h):
  al 244 [vS a,.fn (.func 317) [] []] [] r h:=.of func244 HO H
def KZ(b:By)(a:Int)(H:aw (decide (a<(b.length:Int))) ((0<=a/\a<(b.length:Int))/\cc 317 [vY (UInt8.toNat (List.getD b (toNat a) 0):Int)] [] fun c=>aw c (au (a+1)/\Lp f244 0 (qa b (a+1)) 0 r h)
 (Fi r h [vN a] [])) (Fi r h [vN a] [])):
  Lp f244 0 (qa b a) 0 r h:=.of HO H
def afA:bu:={}
def afB(a:Int)(H:Fi r h [vB (a !=10)] []):
  al 245 [vY a] [] r h:=.of func245 afA H
def afC:bu:={an:=[(1,3,aa),(1,4,aa),(1,7,aa),(1,8,aa),(1,11,aa),(1,12,aa)]}
def afD(a:Int)(H:Fi r h [vB (bif(bif(bif(a==32)then true else(a==9))then true else(a==10))then true else(a==13))] []):
  al 246 [vY a] [] r h:=.of func246 afC H
def afE:bu:={an:=[(1,3,aa),(1,4,aa),(1,5,aa),(1,6,aa),(1,7,aa),(1,8,aa),(1,11,aa),(1,12,aa),(1,13,aa),(1,14,aa),(1,15,aa),(1,16,aa)]}
def afF(a:Int)(H:Fi r h [vB (bif(bif(a==95)then true else(bif(decide (a>=97))then(decide (a<=122))else false))then true else(bif(decide (a>=65))then(decide (a<=90))else false))] []):
  al 247 [vY a] [] r h:=.of func247 afE H
def afG:bu:={an:=[(1,1,ah),(1,4,ah)]}
def afH(a:Int)(H:cc 247 [vY a] [] fun b=>aw b (Fi r h [vB true] []) (cc 250 [vY a] [] fun c=>Fi r h [vB c] [])):
  al 248 [vY a] [] r h:=.of func248 afG H
abbrev tG(a:Int)(b:By)(c:Int)(d:Cx)(e:Rw)r h:=Rp f249 1 ⟨aO 31 [(0,.aB 0 0),(2,vN a)],[],[.aH [vS b,vN c,vC d,O 4 e]]⟩ 1 r h
def aa6:bu:={an:=[(0,4,je),(0,10,fg),(0,14,fg),(0,20,je)],mod:=[(1,2,[(0,[0,2])])],join:=[(1,{bl:=[0,2]})]}
def afI(f:By)(a:Int)(b:Cx)(c:Rw)(d g:Int)(e:By)(H:((c++([[N d,S e,N a,C b]]:Rw)).length*48<=2^47/\tG g f a b (c++([[N d,S e,N a,C b]]:Rw)) r h)/\(((c++([[N d,S e,N a,C b]]:Rw)).length*48<=2^47/\tG g f a b (c++([[N d,S e,N a,C b]]:Rw)) r h)/\((c++([[N d,S e,N a,C b]]:Rw)).length*48<=2^47/\tG g f a b (c++([[N d,S e,N a,C b]]:Rw)) r h))/\(((c++([[N d,S e,N a,C b]]:Rw)).length*48<=2^47/\tG g f a b (c++([[N d,S e,N a,C b]]:Rw)) r h)/\((c++([[N d,S e,N a,C b]]:Rw)).length*48<=2^47/\tG g f a b (c++([[N d,S e,N a,C b]]:Rw)) r h))):
  al 249 [.aB 0 0,vN d,vN g,vS e] [.aH [vS f,vN a,vC b,O 4 c]] r h:=.of func249 aa6 H
def Zc(c:Int)(d:By)(a:Int)(e:Cx)(b:Rw)(H:∃f g,al 179 [.aB 0 0,vN c] [.aH [vS d,vN a,vC e,O 4 b]] [] [.aH [vS f,vN a,vC g,O 4 b]]/\Fi r h [] [.aH [vS f,vN a,vC g,O 4 b]]):
  tG c d a e b r h:=yx.of aa6 H
def afJ:bu:={an:=[(1,3,aa),(1,4,aa)]}
def afK(a:Int)(H:Fi r h [vB (bif(decide (a>=48))then(decide (a<=57))else false)] []):
  al 250 [vY a] [] r h:=.of func250 afJ H
abbrev zN(a:Int)(b:By)(c d e:Int)r h:=Lp f251 0 ⟨aO 57 [(4,vU a),(5,vS b),(7,vU c),(21,vN d),(22,vN e)],[],[]⟩ 0 r h
def aa7:bu:={an:=[(2,1,ah),(9,3,ah),(10,2,ah),(11,2,ah),(12,4,aa),(12,5,aa),(12,8,aa),(12,9,aa)],cut:=[(7,{bl:=[4,5,7,21,22]})]}
def afL(b:By)(H:WN 313 [vS b,vS [48,120]] [] fun a c=>aw c (zN 16 a 0 (a.length:Int) 0 r h)
 (zN 10 a 0 (a.length:Int) 0 r h)):
  al 251 [vS b] [] r h:=.of func251 aa7 H
def RH(c:Int)(b:By)(d e a:Int)(H:aw (decide (a<e)) ((0<=a/\a<(b.length:Int))/\Oy 314 [vY (UInt8.toNat (List.getD b (toNat a) 0):Int)] [] fun k=>∃f g,al 315 [vU d,vU c] [] [vU f,vU g] []/\∃i j,al 316 [vU g,vU k,vU 0] [] [vU i,vU j] []/\aw (bif(bif(decide (k>=c))then true else(f !=0))then true else(j !=0)) (Fi r h [vU 0,vB false] [])
 (au (a+1)/\zN c b i e (a+1) r h))
 (Fi r h [vU d,vB (!(b==[]))] [])):
  zN c b d e a r h:=.of aa7 H
def afM:bu:={mod:=[(4,10,[(0,[0,2,3])])]}
def afN(a:By)(c:Int)(d:Cx)(e:Rw)(H:(0<=(1:Int)/\(1:Int)<=(a.length:Int)/\(a.length:Int)<=(a.length:Int))/\kL 244 [vS (drop 1 (take a.length a)),.fn (.func 317) [] []] [] fun b=>au (b+1)/\aw ((b+1)==(a.length:Int)) (Fi r h [vB false] [.aH [vS a,vN c,vC d,O 4 e]]) (au (b+1)/\(0<=(b+1)/\(b+1)<(a.length:Int))/\aw ((UInt8.toNat (List.getD a (toNat (b+1)) 0):Int) !=34) (Fi r h [vB false] [.aH [vS a,vN c,vC d,O 4 e]])
 (au (b+2)/\au (b+1)/\(0<=(1:Int)/\(1:Int)<=(b+1)/\(b+1)<=(a.length:Int))/\∃f g i,al 249 [.aB 0 0,vN 4,vN (b+2),vS (drop 1 (take (toNat (b+1)) a))] [.aH [vS a,vN c,vC d,O 4 e]] [] [.aH [vS f,vN c,vC g,O 4 i]]/\Fi r h [vB true] [.aH [vS f,vN c,vC g,O 4 i]]))):
  al 252 [.aB 0 0] [.aH [vS a,vN c,vC d,O 4 e]] r h:=.of func252 afM H
def afO:bu:={an:=[(3,3,aa),(3,4,aa)],mod:=[(5,8,[(0,[0,2,3])])]}
def afP(a:By)(c:Int)(d:Cx)(e:Rw)(H:(0<=(1:Int)/\(1:Int)<=(a.length:Int)/\(a.length:Int)<=(a.length:Int))/\kL 244 [vS (drop 1 (take a.length a)),.fn (.func 248) [] []] [] fun b=>au ((1:Int)+b)/\(0<=(0:Int)/\(0:Int)<=((1:Int)+b)/\((1:Int)+b)<=(a.length:Int))/\aw (bif(!((drop 0 (take (toNat ((1:Int)+b)) a))==[35,105,110,99,108,117,100,101]))then(!((drop 0 (take (toNat ((1:Int)+b)) a))==[35,100,101,102,105,110,101]))else false) (Fi r h [vB false] [.aH [vS a,vN c,vC d,O 4 e]])
 ((0<=(0:Int)/\(0:Int)<=((1:Int)+b)/\((1:Int)+b)<=(a.length:Int))/\∃f g i,al 249 [.aB 0 0,vN 5,vN ((1:Int)+b),vS (drop 0 (take (toNat ((1:Int)+b)) a))] [.aH [vS a,vN c,vC d,O 4 e]] [] [.aH [vS f,vN c,vC g,O 4 i]]/\Fi r h [vB true] [.aH [vS f,vN c,vC g,O 4 i]])):
  al 253 [.aB 0 0] [.aH [vS a,vN c,vC d,O 4 e]] r h:=.of func253 afO H
def afQ:bu:={an:=[(1,7,ah),(3,2,ah)]}
def afR(a:By)(H:aw (decide ((a.length:Int)>1)) ((0<=(0:Int)/\(0:Int)<=2/\(2:Int)<=(a.length:Int))/\cc 203 [vL 1 [[S [38,38]],[S [124,124]],[S [61,61]],[S [33,61]],[S [60,61]],[S [62,61]]],vS (drop 0 (take 2 a))] [] fun b=>aw b (Fi r h [vN 2] [])
 ((0<=(0:Int)/\0<(a.length:Int))/\kL 318 [vS [123,125,40,41,44,33,38,124,60,62],vY (UInt8.toNat (List.getD a (toNat 0) 0):Int)] [] fun c=>aw (decide (c>=0)) (Fi r h [vN 1] [])
 (Fi r h [vN 0] []))) ((0<=(0:Int)/\0<(a.length:Int))/\kL 318 [vS [123,125,40,41,44,33,38,124,60,62],vY (UInt8.toNat (List.getD a (toNat 0) 0):Int)] [] fun d=>aw (decide (d>=0)) (Fi r h [vN 1] [])
 (Fi r h [vN 0] []))):
  al 254 [vS a] [] r h:=.of func254 afQ H
def afS:bu:={an:=[(1,1,ah),(3,3,aa),(3,4,aa),(5,3,aa),(5,4,aa)]}
def afT(a:Int)(H:cc 250 [vY a] [] fun b=>aw b (Fi r h [vU (wrap .u64 (wrap .u8 (a-48)))] [])
 (aw (bif(decide (a>=97))then(decide (a<=102))else false) (Fi r h [vU (wrap .u64 ((wrap .u64 (wrap .u8 (a-97)))+10))] [])
 (aw (bif(decide (a>=65))then(decide (a<=70))else false) (Fi r h [vU (wrap .u64 ((wrap .u64 (wrap .u8 (a-65)))+10))] [])
 (Fi r h [vU 16] [])))):
  al 314 [vY a] [] r h:=.of func314 afS H
def afU:bu:={an:=[(1,3,aa),(1,4,aa)]}
def afV(a:Int)(H:Fi r h [vB (bif(a !=34)then(a !=10)else false)] []):
  al 317 [vY a] [] r h:=.of func317 afU H
def RI(s:By)(l:List By)(d:l.length<=2^40):al 267 [vL 1 (aI l),vS s] [] [vN (idx (s == ·) l)] []:=
 aeF _ _ (eQ (Hd:=EW _ _ _) d fun i r h b c=>YK _ _ _ _ (eT (l:=l) (by simp[aI]) (fun x a=>⟨x,by omega,aQ a,b x a⟩) c))
def fW(s:By)(l:List By):Bool:=l.any (s == ·)
def Vq(s:By)(l:List By)(a:l.length<=2^40):al 203 [vL 1 (aI l),vS s] [] [vB (fW s l)] []:=
 aeD _ _ ⟨_,RI s l a,ai (by rw[mB];rfl) rfl⟩
def df(c:Int):Bool:=bif(bif(c==95)then true else(bif(decide (c>=97))then(decide (c<=122))else false))then true else(bif(decide (c>=65))then(decide (c<=90))else false)
def gD(c:Int):Bool:=bif(decide (c>=48))then(decide (c<=57))else false
def bN(c:Int):Bool:=bif df c then true else gD c
def gk(c:Int):Bool:=bif(bif(bif(c==32)then true else(c==9))then true else(c==10))then true else(c==13)
def Mq(c:Int):Bool:=c !=10
def oX(c:Int):Bool:=bif(c !=34)then(c !=10)else false
def Zd(c:Int):al 247 [vY c] [] [vB (df c)] []:=afF c fi
def Ze(c:Int):al 250 [vY c] [] [vB (gD c)] []:=afK c fi
def afW(c:Int):al 248 [vY c] [] [vB (bN c)] []:=
 afH c ⟨_,Zd c,ad (fun h=>ai (by rw[bN,h];rfl) rfl) fun h=>⟨_,Ze c,ai (by rw[bN,h];rfl) rfl⟩⟩
def afX(c:Int):al 246 [vY c] [] [vB (gk c)] []:=afD c fi
def afY(c:Int):al 245 [vY c] [] [vB (Mq c)] []:=afB c fi
def afZ(c:Int):al 317 [vY c] [] [vB (oX c)] []:=afV c fi
def runN(p:Int->Bool):By->Nat
 |[]=>0
 |c::t=>bif p c.toNat then runN p t+1 else 0
def mC(p:Int->Bool):∀s,runN p s<=s.length
 |[]=>ar _
 |c::t=>by
  have:=mC p t;unfold runN;cases p c.toNat<;>simp;omega
def byte_at{s:By}{i:Nat}(h:s[i]?=some c):(UInt8.toNat (List.getD s (toNat (i:Int)) 0):Int)=c.toNat:=by
 rw[toNat_cast,bW,h];rfl
def vh{Hd:Int->St}(s:By)(l:s.length<=2^40)(g:∀c:Int,al q [vY c] [] [vB (p c)] [])(step:∀(n:Int)(r:List AV)(h:List Bx),aw (decide (n<(s.length:Int))) ((0<=n/\n<(s.length:Int))/\∃b,al q [vY (UInt8.toNat (List.getD s (toNat n) 0):Int)] [] [vB b] []/\aw b (au (n+1)/\mI fn d (Hd (n+1)) 0 r h) (Fi r h [vN n] [])) (Fi r h [vN n] [])->mI fn d (Hd n) 0 r h):
  mI fn d (Hd 0) 0 [vN (runN p s)] []:=by
 have key:∀(t:By)(i:Nat),s.drop i=t->mI fn d (Hd i) 0 [vN ((i+runN p t:Nat):Int)] []:=by
  intro t;induction t with
  |nil=>intro i a;exact step _ _ _ (aP rfl a (ai (by simp[runN]) rfl))
  |cons c t j=>
   intro i a;obtain⟨e,f,k⟩:=drop_cons a;refine step _ _ _ (aK rfl a ⟨⟨by omega,by omega⟩,_,g _,?_⟩)
   rw[byte_at e];unfold runN;refine ad (fun h=>⟨aC,?_⟩) fun h=>ai (by rw[h];simp) rfl
   rw[h];have:=j (i+1) f;rw[show i+1+runN p t=i+(runN p t+1) by omega]at this
   exact this
 have:=key s 0 rfl;rw[cy]at this;exact this
def RJ(s:By)(a:s.length<=2^40):al 244 [vS s,.fn (.func 245) [] []] [] [vN (runN Mq s)] []:=RD s (vh (Hd:=p7 s) s a afY fun n r h H=>KW s n H)
def RL(s:By)(a:s.length<=2^40):al 244 [vS s,.fn (.func 246) [] []] [] [vN (runN gk s)] []:=RE s (vh (Hd:=p8 s) s a afX fun n r h H=>KX s n H)
def vi(s:By)(a:s.length<=2^40):al 244 [vS s,.fn (.func 248) [] []] [] [vN (runN bN s)] []:=RF s (vh (Hd:=p9 s) s a afW fun n r h H=>KY s n H)
def RM(s:By)(a:s.length<=2^40):al 244 [vS s,.fn (.func 317) [] []] [] [vN (runN oX s)] []:=RG s (vh (Hd:=qa s) s a afZ fun n r h H=>KZ s n H)
def mh(s:By):Bool:=bif s==[]then false else bif df (UInt8.toNat (s.getD 0 0):Int)then((runN bN s:Int)==(s.length:Int))else false
def af0(s:By)(c:s.length<=2^40):al 202 [vS s] [] [vB (mh s)] []:=by
 refine afz s (ad (fun h=>?_) fun h=>ai (by rw[mh];simp at h;simp[h]) rfl)
 have b:(s==[])=false:=by simpa using h
 have d:0<s.length:=by cases s with|nil=>simp at h|cons=>simp
 refine⟨⟨by omega,by omega⟩,_,Zd _,ad (fun a=>⟨_,vi s c,ai ?_ rfl⟩) fun a=>ai ?_ rfl⟩
 .rw[mh,b,show toNat 0=0 from rfl]at*; rw[show df (UInt8.toNat (s.getD 0 0):Int)=true from a];rfl
 .rw[mh,b,show toNat 0=0 from rfl]at*; rw[show df (UInt8.toNat (s.getD 0 0):Int)=false from a];rfl
def eK(c:Int):Int:=bif gD c then wrap .u64 (wrap .u8 (c-48))else
 bif(bif(decide (c>=97))then(decide (c<=102))else false)then wrap .u64 ((wrap .u64 (wrap .u8 (c-97)))+10)else
 bif(bif(decide (c>=65))then(decide (c<=70))else false)then wrap .u64 ((wrap .u64 (wrap .u8 (c-65)))+10)else 16
def af1(c:Int):al 314 [vY c] [] [vU (eK c)] []:=by
 refine afT c ⟨_,Ze c,ad (fun h=>ai (by rw[eK,h];rfl) rfl) fun h=>ad (fun a=>ai (by rw[eK,h,a];rfl) rfl) fun a=>ad (fun b=>ai (by rw[eK,h,a,b];rfl) rfl) fun b=>ai (by rw[eK,h,a,b];rfl) rfl⟩
def zO{k:IntKind}(a:k.signed=false)(n:Int):0<=k.wrap n/\k.wrap n<2^k.bits:=by
 have b:(0:Int)<2^k.bits:=oH (by decide)
 unfold wrap;simp only[a];exact⟨mT _ (by omega),pq _ b⟩
def Fa(c:Int):0<=eK c/\eK c<18446744073709551616:=by
 have a:∀n,0<=wrap .u64 n/\wrap .u64 n<18446744073709551616:=fun n=>zO rfl n
 unfold eK;cases gD c<;>simp only[aj,af]
 .cases(bif(decide (c>=97))then(decide (c<=102))else false)<;>simp only[aj,af]
  .cases(bif(decide (c>=65))then(decide (c<=70))else false)<;>simp only[aj,af]
   .omega
   .exact a _
  .exact a _
 .exact a _
def oY(a:Int):By->Int->Option Int
 |[],n=>some n
 |c::t,n=>bif(bif decide (eK c.toNat>=a)then true else decide (n*a+eK c.toNat>=18446744073709551616))then none else oY a t (n*a+eK c.toNat)
def oZ(s:By):Int×Bool:=
 let a:=List.isPrefixOf [48,120] s
 let b:=bif a then s.drop 2 else s
 match oY (bif a then 16 else 10) b 0 with
 |none=>(0,false)
 |some n=>(n,!(b==[]))
def Zf(a:Int)(p:a=16\/a=10)(s:By)(u:s.length<=2^40):∀(t:By)(i:Nat)(n:Int),s.drop i=t->0<=n/\n<18446744073709551616 ->
  zN a s n (s.length:Int) i (match oY a t n with|none=>[vU 0,vB false]|some m=>[vU m,vB (!(s==[]))]) []
 |[],i,n,h,d=>RH _ _ _ _ _ (aP rfl h fi)
 |c::t,i,n,h,d=>by
  obtain⟨k,l,y⟩:=drop_cons h;have w:=Fa c.toNat;have q:0<=n*a%18446744073709551616/\n*a%18446744073709551616<18446744073709551616:=⟨mT _ (by decide),pq _ (by decide)⟩
  have z:0<=n*a:=uq d.1 (by omega)
  refine RH _ _ _ _ _ (aK rfl h ⟨⟨by omega,by omega⟩,_,by rw[byte_at k];exact af1 _,_,_,aen _ _ d (by omega),_,_,aeo _ _ q w,?_⟩)
  have e:(bif(bif(decide (eK c.toNat>=a))then true else(n*a/18446744073709551616 !=0))then true else((n*a%18446744073709551616+eK c.toNat)/18446744073709551616 !=0))=(bif decide (eK c.toNat>=a)then true else decide (n*a+eK c.toNat>=18446744073709551616)):=by
   cases decide (eK c.toNat>=a)with
   |true=>rfl
   |false=>
    simp only[af];generalize n*a=x at*;generalize eK c.toNat=v at*;by_cases f:x/18446744073709551616=0
    .rw[f]
     simp only[bne_self_eq_false,af];by_cases g:(x%18446744073709551616+v)/18446744073709551616=0
     .rw[g,bV (by omega)];rfl
     .rw[bE (by omega)];simpa using g
    .rw[bE (by omega)]
     have:(x/18446744073709551616 !=0)=true:=by simpa using f
     rw[this];rfl
  rw[e];unfold oY;refine ad (fun b=>ai (by rw[b];rfl) rfl) fun b=>⟨aC,?_⟩
  rw[b];have o:n*a+eK c.toNat<18446744073709551616:=by
   have:decide (n*a+eK c.toNat>=18446744073709551616)=false:=by
    revert b
    cases decide (eK c.toNat>=a)<;>simp
   have:=bI this;omega
  have j:(n*a%18446744073709551616+eK c.toNat)%18446744073709551616=n*a+eK c.toNat:=by
   generalize n*a=x at*;omega
  rw[j];exact Zf a p s u t (i+1) _ l ⟨by omega,o⟩
def Zg(s:By)(a:s.length<=2^40):al 251 [vS s] [] [vU (oZ s).1,vB (oZ s).2] []:=by
 refine afL s ⟨_,_,aej s [48,120],ad (fun h=>?_) fun h=>?_⟩
 .have:=Zf 16 (.inl rfl) (s.drop 2) (by simp;omega) _ 0 0 rfl (by omega)
  simp only[oZ,h,aj]at this⊢;simp only[gh]at this;split at this<;>exact this
 .have:=Zf 10 (.inr rfl) s a _ 0 0 rfl (by omega)
  simp only[oZ,h,af]at this⊢;simp only[gh]at this;split at this<;>exact this
def rJ(c:UInt8):∀s,-1<=jU c s/\jU c s<s.length
 |[]=>by simp[jU]
 |d::t=>by
  have:=rJ c t;unfold jU;simp only[aE];cases h:decide (jU c t>=0)<;>simp only[aj,af]
  .cases d==c<;>simp only[aj,af]<;>omega
  .omega
def aa8(p:Cx)(s:By)(a:s.length<=2^40):al 101 [vC p,vS s] [] [vC none] []:=by
 have:=rJ 10 s;exact afq p s ⟨_,ael s 10 a,ad (fun _=>fi) fun _=>⟨_,aaR s 10 a,aC,fi⟩⟩
def C78(s:By)(b:s.length<=2^40):al 78 [vS s,vN s.length] [] [vC none] []:=by
 have a:(if(if(s.length:Int)<(s.length:Int)then(s.length:Int)else s.length)>0 then(if(s.length:Int)<(s.length:Int)then(s.length:Int)else s.length)else 0)=(s.length:Int):=by
  simp only[Int.lt_irrefl,if_false];split<;>omega
 refine W78 s _ ?_;rw[a];exact⟨⟨by omega,by omega,by omega⟩,_,aa8 _ _ (by simp;omega),fi⟩
abbrev rd(s:By)(c:Int)(a:Cx)(b:List Tok):Bx:=.aH [vS s,vN c,vC a,O 4 (b.map Tok.row)]
def aa9(s:By)(a:Int)(b:Cx)(c:List Tok)(n:Nat)(d:n<=s.length)(e:s.length<=2^40):al 179 [.aB 0 0,vN n] [rd s a b c] [] [rd (s.drop n) a none c]:=by
 refine afv s a b _ n ⟨⟨by omega,by omega,by omega⟩,_,aa8 _ _ (by simp;omega),⟨by omega,by omega,by omega⟩,ai rfl ?_⟩
 simp[dH]
def RN(s:By)(a:Int)(b:Cx)(c:List Tok)(kind:Int)(n:Nat)(d:By)(f:n<=s.length)(g:s.length<=2^40)(i:c.length<=2^40):
  al 249 [.aB 0 0,vN kind,vN n,vS d] [rd s a b c] [] [rd (s.drop n) a none (c++[⟨kind,d,a,b⟩])]:=by
 have e:(c.map Tok.row++([[N kind,S d,N a,C b]]:Rw))=(c++[(⟨kind,d,a,b⟩:Tok)]).map Tok.row:=by simp[Tok.row]
 have key:(c.map Tok.row++([[N kind,S d,N a,C b]]:Rw)).length*48<=2^47/\tG n s a b (c.map Tok.row++([[N kind,S d,N a,C b]]:Rw)) [] [rd (s.drop n) a none (c++[⟨kind,d,a,b⟩])]:=by
  refine⟨by simp;omega,?_⟩
  rw[e];exact Zc _ _ _ _ _ ⟨_,_,aa9 s a b _ n f g,fi⟩
 exact afI s a b _ kind n d ⟨key,⟨key,key⟩,key,key⟩
def dZ(s:By):Int×Bool:=
 bif List.isPrefixOf [47,47] s then((runN Mq s:Int),true)else
 bif List.isPrefixOf [47,42] s then(jg [42,47] (s.drop 2)+2+2,decide (jg [42,47] (s.drop 2)>=0))else
 ((runN gk s:Int),true)
def qb(p:By):∀s,-1<=jg p s/\jg p s<=s.length/\(0<=jg p s->jg p s+p.length<=s.length)
 |[]=>by
  unfold jg;cases p<;>simp
 |c::t=>by
  have:=qb p t;unfold jg;simp only[aE];cases h:p.isPrefixOf (c::t)<;>simp only[aj,af]
  .cases h:decide (jg p t<0)<;>simp only[aj,af]
   .have:=bI h;omega
   .omega
  .have:p.length<=(c::t).length:=D8 (Ec.1 h)
   simp at this;omega
def af2(s:By)(c:Int)(b:Cx)(f:List Tok)(j:s.length<=2^31):al 178 [.aB 0 0] [rd s c b f] [vN (dZ s).1,vB (dZ s).2] [rd s c b f]:=by
 have d:s.length<=2^40:=by omega
 refine aft s c b _ ⟨_,YF _ _,ad (fun h=>⟨_,RJ s d,ai (by rw[dZ,h];rfl) rfl⟩) fun h=>⟨_,YF _ _,ad (fun a=>?_) fun a=>⟨_,RL s d,ai (by rw[dZ,h,a];rfl) rfl⟩⟩⟩
 have i:2<=s.length:=by simpa using D8 (Ec.1 a)
 have e:drop 2 (take s.length s)=s.drop 2:=by rw[dH (ar _)]
 rw[e];have:=qb [42,47] (s.drop 2);have g:(s.drop 2).length<=2^31:=by simp;omega
 exact⟨⟨by omega,by omega,by omega⟩,_,aem _ _ g (by decide),aC,aC,ai (by rw[dZ,h,a];rfl) rfl⟩
def OG(s:By)(h:(dZ s).2=true):0<=(dZ s).1/\(dZ s).1<=s.length:=by
 unfold dZ at h⊢;revert h
 cases h1:List.isPrefixOf [47,47] s<;>simp only[aj,af]
 .cases h2:List.isPrefixOf [47,42] s<;>simp only[aj,af]
  .intro _;have:=mC gk s;omega
  .intro h
   have h:=aV h;have:=(qb [42,47] (s.drop 2)).2.2 h;have a:2<=s.length:=by simpa using D8 (Ec.1 h2)
   simp at this;omega
 .intro _;have:=mC Mq s;omega
def k9:List By:=[[38,38],[124,124],[61,61],[33,61],[60,61],[62,61]]
def rK:By:=[123,125,40,41,44,33,38,124,60,62]
def jV(s:By):Nat:=bif(bif decide ((s.length:Int)>1)then fW (s.take 2) k9 else false)then 2 else bif decide (indexB (UInt8.toNat (s.getD 0 0):Int) rK>=0)then 1 else 0
def af3(s:By)(b:0<s.length):al 254 [vS s] [] [vN (jV s)] []:=by
 have one:(0<=(0:Int)/\0<(s.length:Int))/\∃i,al 318 [vS [123,125,40,41,44,33,38,124,60,62],vY (UInt8.toNat (List.getD s (toNat 0) 0):Int)] [] [vN i] []/\aw (decide (i>=0)) (Fi [vN (bif decide (indexB (UInt8.toNat (s.getD 0 0):Int) rK>=0)then(1:Nat)else 0:Nat)] [] [vN 1] []) (Fi [vN (bif decide (indexB (UInt8.toNat (s.getD 0 0):Int) rK>=0)then(1:Nat)else 0:Nat)] [] [vN 0] []):=
  ⟨⟨by omega,by omega⟩,_,aek _ _ (by decide),ad (fun h=>ai (by rw[show decide (indexB (UInt8.toNat (s.getD 0 0):Int) rK>=0)=true from h];rfl) rfl) fun h=>ai (by rw[show decide (indexB (UInt8.toNat (s.getD 0 0):Int) rK>=0)=false from h];rfl) rfl⟩
 refine afR s (ad (fun h=>?_) fun h=>?_)
 .have c:=aV h
  refine⟨⟨by omega,by omega,by omega⟩,_,Vq (drop 0 (take 2 s)) k9 (by decide),ad (fun a=>?_) fun a=>?_⟩
  .exact ai (by rw[jV,h,show fW (s.take 2) k9=true from a];rfl) rfl
  .rw[jV,h,show fW (s.take 2) k9=false from a]
   exact one
 .rw[jV,h]
  exact one
def HP(s:By)(a:0<s.length):jV s<=s.length:=by
 unfold jV;cases h:decide ((s.length:Int)>1)with
 |true=>
  have:=aV h;cases fW (s.take 2) k9<;>simp only[aj,af]
  .cases decide (indexB (UInt8.toNat (s.getD 0 0):Int) rK>=0)<;>simp only[aj,af]<;>omega
  .omega
 |false=>cases decide (indexB (UInt8.toNat (s.getD 0 0):Int) rK>=0)<;>simp only[aj,af]<;>omega
def o0(s:By):Option Nat:=
 bif(bif((runN oX (s.drop 1):Int)+1==(s.length:Int))then true else((UInt8.toNat (s.getD (runN oX (s.drop 1)+1) 0):Int) !=34))then none else some (runN oX (s.drop 1))
def jq:By:=[35,105,110,99,108,117,100,101]
def bS:By:=[35,100,101,102,105,110,101]
def qz(s:By):Option Nat:=
 bif(bif(!((s.take (1+runN bN (s.drop 1)))==jq))then(!((s.take (1+runN bN (s.drop 1)))==bS))else false)then none else some (1+runN bN (s.drop 1))
def Mr(s:By)(a:0<s.length):drop 1 (take s.length s)=s.drop 1/\(s.drop 1).length+1=s.length:=by
 rw[dH (ar _)];simp;omega
def af4(s:By)(a:Int)(b:Cx)(c:List Tok)(f:0<s.length)(j:s.length<=2^40)(g:c.length<=2^40):
  al 252 [.aB 0 0] [rd s a b c] [vB (o0 s).isSome] [match o0 s with|none=>rd s a b c|some m=>rd (s.drop (m+2)) a none (c++[⟨4,(s.take (m+1)).drop 1,a,b⟩])]:=by
 obtain⟨e,k⟩:=Mr s f;have l:=mC oX (s.drop 1);refine afN s a b _ ⟨⟨by omega,by omega,by omega⟩,_,by rw[e];exact RM _ (by omega),aC,ad (fun h=>?_) fun h=>⟨aC,⟨by omega,?_⟩,ad (fun d=>?_) fun d=>?_⟩⟩
 .have:o0 s=none:=by unfold o0;simp only[h,aj]
  rw[this];exact fi
 .have:=gJ h
  omega
 .have:o0 s=none:=by
   unfold o0;simp only[h,af];rw[show((UInt8.toNat (s.getD (runN oX (s.drop 1)+1) 0):Int) !=34)=true from d]
   rfl
  rw[this];exact fi
 .have i:o0 s=some (runN oX (s.drop 1)):=by
   unfold o0;simp only[h,af];rw[show((UInt8.toNat (s.getD (runN oX (s.drop 1)+1) 0):Int) !=34)=false from d]
   rfl
  have n:=gJ h;rw[i];exact⟨aC,aC,⟨by omega,by omega,by omega⟩,_,_,_,RN s a b c 4 (runN oX (s.drop 1)+2) _ (by omega) j g,fi⟩
def af5(s:By)(a:Int)(b:Cx)(c:List Tok)(f:0<s.length)(i:s.length<=2^40)(g:c.length<=2^40):
  al 253 [.aB 0 0] [rd s a b c] [vB (qz s).isSome] [match qz s with|none=>rd s a b c|some n=>rd (s.drop n) a none (c++[⟨5,s.take n,a,b⟩])]:=by
 obtain⟨d,j⟩:=Mr s f;have k:=mC bN (s.drop 1);have e:((1:Int)+(runN bN (s.drop 1):Int))=((1+runN bN (s.drop 1):Nat):Int):=by omega
 refine afP s a b _ ⟨⟨by omega,by omega,by omega⟩,_,by rw[d];exact vi _ (by omega),aC,⟨by omega,by omega,by omega⟩,?_⟩
 rw[e];simp only[toNat_cast,gh];refine ad (fun h=>?_) fun h=>?_
 .have:qz s=none:=by unfold qz;rw[show(bif(!((s.take (1+runN bN (s.drop 1)))==jq))then(!((s.take (1+runN bN (s.drop 1)))==bS))else false)=true from h];rfl
  rw[this];exact fi
 .have:qz s=some (1+runN bN (s.drop 1)):=by unfold qz;rw[show(bif(!((s.take (1+runN bN (s.drop 1)))==jq))then(!((s.take (1+runN bN (s.drop 1)))==bS))else false)=false from h];rfl
  rw[this];exact⟨⟨by omega,by omega,by omega⟩,_,_,_,RN s a b c 5 _ _ (by omega) i g,fi⟩
def jK(s:By):Option (Int×Nat×By):=
 bif df (UInt8.toNat (s.getD 0 0):Int)then some (1,runN bN s,s.take (runN bN s))else
 bif gD (UInt8.toNat (s.getD 0 0):Int)then(bif !(oZ (s.take (runN bN s))).2 then none else some (2,runN bN s,s.take (runN bN s)))else
 bif((UInt8.toNat (s.getD 0 0):Int)==34)then(o0 s).map fun m=>(4,m+2,(s.take (m+1)).drop 1)else
 bif((UInt8.toNat (s.getD 0 0):Int)==35)then(qz s).map fun n=>(5,n,s.take n)else
 bif decide ((jV s:Int)>0)then some (3,jV s,s.take (jV s))else none
def af6(s:By)(a:Int)(d:Cx)(f:List Tok)(o:0<s.length)(i:s.length<=2^40)(l:f.length<=2^40):
  al 180 [.aB 0 0] [rd s a d f] [vB (jK s).isSome] [match jK s with|none=>rd s a d f|some (k,n,t)=>rd (s.drop n) a none (f++[⟨k,t,a,d⟩])]:=by
 have q:=mC bN s;have u:=HP s o;refine afx s a d _ ⟨⟨by omega,by omega⟩,_,Zd _,ad (fun h=>?_) fun h=>⟨_,Ze _,ad (fun g=>?_) fun g=>ad (fun b=>?_) fun b=>ad (fun p=>?_) fun p=>?_⟩⟩<;>rw[show toNat 0=0 from rfl]at*
 .have:jK s=some (1,runN bN s,s.take (runN bN s)):=by unfold jK;rw[h];rfl
  rw[this];exact⟨_,vi s i,⟨by omega,by omega,by omega⟩,_,_,_,RN s a d f 1 _ _ q i l,fi⟩
 .refine⟨_,vi s i,⟨by omega,by omega,by omega⟩,_,_,Zg _ (by simp;omega),ad (fun b=>?_) fun b=>?_⟩
  .have:jK s=none:=by unfold jK;rw[h,g,show(!(oZ (s.take (runN bN s))).2)=true from b];rfl
   rw[this];exact fi
  .have:jK s=some (2,runN bN s,s.take (runN bN s)):=by unfold jK;rw[h,g,show(!(oZ (s.take (runN bN s))).2)=false from b];rfl
   rw[this];exact⟨⟨by omega,by omega,by omega⟩,_,_,_,RN s a d f 2 _ _ q i l,fi⟩
 .have e:jK s=(o0 s).map fun m=>(4,m+2,(s.take (m+1)).drop 1):=by unfold jK;rw[h,g,b];rfl
  have c:=af4 s a d f o i l;rw[e];cases hq:o0 s<;>rw[hq]at c<;>exact⟨_,_,_,_,c,fi⟩
 .have e:jK s=(qz s).map fun n=>(5,n,s.take n):=by unfold jK;rw[h,g,b,p];rfl
  have c:=af5 s a d f o i l;rw[e];cases hq:qz s<;>rw[hq]at c<;>exact⟨_,_,_,_,c,fi⟩
 .refine⟨_,af3 s o,ad (fun j=>?_) fun j=>?_⟩
  .have:jK s=some (3,jV s,s.take (jV s)):=by unfold jK;rw[h,g,b,p,j];rfl
   rw[this];exact⟨⟨by omega,by omega,by omega⟩,_,_,_,RN s a d f 3 _ _ u i l,ai (by rw[j];rfl) rfl⟩
  .have:jK s=none:=by unfold jK;rw[h,g,b,p,j];rfl
   rw[this];exact ai (by rw[j];rfl) rfl
def HQ(a:0<s.length)(h:p (UInt8.toNat (s.getD 0 0):Int)=true):0<runN p s:=by
 cases s with
 |nil=>simp at a
 |cons c t=>
  have h:p c.toNat=true:=h;unfold runN;rw[h];exact Nat.succ_pos _
def RO(a:0<s.length)(h:o0 s=some m):m+2<=s.length:=by
 unfold o0 at h;have d:=mC oX (s.drop 1);obtain⟨b,c⟩:=Mr s a;cases h1:((runN oX (s.drop 1):Int)+1==(s.length:Int))<;>rw[h1]at h<;>simp only[aj,af]at h
 .have:=gJ h1
  cases h2:((UInt8.toNat (s.getD (runN oX (s.drop 1)+1) 0):Int) !=34)<;>rw[h2]at h<;>simp only[aj,af]at h
  .obtain rfl:=ax h;omega
  .simp at h
 .simp at h
def Fb(b:0<s.length)(h:jK s=some (k,n,t)):0<n/\n<=s.length:=by
 have g:=mC bN s;have i:=HP s b;have inner:∀c,df c=true\/gD c=true->bN c=true:=by
  intro c h;unfold bN;cases hl:df c with
  |true=>rfl
  |false=>rcases h with h|h;rw[hl]at h;simp at h;exact h
 unfold jK at h;cases h1:df (UInt8.toNat (s.getD 0 0):Int)<;>rw[h1]at h<;>simp only[aj,af]at h
 .cases h2:gD (UInt8.toNat (s.getD 0 0):Int)<;>rw[h2]at h<;>simp only[aj,af]at h
  .cases h3:((UInt8.toNat (s.getD 0 0):Int)==34)<;>rw[h3]at h<;>simp only[aj,af]at h
   .cases h4:((UInt8.toNat (s.getD 0 0):Int)==35)<;>rw[h4]at h<;>simp only[aj,af]at h
    .cases h5:decide ((jV s:Int)>0)<;>rw[h5]at h<;>simp only[aj,af]at h
     .simp at h
     .have:=aV h5
      simp only[ay,az]at h;omega
    .obtain⟨m,a,e⟩:=bc.1 h
     simp only[az]at e;unfold qz at a;obtain⟨d,f⟩:=Mr s b;have:=mC bN (s.drop 1);cases h6:(bif(!((s.take (1+runN bN (s.drop 1)))==jq))then(!((s.take (1+runN bN (s.drop 1)))==bS))else false)<;>rw[h6]at a<;>simp only[aj,af]at a
     .simp only[ay]at a;omega
     .simp at a
   .obtain⟨m,a,e⟩:=bc.1 h
    simp only[az]at e;have:=RO b a;omega
  .have:=HQ b (inner _ (.inr h2))
   cases h3:(!(oZ (s.take (runN bN s))).2)<;>rw[h3]at h<;>simp only[aj,af]at h
   .simp only[ay,az]at h;omega
   .simp at h
 .have:=HQ b (inner _ (.inl h1))
  simp only[ay,az]at h;omega
def dg(c:Int):Nat->By->Cx->List Tok->Except Cx (List Tok)
 |0,_,_,a=>.ok a
 |f+1,s,b,a=>bif s==[]then .ok a else
  bif(bif(dZ s).2 then decide ((dZ s).1>0)else false)then dg c f (s.drop (dZ s).1.toNat) none a else
  bif !(dZ s).2 then .error b else
  match jK s with
  |none=>.error b
  |some (k,n,t)=>dg c f (s.drop n) none (a++[⟨k,t,c,b⟩])
abbrev xA:Cx:=some (4607182418800017408,4607182418800017408)
abbrev Fc:Cx:=some (0,0)
def jL(s:By)(a:Int):Except (Int×Cx) (List Tok):=
 bif decide ((s.length:Int)>20000)then .error (9,xA)else
 match dg a (s.length+1) s xA []with
 |.ok l=>.ok l
 |.error c=>.error (3,c)
def RP(a:Int):Except (Int×Cx) (List Tok)->List AV
 |.ok l=>[vL 4 (l.map Tok.row),.agg [N 0,N 0,C Fc]]
 |.error (e,c)=>[vL 4 [],.agg [N e,N a,C c]]
def Zh(a c p:Int)(q:Cx):∀(f:Nat)(s:By)(d:Cx)(b:List Tok),s.length<f->b.length+s.length<=2^31 ->
  zM a c p q s a d (b.map Tok.row) (RP a (match dg a f s d b with|.ok l=>.ok l|.error c=>.error (3,c))) []
 |0,s,d,b,w,y=>by omega
 |f+1,s,d,b,w,y=>by
  refine Zb _ _ _ _ _ _ _ _ (ad (fun h=>?_) fun h=>?_)
  .have m:(s==[])=false:=by simpa using h
   have v:0<s.length:=by cases s with|nil=>simp at h|cons=>simp
   refine⟨_,_,af2 s a d b (by omega),ad (fun i=>?_) fun i=>ad (fun j=>?_) fun j=>?_⟩
   .have u:(dZ s).2=true:=by revert i;cases(dZ s).2<;>simp
    rw[u]at i;have G:=aV (show decide ((dZ s).1>0)=true from i)
    have E:=OG s u;have e:(dZ s).1=(((dZ s).1.toNat:Nat):Int):=by omega
    have g:dg a (f+1) s d b=dg a f (s.drop (dZ s).1.toNat) none b:=by
     conv=>lhs;unfold dg
     rw[m,u,show decide ((dZ s).1>0)=true from i];rfl
    rw[g,e];exact⟨_,_,aa9 s a d b _ (by omega) (by omega),Zh a c p q f _ _ _ (by simp;omega) (by simp;omega)⟩
   .have g:dg a (f+1) s d b = .error d:=by
     conv=>lhs;unfold dg
     rw[m,i,j];rfl
    rw[g];exact fi
   .have o:=af6 s a d b v (by omega) (by omega)
    cases hq:jK s with
    |none=>
     rw[hq]at o;have g:dg a (f+1) s d b = .error d:=by
      conv=>lhs;unfold dg
      rw[m,i,j,hq];rfl
     rw[g];exact⟨_,_,_,_,o,fi⟩
    |some x=>
     obtain⟨k,n,t⟩:=x;rw[hq]at o;obtain⟨r,D⟩:=Fb v hq;have g:dg a (f+1) s d b=dg a f (s.drop n) none (b++[⟨k,t,a,d⟩]):=by
      conv=>lhs;unfold dg
      rw[m,i,j,hq];rfl
     rw[g];exact⟨_,_,_,_,o,Zh a c p q f _ _ _ (by simp;omega) (by simp;omega)⟩
  .have z:s=[]:=by simpa using h
   subst z;have g:dg a (f+1) [] d b = .ok b:=by unfold dg;rfl
   rw[g];exact fi
def af7(s:By)(a:Int)(b:s.length<=2^40):al 129 [vS s,vN a] [] (RP a (jL s a)) []:=by
 refine afr s a (ad (fun h=>?_) fun h=>?_)
 .have:jL s a = .error (9,xA):=by unfold jL;rw[h];rfl
  rw[this];exact fi
 .have:jL s a=(match dg a (s.length+1) s xA []with|.ok l=>.ok l|.error c=>.error (3,c)):=by unfold jL;rw[h];rfl
  rw[this];exact Zh a 0 0 (some (0,0)) (s.length+1) s xA [] (by omega) (by have:=bI h;simp;omega)
def rL(c:Int):∀(f:Nat)(s:By)(b:Cx)(a l:List Tok),dg c f s b a = .ok l->l.length<=a.length+s.length
 |0,s,b,a,l,h=>by unfold dg at h;cases h;omega
 |f+1,s,b,a,l,h=>by
  unfold dg at h;cases h1:(s==[])<;>rw[h1]at h<;>simp only[aj,af]at h
  .have d:0<s.length:=by cases s with|nil=>simp at h1|cons=>simp
   cases h2:(bif(dZ s).2 then decide ((dZ s).1>0)else false)<;>rw[h2]at h<;>simp only[aj,af]at h
   .cases h3:(!(dZ s).2)<;>rw[h3]at h<;>simp only[aj,af]at h
    .cases hq:jK s with
     |none=>rw[hq]at h;simp at h
     |some x=>
      obtain⟨k,n,t⟩:=x;rw[hq]at h;have:=rL c f _ _ _ l h;have:=Fb d hq;simp at*;omega
    .simp at h
   .have:=rL c f _ _ _ l h
    simp at this;omega
  .cases h;omega
def zP(h:jL s c = .ok l):l.length<=20000:=by
 unfold jL at h;cases a:decide ((s.length:Int)>20000)<;>rw[a]at h<;>simp only[aj,af]at h
 .have a:=bI a
  split at h
  .rename_i d b
   cases h;have:=rL _ _ _ _ _ _ b;simp at this;omega
  .simp at h
 .simp at h
def OH(h:jK s=some (k,n,t)):t.length<=s.length:=by
 unfold jK at h;have tk:∀n,(s.take n).length<=s.length:=fun n=>by simp;omega
 revert h
 cases df (UInt8.toNat (s.getD 0 0):Int)<;>simp only[aj,af]
 .cases gD (UInt8.toNat (s.getD 0 0):Int)<;>simp only[aj,af]
  .cases((UInt8.toNat (s.getD 0 0):Int)==34)<;>simp only[aj,af]
   .cases((UInt8.toNat (s.getD 0 0):Int)==35)<;>simp only[aj,af]
    .cases decide ((jV s:Int)>0)<;>simp only[aj,af]
     .intro h;simp at h
     .intro h;simp only[ay,az]at h;rw[<-h.2.2];exact tk _
    .intro h
     obtain⟨m,-,e⟩:=bc.1 h;simp only[az]at e;rw[<-e.2.2];exact tk _
   .intro h
    obtain⟨m,-,e⟩:=bc.1 h;simp only[az]at e;rw[<-e.2.2];have:=tk (m+1);simp only[iv];omega
  .cases(!(oZ (s.take (runN bN s))).2)<;>simp only[aj,af]
   .intro h;simp only[ay,az]at h;rw[<-h.2.2];exact tk _
   .intro h;simp at h
 .intro h;simp only[ay,az]at h;rw[<-h.2.2];exact tk _
def qc(e:Int)(B:Nat):∀(f:Nat)(s:By)(d:Cx)(c l:List Tok),dg e f s d c = .ok l->s.length<=B->(∀t∈c,t.text.length<=B)->∀t∈l,t.text.length<=B
 |0,s,d,c,l,h,i,b=>by unfold dg at h;cases h;exact b
 |f+1,s,d,c,l,h,i,b=>by
  unfold dg at h;have g:∀n,(s.drop n).length<=B:=fun n=>by simp;omega
  cases h1:(s==[])<;>rw[h1]at h<;>simp only[aj,af]at h
  .cases h2:(bif(dZ s).2 then decide ((dZ s).1>0)else false)<;>rw[h2]at h<;>simp only[aj,af]at h
   .cases h3:(!(dZ s).2)<;>rw[h3]at h<;>simp only[aj,af]at h
    .cases hq:jK s with
     |none=>rw[hq]at h;simp at h
     |some x=>
      obtain⟨k,n,t⟩:=x;rw[hq]at h;refine qc e B f _ _ _ l h (g _) fun u a=>?_
      rcases bn.1 a with a|a
      .exact b u a
      .simp at a;subst a
       have:=OH hq;show t.length<=B
       omega
    .simp at h
   .exact qc e B f _ _ _ l h (g _) b
  .cases h;exact b
def xB(h:jL s c = .ok l):∀t∈l,t.text.length<=20000:=by
 unfold jL at h;cases a:decide ((s.length:Int)>20000)<;>rw[a]at h<;>simp only[aj,af]at h
 .have a:=bI a
  split at h
  .rename_i d b
   cases h;exact qc _ 20000 _ _ _ _ _ b (by omega) (by simp)
  .simp at h
 .simp at h
def A76:bu:={an:=[(1,1,ah)]}
def W76(b:Rw)(c:By)(H:WN 94 [vS c] [] fun d e=>aw (!e) (Fi r h [vN 0,vB false] [])
 (kL 95 [vL 2 b,.fn (.func 96) [] [.aB 0 0]] [.aH [vS d]] fun a=>Fi r h [vN (if a>0 then a else 0),vB (decide (a>=0))] [])):
  al 76 [vL 2 b,vS c] [] r h:=.of func76 A76 H
abbrev CF(a:Rw)(b c:Int)(d:Rw)r h:=Lp f94 0 ⟨aO 43 [(4,.bA 0),(8,vL 1 a),(9,vN b),(10,vN c)],[],[.bk 1 d]⟩ 0 r h
def A94:bu:={an:=[(2,1,ah),(4,1,ah),(5,2,aY),(5,4,aY),(6,3,aa),(6,4,aa),(8,3,aY),(9,1,aY),(12,1,{uH:=true}),(12,3,aY)],cut:=[(3,{bl:=[4,8,9,10],iQ:=[(4,1)]})]}
def W94(a:By)(H:Hn 131 [vS a,vS [47]] [] fun b=>CF b (b.length:Int) 0 [] r h):
  al 94 [vS a] [] r h:=.of func94 A94 H
def WZ(c:Rw)(d b:Int)(a:Rw)(H:aw (decide (b<d)) (Ho c b fun e=>aw (bif(e==[])then true else(e==[46])) (au (b+1)/\CF c d (b+1) a r h)
 (aw (!(e==[46,46])) ((a++([[S e]]:Rw)).length*16<=2^47/\au (b+1)/\CF c d (b+1) (a++([[S e]]:Rw)) r h)
 (aw ((a.length:Int)==0) (Fi r h [vS [],vB false] [])
 (au ((a.length:Int)-1)/\(0<=((a.length:Int)-1)/\((a.length:Int)-1)<=(a.length:Int))/\au (b+1)/\CF c d (b+1) (take (toNat ((a.length:Int)-1)) a) r h))))
 (x7 132 [vL 1 a,vS [47]] [] fun f=>Fi r h [vS f,vB (decide ((a.length:Int)>0))] [])):
  CF c d b a r h:=.of A94 H
def A96:bu:={an:=[(1,2,ah),(2,2,aa),(2,3,aa),(2,4,aa)]}
def W96(b c a:By)(H:WN 94 [vS b] [] fun d e=>Fi r h [vB (bif e then(d==a)else false)] [.aH [vS a]]):
  al 96 [.agg [S b,S c],.aB 0 0] [.aH [vS a]] r h:=.of func96 A96 H
def af8:bu:={an:=[(1,1,ah),(2,1,ah),(3,2,ah),(3,7,ah)]}
def af9(a b:By)(H:cc 243 [vS b,vS [47]] [] fun d=>aw d (WN 94 [vS b] [] fun e f=>Fi r h [vS e,vB f] [])
 (kL 141 [vS a,vS [47]] [] fun c=>au (c+1)/\(0<=(0:Int)/\(0:Int)<=(c+1)/\(c+1)<=(a.length:Int))/\(drop 0 (take (toNat (c+1)) a)).length+b.length<=9223372036854775807/\WN 94 [vS ((drop 0 (take (toNat (c+1)) a))++b)] [] fun g i=>Fi r h [vS g,vB i] [])):
  al 181 [vS a,vS b] [] r h:=.of func181 af8 H
def A75:bu:={an:=[(1,2,ah)],mod:=[(5,2,[(0,[1001,2,3])])]}
def W75(a:Rw)(c:By)(H:L4 76 [vL 2 a,vS c] [] fun j k=>aw (!k) (Fi r h [vL 4 [],.agg [N 4,N (-1),C (some (0,0))]] [])
 (∃b d e g i f,al 93 [.aB 0 0,vN j] [.aH [vL 2 a,O 1 [],vN 0,O 4 []]] [.agg [N b,N d,C e]] [.aH [vL 2 a,vL 1 g,vN i,O 4 f]]/\aw (b !=0) (Fi r h [vL 4 [],.agg [N b,N d,C e]] [])
 (Fi r h [vL 4 f,.agg [N 0,N 0,C (some (0,0))]] []))):
  al 75 [vL 2 a,vS c] [] r h:=.of func75 A75 H
def zQ(a:Rw)(b:Int)(c d:Rw)(e:Int)(f:Rw)(g i:Int)(j:Cx):St:=⟨aO 117 [(0,.aB 0 0),(4,.aB 1 0),(5,vL 4 a),(7,vN b)],[],[.aH [vL 2 c,O 1 d,vN e,O 4 f],.aH [vN g,vN i,vC j]]⟩
def oy(a:Rw)(b:Int)(c d:Rw)(e:Int)(f:Rw)(g i:Int)(j:Cx):St:=⟨aO 117 [(0,.aB 0 0),(4,.aB 1 0),(5,vL 4 a),(7,vN b)],[],[.aH [vL 2 c,vL 1 d,vN e,O 4 f],.aH [vN g,vN i,vC j]]⟩
def A93:bu:={an:=[(1,7,ah),(1,9,ah),(4,4,{take:=true}),(4,10,{take:=true}),(8,4,ah),(8,11,ah),(9,4,{take:=true}),(9,8,ah),(9,13,{take:=true}),(12,5,ah),(12,10,ah)],mod:=[(10,4,[(0,[2])]),(13,2,[(0,[1001,2,3])])],cut:=[(6,{bl:=[0,4,5,7]})]}
def W93(b c:Rw)(d:Int)(e:Rw)(a:Int)(H:Qr b a fun l k=>∃g f i j,al 129 [vS k,vN a] [] [vL 4 g,.agg [N f,N i,C j]] []/\aw (f !=0) (Fi r h [.agg [N f,N i,C j]] [.aH [vL 2 b,O 1 c,vN d,O 4 e]])
 ((c++([[N a]]:Rw)).length*8<=2^47/\Lp f93 0 (zQ g 0 b (c++([[N a]]:Rw)) d e 0 0 (some (0,0))) 1 r h)):
  al 93 [.aB 0 0,vN a] [.aH [vL 2 b,O 1 c,vN d,O 4 e]] r h:=.of func93 A93 H
def RQ(b:Rw)(a:Int)(d c:Rw)(f:Int)(e:Rw)(g i:Int)(j:Cx)(H:aw (decide (a<(b.length:Int))) (de b a fun G M Q T=>aw (G !=5) (de b a fun u v w x=>(e++([[N u,S v,N w,C x]]:Rw)).length*48<=2^47/\au (a+1)/\Lp f93 0 (zQ b (a+1) d c f (e++([[N u,S v,N w,C x]]:Rw)) g i j) 1 r h) (de b a fun X I Y Z=>aw (!(I==[35,105,110,99,108,117,100,101])) (de b a fun y z D E=>(e++([[N y,S z,N D,C E]]:Rw)).length*48<=2^47/\au (a+1)/\Lp f93 0 (zQ b (a+1) d c f (e++([[N y,S z,N D,C E]]:Rw)) g i j) 1 r h)
 ((0<=a/\a<=(b.length:Int)/\(b.length:Int)<=(b.length:Int))/\∃q k l,al 130 [.aB 0 0,vL 4 (drop (toNat a) (take b.length b))] [.aH [vL 2 d,O 1 c,vN f,O 4 e]] [vN q,vN k] [.aH [vL 2 d,O 1 c,vN l,O 4 e]]/\aw (k !=0) (de b a fun F A J R=>de b a fun a3 a4 a5 K=>Fi r h [.agg [N k,N J,C K]] [.aH [vL 2 d,O 1 c,vN l,O 4 e]])
 (∃m s t n o p,al 93 [.aB 0 0,vN q] [.aH [vL 2 d,O 1 c,vN l,O 4 e]] [.agg [N m,N s,C t]] [.aH [vL 2 d,vL 1 n,vN o,O 4 p]]/\aw (m !=0) (Fi r h [.agg [N m,N s,C t]] [.aH [vL 2 d,vL 1 n,vN o,O 4 p]])
 (au (a+1)/\au ((a+1)+1)/\Lp f93 0 (oy b ((a+1)+1) d n o p g i j) 1 r h)))))
 (au ((c.length:Int)-1)/\(0<=(0:Int)/\(0:Int)<=((c.length:Int)-1)/\((c.length:Int)-1)<=(c.length:Int))/\Fi r h [.agg [N 0,N 0,C (some (0,0))]] [.aH [vL 2 d,vL 1 (drop 0 (take (toNat ((c.length:Int)-1)) c)),vN f,O 4 e]])):
  Lp f93 0 (zQ b a d c f e g i j) 1 r h:=.of A93 H
def RR(b:Rw)(a:Int)(d c:Rw)(f:Int)(e:Rw)(g i:Int)(j:Cx)(H:aw (decide (a<(b.length:Int))) (de b a fun G M Q T=>aw (G !=5) (de b a fun u v w x=>(e++([[N u,S v,N w,C x]]:Rw)).length*48<=2^47/\au (a+1)/\Lp f93 0 (oy b (a+1) d c f (e++([[N u,S v,N w,C x]]:Rw)) g i j) 1 r h) (de b a fun X I Y Z=>aw (!(I==[35,105,110,99,108,117,100,101])) (de b a fun y z D E=>(e++([[N y,S z,N D,C E]]:Rw)).length*48<=2^47/\au (a+1)/\Lp f93 0 (oy b (a+1) d c f (e++([[N y,S z,N D,C E]]:Rw)) g i j) 1 r h)
 ((0<=a/\a<=(b.length:Int)/\(b.length:Int)<=(b.length:Int))/\∃q k l,al 130 [.aB 0 0,vL 4 (drop (toNat a) (take b.length b))] [.aH [vL 2 d,vL 1 c,vN f,O 4 e]] [vN q,vN k] [.aH [vL 2 d,vL 1 c,vN l,O 4 e]]/\aw (k !=0) (de b a fun F A J R=>de b a fun a3 a4 a5 K=>Fi r h [.agg [N k,N J,C K]] [.aH [vL 2 d,vL 1 c,vN l,O 4 e]])
 (∃m s t n o p,al 93 [.aB 0 0,vN q] [.aH [vL 2 d,vL 1 c,vN l,O 4 e]] [.agg [N m,N s,C t]] [.aH [vL 2 d,vL 1 n,vN o,O 4 p]]/\aw (m !=0) (Fi r h [.agg [N m,N s,C t]] [.aH [vL 2 d,vL 1 n,vN o,O 4 p]])
 (au (a+1)/\au ((a+1)+1)/\Lp f93 0 (oy b ((a+1)+1) d n o p g i j) 1 r h)))))
 (au ((c.length:Int)-1)/\(0<=(0:Int)/\(0:Int)<=((c.length:Int)-1)/\((c.length:Int)-1)<=(c.length:Int))/\Fi r h [.agg [N 0,N 0,C (some (0,0))]] [.aH [vL 2 d,vL 1 (drop 0 (take (toNat ((c.length:Int)-1)) c)),vN f,O 4 e]])):
  Lp f93 0 (oy b a d c f e g i j) 1 r h:=.of A93 H
def agb:bu:={an:=[(1,7,ah),(3,15,ah),(3,18,ah),(3,22,ah),(3,23,ah),(6,5,ah),(9,5,ah)]}
def agc(b a:Rw)(c:Int)(d e:Rw)(H:aw (decide ((e.length:Int)<2)) (Fi r h [vN (-1),vN 3] [.aH [vL 2 b,O 1 a,vN c,O 4 d]]) (de e 1 fun g p q s=>aw (g !=4) (Fi r h [vN (-1),vN 3] [.aH [vL 2 b,O 1 a,vN c,O 4 d]])
 (au ((a.length:Int)-1)/\Rdn a ((a.length:Int)-1) fun i=>Qr b i fun j t=>de e 1 fun u k v w=>WN 181 [vS j,vS k] [] fun l m=>aw (!m) (Fi r h [vN (-1),vN 4] [.aH [vL 2 b,O 1 a,vN c,O 4 d]])
 (L4 76 [vL 2 b,vS l] [] fun f n=>aw (!n) (Fi r h [vN (-1),vN 4] [.aH [vL 2 b,O 1 a,vN c,O 4 d]])
 (cc 182 [vL 1 a,vN f] [] fun o=>aw o (Fi r h [vN (-1),vN 5] [.aH [vL 2 b,O 1 a,vN c,O 4 d]])
 (aw (decide ((a.length:Int)>=8)) (Fi r h [vN (-1),vN 6] [.aH [vL 2 b,O 1 a,vN c,O 4 d]])
 (aw (decide (c>=1000)) (Fi r h [vN (-1),vN 9] [.aH [vL 2 b,O 1 a,vN c,O 4 d]])
 (au (c+1)/\Fi r h [vN f,vN 0] [.aH [vL 2 b,O 1 a,vN (c+1),O 4 d]])))))))):
  al 130 [.aB 0 0,vL 4 e] [.aH [vL 2 b,O 1 a,vN c,O 4 d]] r h:=.of func130 agb H
def tH(c:UInt8):∀s,(splitB c s).length<=s.length+1/\hH (splitB c s)<=s.length
 |[]=>by simp[splitB,hH]
 |d::t=>by
  have a:=tH c t;unfold splitB;cases d==c<;>simp only[aj,af]
  .revert a
   cases splitB c t with
   |nil=>simp[hH]
   |cons x l=>simp[hH];omega
  .simp[hH]at a⊢; omega
def kv:List By->List By->By×Bool
 |[],c=>(lP 47 c,decide ((c.length:Int)>0))
 |x::t,c=>bif(bif x==[]then true else x==[46])then kv t c else bif !(x==[46,46])then kv t (c++[x])else
  bif(c.length:Int)==0 then([],false)else kv t (c.take (c.length-1))
def la(a:By):By×Bool:=kv (splitB 47 a) []
def CG(c:List By)(n:Nat):hH (c.take n)<=hH c:=by
 induction c generalizing n with
 |nil=>simp[hH]
 |cons x c a=>
  cases n with
  |zero=>simp[hH]
  |succ n=>have:=a n;simp[hH]at this⊢; omega
def HR(a b:List By):hH (a++b)=hH a+hH b:=by simp[hH]
def L94(l:List By)(g:l.length<=2^39):∀(t:List By)(i:Nat)(c:List By),l.drop i=t->c.length<=i->i<=l.length->hH c+hH t<=2^40 ->
  CF (aI l) ((aI l).length:Int) i (aI c) [vS (kv t c).1,vB (kv t c).2] []
 |[],i,c,h,m,n,k=>WZ _ _ _ _ (aP (l:=l) (by simp[aI]) h ⟨_,aeu c 47 (by omega) (by omega),ai (by simp[kv,aI]) rfl⟩)
 |x::t,i,c,h,m,n,k=>by
  obtain⟨j,e,f⟩:=drop_cons h;have o:(aI c).length=c.length:=by simp[aI]
  have p:hH (x::t)=x.length+hH t:=by simp[hH]
  refine WZ _ _ _ _ (aK (l:=l) (by simp[aI]) h ⟨x,by omega,aQ j,?_⟩)
  unfold kv;refine ad (fun a=>⟨aC,?_⟩) fun a=>ad (fun b=>⟨?_,aC,?_⟩) fun b=>?_
  .rw[a]
   exact L94 l g t (i+1) c e (by omega) f (by omega)
  .simp[aI];omega
  .rw[a,b]
   have:=L94 l g t (i+1) (c++[x]) e (by simp;omega) f (by rw[HR,show hH [x]=x.length by simp[hH]];omega)
   rw[show aI (c++[x])=aI c++[[S x]] by simp[aI,Hp]]at this
   exact this
  .rw[o]
   refine ad (fun d=>ai (by rw[a,b,d];rfl) rfl) fun d=>?_
   have q:=gJ d;refine⟨aC,⟨by omega,by omega⟩,aC,?_⟩
   rw[a,b,d,show toNat ((c.length:Int)-1)=c.length-1 by omega]
   have:=CG c (c.length-1);have:=L94 l g t (i+1) (c.take (c.length-1)) e (by simp;omega) f (by omega)
   rw[show aI (c.take (c.length-1))=(aI c).take (c.length-1) by simp[aI,iq]]at this
   exact this
def C94(a:By)(b:a.length<=2^31):al 94 [vS a] [] [vS (la a).1,vB (la a).2] []:=by
 have:=tH 47 a;exact W94 a ⟨_,aes a 47 (by omega),L94 (splitB 47 a) (by omega) _ 0 [] rfl (by simp) (by omega) (by simp[hH]at this⊢; omega)⟩
def o1(b a:By):By×Bool:=bif List.isPrefixOf [47] a then la a else la (b.take (jU 47 b+1).toNat++a)
def agd(a b:By)(c:a.length<=2^30)(d:b.length<=2^30):al 181 [vS a,vS b] [] [vS (o1 a b).1,vB (o1 a b).2] []:=by
 have:=rJ 47 a;refine af9 a b ⟨_,YF _ _,ad (fun h=>⟨_,_,C94 b (by omega),ai (by rw[o1,h];rfl) rfl⟩) fun h=>⟨_,aaR a 47 (by omega),aC,⟨by omega,by omega,by omega⟩,by simp;omega,_,_,C94 _ (by simp;omega),ai (by rw[o1,h];rfl) rfl⟩⟩
structure Fl where
 path:By
 text:By
def Fl.row(f:Fl):List PV:=[S f.path,S f.text]
def Fe(want:By)(f:Fl):Bool:=bif(la f.path).2 then((la f.path).1==want)else false
def fy(l:List Fl)(a:By):Int×Bool:=
 bif !(la a).2 then(0,false)else
 ((if idx (Fe (la a).1) l>0 then idx (Fe (la a).1) l else 0),decide (idx (Fe (la a).1) l>=0))
def C95(l:List Fl)(want:By)(d:l.length<=2^40)(e:∀f∈l,f.path.length<=2^31):
  al 95 [vL 2 (l.map Fl.row),.fn (.func 96) [] [.aB 0 0]] [.aH [vS want]] [vN (idx (Fe want) l)] [.aH [vS want]]:=
 YH _ _ (eQ (Hd:=fun i=>vd _ _ i _) d fun i r h b c=>QH _ _ _ _ (eT (l:=l) (by simp) (fun f a=>⟨_,_,by omega,aQ a,_,W96 _ _ _ ⟨_,_,C94 _ (e f (aM a)),fi⟩,b f a⟩) c))
def C76(l:List Fl)(a:By)(b:l.length<=2^40)(c:∀f∈l,f.path.length<=2^31)(d:a.length<=2^31):al 76 [vL 2 (l.map Fl.row),vS a] [] [vN (fy l a).1,vB (fy l a).2] []:=
 W76 _ _ ⟨_,_,C94 a d,ad (fun h=>ai (by rw[fy,h];rfl) rfl) fun h=>⟨_,C95 l _ b c,ai (by rw[fy,h];rfl) rfl⟩⟩
def aba(n:Int)(l:List Int)(d:l.length<=2^40):al 182 [vL 1 (l.map fun n=>[N n]),vN n] [] [vB (l.any (n == ·))] []:=
 aeB _ _ ⟨_,aeE _ _ (eQ (p:=(n == ·)) (l:=l) (Hd:=EV _ _ _) d fun i r h b c=>YJ _ _ _ _ (eT (l:=l) (by simp) (fun x a=>⟨x,by omega,aQ a,b x a⟩) c)),ai (by rw[mB]) rfl⟩
structure Wv where
 stack:List Int
 n:Int
 eY:List Tok
abbrev wv(l:List Fl)(x:Wv):Bx:=.aH [vL 2 (l.map Fl.row),O 1 (x.stack.map fun n=>[N n]),vN x.n,O 4 (x.eY.map Tok.row)]
abbrev wvS(l:List Fl)(x:Wv):Bx:=.aH [vL 2 (l.map Fl.row),vL 1 (x.stack.map fun n=>[N n]),vN x.n,O 4 (x.eY.map Tok.row)]
structure WOK (l:List Fl) (x:Wv):Prop where
 len:l.length<=2^40
 path:∀f∈l,f.path.length<=2^30/\f.text.length<=2^30
 stack:∀s∈x.stack,0<=s/\s.toNat<l.length
 deep:x.stack.length<=2^30
 n:0<=x.n/\x.n<=2^40
def fI(l:List Fl)(x:Wv)(t:Tok):Int×Int:=
 bif t.kind !=4 then(-1,3)else
 bif !(o1 (l.getD (x.stack.getLastD 0).toNat ⟨[],[]⟩).path t.text).2 then(-1,4)else
 bif !(fy l (o1 (l.getD (x.stack.getLastD 0).toNat ⟨[],[]⟩).path t.text).1).2 then(-1,4)else
 bif x.stack.any ((fy l (o1 (l.getD (x.stack.getLastD 0).toNat ⟨[],[]⟩).path t.text).1).1 == ·)then(-1,5)else
 bif decide ((x.stack.length:Int)>=8)then(-1,6)else
 bif decide (x.n>=1000)then(-1,9)else((fy l (o1 (l.getD (x.stack.getLastD 0).toNat ⟨[],[]⟩).path t.text).1).1,0)
def vj(l:List Fl)(x:Wv):List Tok->Int×Int
 |_::t::_=>fI l x t
 |_=>(-1,3)
def n5:∀(t c:List By),(kv t c).1.length<=hH c+hH t+c.length+t.length
 |[],c=>by
  have:∀(c:List By),(lP 47 c).length<=hH c+c.length:=by
   intro c;induction c with
   |nil=>simp[lP]
   |cons x l a=>
    cases l with
    |nil=>simp[lP,hH]
    |cons y l=>simp[lP,hH]at a⊢; omega
  have:=this c;simp[kv];omega
 |x::t,c=>by
  have d:hH (x::t)=x.length+hH t:=by simp[hH]
  unfold kv;cases(bif x==[]then true else x==[46])<;>simp only[aj,af]
  .cases !(x==[46,46])<;>simp only[aj,af]
   .cases(c.length:Int)==0<;>simp only[aj,af]
    .have:=n5 t (c.take (c.length-1))
     have b:=CG c (c.length-1);have:(c.take (c.length-1)).length<=c.length:=by simp
     simp only[aE];omega
    .simp
   .have:=n5 t (c++[x])
    rw[HR,show hH [x]=x.length by simp[hH]]at this
    simp only[aE,dw,cN]at this⊢;omega
  .have:=n5 t c
   simp only[aE];omega
def zR(p:By):(la p).1.length<=2*p.length+1:=by
 have:=n5 (splitB 47 p) [];have:=tH 47 p;unfold la;simp[hH]at*;omega
def OI(f p:By):(o1 f p).1.length<=2*(f.length+p.length)+1:=by
 unfold o1;cases List.isPrefixOf [47] p<;>simp only[aj,af]
 .have:=zR (f.take (jU 47 f+1).toNat++p)
  simp at this⊢;omega
 .have:=zR p
  omega
def vk(h:(fy l p).2=true):0<=(fy l p).1/\(fy l p).1.toNat<l.length:=by
 unfold fy at h⊢;cases h1 : !(la p).2<;>rw[h1]at h<;>simp only[aj,af]at h⊢
 .have h:=aV h
  obtain⟨x,a,-⟩:=vc h;have:=(aG.1 a).1;split<;>omega
 .simp at h
def agf(l:List Fl)(x:Wv)(e:List Tok)(ok:WOK l x)(k:x.stack≠[])(q:∀t∈e,t.text.length<=2^28)(m:∀f∈l,f.path.length<=2^28):
  al 130 [.aB 0 0,vL 4 (e.map Tok.row)] [wv l x] [vN (vj l x e).1,vN (vj l x e).2] [wv l {x with n:=bif(vj l x e).2==0 then x.n+1 else x.n}]:=by
 refine agc _ _ _ _ _ (ad (fun h=>?_) fun h=>?_)
 .have h:=aV h
  match e,h with
  |[],_=>exact fi
  |[_],_=>exact fi
  |_::_::_,h=>simp at h;omega
 .have h:=bI h
  match e,h with
  |[],h=>simp at h
  |[_],h=>simp at h
  |t0::t::w,_=>
   have E:=q t (by simp)
   have p:x.stack.getLast?=some (x.stack.getLastD 0):=by
    rw[jF k,km,jF k];rfl
   have y:x.stack.getLastD 0∈x.stack:=by
    have:=uz p;exact this
   obtain⟨s,o⟩:=ok.stack _ y;have hlen:0<x.stack.length:=by cases hx:x.stack with|nil=>exact absurd hx k|cons=>simp
   have v:(x.stack.map fun n=>[N n])[toNat (((x.stack.map fun n=>[N n]).length:Int)-1)]?=some [N (x.stack.getLastD 0)]:=by
    rw[ao,show toNat ((x.stack.length:Int)-1)=x.stack.length-1 by omega,bw,<-yq,p]
    rfl
   have j:=bo o;have u:l.getD (x.stack.getLastD 0).toNat ⟨[],[]⟩=l[(x.stack.getLastD 0).toNat]:=by rw[bW,j];rfl
   have D:=m _ (gL o);have G:=ok.deep;refine⟨t.kind,t.text,t.file,t.spot,by omega,by simp[Tok.row],?_⟩
   rw[show vj l x (t0::t::w)=fI l x t from rfl]
   unfold fI;refine ad (fun i=>ai (by rw[i];rfl) (by rw[i];rfl)) fun i=>⟨aC (by simp;omega) (by simp;omega),_,by simp;omega,v,_,_,s,by rw[bw,j];rfl,t.kind,t.text,t.file,t.spot,by omega,by simp[Tok.row],?_⟩
   rw[i,u];have z:=OI l[(x.stack.getLastD 0).toNat].path t.text;refine⟨_,_,agd _ _ (by omega) (by omega),ad (fun a=>ai (by rw[a];rfl) (by rw[a];rfl)) fun a=>⟨_,_,C76 l _ ok.len (fun f j=>by have:=m f j;omega) (by omega),ad (fun b=>ai (by rw[a,b];rfl) (by rw[a,b];rfl)) fun b=>⟨_,aba _ _ (by omega),ad (fun d=>ai (by rw[a,b,d];rfl) (by rw[a,b,d];rfl)) fun d=>ad (fun c=>?_) fun c=>ad (fun g=>?_) fun g=>?_⟩⟩⟩
   .rw[ao]at c
    exact ai (by rw[a,b,d,c];rfl) (by rw[a,b,d,c];rfl)
   .rw[ao]at c
    exact ai (by rw[a,b,d,c,g];rfl) (by rw[a,b,d,c,g];rfl)
   .rw[ao]at c
    have r:=ok.n;exact⟨aC,ai (by rw[a,b,d,c,g];rfl) (by rw[a,b,d,c,g];rfl)⟩
abbrev Ms(a b c:Rw)(d e f g:Int)(i:Cx)(j:Rw)(k l:Int)(m:Cx)(n o p:Rw)(q s t u:Int)(v:Cx)r h:=Lp f77 0 ⟨aO 47 [(4,.aB 0 0),(5,.aB 1 0),(6,.aB 2 0)],[],[.aH [O 6 a,O 2 b,O 1 c,vN d,vN e],.aH [vN f,vN g,vC i],K7 j k l m n o p q s t u v]⟩ 0 r h
def A77:bu:={an:=[(2,3,aa),(2,4,aa),(2,5,aa),(2,6,aa),(2,7,aa),(2,8,aa),(7,4,iC),(7,5,fg),(7,6,fh)],mod:=[(3,1,[(0,[0,4,5,6,7,8,9,10,11])]),(5,3,[(0,[9,10,11])])],cut:=[(2,{bl:=[4,5,6],wc:=[(2,6)]})]}
def W77(H:Ms [] [] [] 0 0 0 0 (some (0,0)) a b c d [] [] [] 0 0 0 0 (some (0,0)) r h):
  al 77 [vL 4 a,.agg [N b,N c,C d]] [] r h:=.of func77 A77 H
def abc(H:cc 97 [.aB 0 0] [K7 j b c d e f a g i k l m] fun Z=>aw (bif Z then(decide ((j.length:Int)>0))else false) (∃z D E G I J K M Q,al 98 [.aB 0 0] [K7 j b c d e f a g i k l m] [] [K7 z b c d D E G I J K M Q]/\Ms q s t u v w x y z b c d D E G I J K M Q r h)
 (aw ((a.length:Int)==0) (∃T X Y,al 100 [.aB 0 0] [K7 j b c d e f a g i k l m] [.agg [N T,N X,C Y]] [K7 j b c d e f a g i k l m]/\∃n o p,al 99 [.aB 0 0,.agg [N T,N X,C Y],vN 11] [K7 j b c d e f a g i k l m] [] [K7 j b c d e f a g i n o p]/\cc 97 [.aB 0 0] [K7 j b c d e f a g i n o p] fun F=>aw (!F) (Fi r h [.agg [L 6 [],L 2 [],L 1 [],N 0,N 0],.agg [N n,N o,C p]] [])
 (Fi r h [.agg [L 6 e,L 2 f,L 1 a,N g,N i],.agg [N 0,N 0,C (some (0,0))]] []))
 (cc 97 [.aB 0 0] [K7 j b c d e f a g i k l m] fun A=>aw (!A) (Fi r h [.agg [L 6 [],L 2 [],L 1 [],N 0,N 0],.agg [N k,N l,C m]] [])
 (Fi r h [.agg [L 6 e,L 2 f,L 1 a,N g,N i],.agg [N 0,N 0,C (some (0,0))]] [])))):
  Ms q s t u v w x y j b c d e f a g i k l m r h:=.of A77 H
def A97:bu:={}
def W97(H:Fi r h [vB (a==0)] [K7 b c d e f g i j k a l m]):
  al 97 [.aB 0 0] [K7 b c d e f g i j k a l m] r h:=.of func97 A97 H
def agh:bu:={}
def agi(H:Fi r h [vB (a==0)] [K8 b c d e f g i j k a l m]):
  al 97 [.aB 0 0] [K8 b c d e f g i j k a l m] r h:=.of func97 agh H
def A98:bu:={an:=[(5,0,fh),(5,1,fh),(5,5,je),(5,7,fh),(5,8,fg),(5,15,je),(9,0,fh),(9,1,fh),(9,5,je),(9,6,{fb:=some [3]}),(9,12,je)],mod:=[(2,2,[(0,[9,10,11])]),(3,1,[(0,[0])]),(4,1,[(0,[0,9,10,11])]),(5,8,[(0,[0,9,10,11])]),(6,1,[(0,[0])]),(7,1,[(0,[0,9,10,11])]),(8,2,[(0,[0,9,10,11]),(1,[])]),(10,1,[(0,[0])]),(11,2,[(0,[0,6,7,8,9,10,11])])]}
def W98(c9:∃p q s,al 100 [.aB 0 0] [K7 o c d e a b f g i j k l] [.agg [N p,N q,C s]] [K7 o c d e a b f g i j k l]/\∃Z t,al 133 [.aB 0 0,vN 5,vS [35,100,101,102,105,110,101]] [K7 o c d e a b f g i j k l] [vB Z] [K7 t c d e a b f g i j k l]/\aw Z (∃m u v w x,al 134 [.aB 0 0] [K7 t c d e a b f g i j k l] [vS m] [K7 u c d e a b f g i v w x]/\(∃y z D E G H F A R,al 135 [.aB 0 0] [K8 u c d e a b f g i v w x] [.agg [N y,S z,S D,U E,L 5 G]] [K8 H c d e a b f g i F A R]/\(a++([[S m,N y,S z,S D,U E,L 5 G]]:Rw)).length*88<=2^47/\Fi r h [] [K7 H c d e (a++([[S m,N y,S z,S D,U E,L 5 G]]:Rw)) b f g i F A R])/\(∃I J K M Q a4 a5 a6 a7,al 135 [.aB 0 0] [K7 u c d e a b f g i v w x] [.agg [N I,S J,S K,U M,L 5 Q]] [K7 a4 c d e a b f g i a5 a6 a7]/\(a++([[S m,N I,S J,S K,U M,L 5 Q]]:Rw)).length*88<=2^47/\Fi r h [] [K7 a4 c d e (a++([[S m,N I,S J,S K,U M,L 5 Q]]:Rw)) b f g i a5 a6 a7]))
 (∃a8 T,al 133 [.aB 0 0,vN 1,vS [80,79,76,73,67,89]] [K7 t c d e a b f g i j k l] [vB a8] [K7 T c d e a b f g i j k l]/\aw a8 (∃a9 b0 b1 b2 b3,al 134 [.aB 0 0] [K7 T c d e a b f g i j k l] [vS a9] [K7 b0 c d e a b f g i b1 b2 b3]/\∃b4 b5 b6 b7 X Y,al 136 [.aB 0 0,.fn (.func 137) [] [.aB 1 0,.aB 2 0]] [K7 b0 c d e a b f g i b1 b2 b3,.aH [vS a9,O 4 []],.aH [.aB 0 0]] [] [K7 b4 c d e a b f g i b5 b6 b7,.aH [vS X,O 4 Y],.aH [.aB 0 0]]/\(b++([[S X,L 4 Y]]:Rw)).length*40<=2^47/\Fi r h [] [K7 b4 c d e a (b++([[S X,L 4 Y]]:Rw)) f g i b5 b6 b7])
 (∃b8 n,al 133 [.aB 0 0,vN 1,vS [85,83,69]] [K7 T c d e a b f g i j k l] [vB b8] [K7 n c d e a b f g i j k l]/\aw b8 (∃b9 c0 c1 c2 c3 c4 c5,al 139 [.aB 0 0,.agg [N p,N q,C s]] [K7 n c d e a b f g i j k l] [] [K7 b9 c d e a b c0 c1 c2 c3 c4 c5]/\Fi r h [] [K7 b9 c d e a b c0 c1 c2 c3 c4 c5])
 (∃c6 c7 c8,al 99 [.aB 0 0,.agg [N p,N q,C s],vN 3] [K7 n c d e a b f g i j k l] [] [K7 n c d e a b f g i c6 c7 c8]/\Fi r h [] [K7 n c d e a b f g i c6 c7 c8])))):
  al 98 [.aB 0 0] [K7 o c d e a b f g i j k l] r h:=.of func98 A98 c9
def agj:bu:={}
def agk(H:cc 97 [.aB 0 0] [K8 a b c d e f g i j k l m] fun s=>aw s (Fi r h [] [K8 a b c d e f g i j p n o])
 (Fi r h [] [K8 a b c d e f g i j k l m])):
  al 99 [.aB 0 0,.agg [N q,N n,C o],vN p] [K8 a b c d e f g i j k l m] r h:=.of func99 agj H
def A99:bu:={}
def W99(H:cc 97 [.aB 0 0] [K7 a b c d e f g i j k l m] fun s=>aw s (Fi r h [] [K7 a b c d e f g i j p n o])
 (Fi r h [] [K7 a b c d e f g i j k l m])):
  al 99 [.aB 0 0,.agg [N q,N n,C o],vN p] [K7 a b c d e f g i j k l m] r h:=.of func99 A99 H
def agl:bu:={an:=[(3,6,ah),(3,13,ah)]}
def agm(H:aw ((a.length:Int)==0) (Fi r h [.agg [N 0,N b,C c]] [K7 a d b c e f g i j k l m])
 (de a 0 fun p q n s=>de a 0 fun t u v o=>Fi r h [.agg [N 0,N n,C o]] [K7 a d b c e f g i j k l m])):
  al 100 [.aB 0 0] [K7 a d b c e f g i j k l m] r h:=.of func100 agl H
def abd:bu:={an:=[(3,6,ah),(3,13,ah)]}
def abe(H:aw ((a.length:Int)==0) (Fi r h [.agg [N 0,N b,C c]] [K8 a d b c e f g i j k l m])
 (de a 0 fun p q n s=>de a 0 fun t u v o=>Fi r h [.agg [N 0,N n,C o]] [K8 a d b c e f g i j k l m])):
  al 100 [.aB 0 0] [K8 a d b c e f g i j k l m] r h:=.of func100 abd H
def abf:bu:={}
def abg(H:cc 187 [.aB 0 0,vN o,vS p] [K8 a b c d e f g i j k l m] fun n=>aw n ((0<=(1:Int)/\(1:Int)<=(a.length:Int)/\(a.length:Int)<=(a.length:Int))/\Fi r h [vB n] [K8 (drop 1 (take a.length a)) b c d e f g i j k l m])
 (Fi r h [vB n] [K8 a b c d e f g i j k l m])):
  al 133 [.aB 0 0,vN o,vS p] [K8 a b c d e f g i j k l m] r h:=.of func133 abf H
def agn:bu:={}
def ago(H:cc 187 [.aB 0 0,vN o,vS p] [K7 a b c d e f g i j k l m] fun n=>aw n ((0<=(1:Int)/\(1:Int)<=(a.length:Int)/\(a.length:Int)<=(a.length:Int))/\Fi r h [vB n] [K7 (drop 1 (take a.length a)) b c d e f g i j k l m])
 (Fi r h [vB n] [K7 a b c d e f g i j k l m])):
  al 133 [.aB 0 0,vN o,vS p] [K7 a b c d e f g i j k l m] r h:=.of func133 agn H
def abh:bu:={an:=[(4,6,ah)],mod:=[(2,3,[(0,[9,10,11])])]}
def abi(H:cc 188 [.aB 0 0] [K8 a b c d e f g i j k l m] fun u=>aw (!u) (∃n o p,al 100 [.aB 0 0] [K8 a b c d e f g i j k l m] [.agg [N n,N o,C p]] [K8 a b c d e f g i j k l m]/\∃q s t,al 99 [.aB 0 0,.agg [N n,N o,C p],vN 3] [K8 a b c d e f g i j k l m] [] [K8 a b c d e f g i j q s t]/\Fi r h [vS []] [K8 a b c d e f g i j q s t])
 (de a 0 fun w v x y=>(0<=(1:Int)/\(1:Int)<=(a.length:Int)/\(a.length:Int)<=(a.length:Int))/\Fi r h [vS v] [K8 (drop 1 (take a.length a)) b c d e f g i j k l m])):
  al 134 [.aB 0 0] [K8 a b c d e f g i j k l m] r h:=.of func134 abh H
def agp:bu:={an:=[(4,6,ah)],mod:=[(2,3,[(0,[9,10,11])])]}
def agq(H:cc 188 [.aB 0 0] [K7 a b c d e f g i j k l m] fun u=>aw (!u) (∃n o p,al 100 [.aB 0 0] [K7 a b c d e f g i j k l m] [.agg [N n,N o,C p]] [K7 a b c d e f g i j k l m]/\∃q s t,al 99 [.aB 0 0,.agg [N n,N o,C p],vN 3] [K7 a b c d e f g i j k l m] [] [K7 a b c d e f g i j q s t]/\Fi r h [vS []] [K7 a b c d e f g i j q s t])
 (de a 0 fun w v x y=>(0<=(1:Int)/\(1:Int)<=(a.length:Int)/\(a.length:Int)<=(a.length:Int))/\Fi r h [vS v] [K7 (drop 1 (take a.length a)) b c d e f g i j k l m])):
  al 134 [.aB 0 0] [K7 a b c d e f g i j k l m] r h:=.of func134 agp H
abbrev Ff(a:Rw)(b c:Int)(d:Cx)(e f g:Rw)(i j k l:Int)(m:Cx)(n:Int)(o p:By)(q:Int)(s:Rw)(t:Int)(u v:By)(w:Int)(x:Rw)r h:=Lp f135 0 ⟨aO 14 [(0,.aB 0 0),(2,.aB 1 0),(3,.aB 2 0)],[],[K7 a b c d e f g i j k l m,.aH [vN n,vS o,vS p,vU q,O 5 s],.aH [vN t,vS u,vS v,vU w,vL 5 x]]⟩ 1 r h
def abj:bu:={an:=[(3,0,iC),(3,2,fg),(3,5,iC)],mod:=[(1,1,[(0,[0,9,10,11])]),(2,1,[(0,[0])]),(3,2,[(0,[0,9,10,11])])],cut:=[(2,{bl:=[0,2,3]})]}
def agr(H:∃n o p q s t u v w,al 189 [.aB 0 0] [K7 j a b c d e f g i k l m] [.agg [N n,S o,S p,U q,L 5 s]] [K7 t a b c d e f g i u v w]/\Ff t a b c d e f g i u v w 0 [] [] 0 [] n o p q s r h):
  al 135 [.aB 0 0] [K7 j a b c d e f g i k l m] r h:=.of func135 abj H
def Zi(H:∃z s,al 133 [.aB 0 0,vN 3,vS [124]] [K7 t a b c d e f g i j k l] [vB z] [K7 s a b c d e f g i j k l]/\aw z (∃D E G I J K M Q T,al 189 [.aB 0 0] [K7 s a b c d e f g i j k l] [.agg [N D,S E,S G,U I,L 5 J]] [K7 K a b c d e f g i M Q T]/\Ff K a b c d e f g i M Q T u v w x y 8 [] [] 0 [[N m,S n,S o,U p,L 5 q],[N D,S E,S G,U I,L 5 J]] r h)
 (Fi r h [.agg [N m,S n,S o,U p,L 5 q]] [K7 s a b c d e f g i j k l])):
  Ff t a b c d e f g i j k l u v w x y m n o p q r h:=.of abj H
abbrev yD(a:Rw)(b c:Int)(d:Cx)(e f g:Rw)(i j k l:Int)(m:Cx)(n:Int)(o p:By)(q:Int)(s:Rw)(t:Int)(u v:By)(w:Int)(x:Rw)r h:=Lp f135 0 ⟨aO 14 [(0,.aB 0 0),(2,.aB 1 0),(3,.aB 2 0)],[],[K8 a b c d e f g i j k l m,.aH [vN n,vS o,vS p,vU q,O 5 s],.aH [vN t,vS u,vS v,vU w,vL 5 x]]⟩ 1 r h
def W5:bu:={an:=[(3,0,iC),(3,2,fg),(3,5,iC)],mod:=[(1,1,[(0,[0,9,10,11])]),(2,1,[(0,[0])]),(3,2,[(0,[0,9,10,11])])],cut:=[(2,{bl:=[0,2,3]})]}
def abk(H:∃n o p q s t u v w,al 189 [.aB 0 0] [K8 j a b c d e f g i k l m] [.agg [N n,S o,S p,U q,L 5 s]] [K8 t a b c d e f g i u v w]/\yD t a b c d e f g i u v w 0 [] [] 0 [] n o p q s r h):
  al 135 [.aB 0 0] [K8 j a b c d e f g i k l m] r h:=.of func135 W5 H
def Vr(H:∃z s,al 133 [.aB 0 0,vN 3,vS [124]] [K8 t a b c d e f g i j k l] [vB z] [K8 s a b c d e f g i j k l]/\aw z (∃D E G I J K M Q T,al 189 [.aB 0 0] [K8 s a b c d e f g i j k l] [.agg [N D,S E,S G,U I,L 5 J]] [K8 K a b c d e f g i M Q T]/\yD K a b c d e f g i M Q T u v w x y 8 [] [] 0 [[N m,S n,S o,U p,L 5 q],[N D,S E,S G,U I,L 5 J]] r h)
 (Fi r h [.agg [N m,S n,S o,U p,L 5 q]] [K8 s a b c d e f g i j k l])):
  yD t a b c d e f g i j k l u v w x y m n o p q r h:=.of W5 H
def nf(a:Bool)(b:Rw)(c d:Int)(e:Cx)(f g i:Rw)(j k l m:Int)(n:Cx)(o:By)(p:Rw):St:=⟨aO 23 [(0,.aB 0 0),(1,.fn (.func 137) [] [.aB 1 0,.aB 2 0]),(4,vB a)],[],[K7 b c d e f g i j k l m n,.aH [vS o,O 4 p],.aH [.aB 0 0]]⟩
def HS:bu:={mod:=[(0,1,[(0,[0,9,10,11])]),(3,1,[(0,[1]),(2,[0,9,10,11])]),(4,1,[(0,[0])]),(5,1,[(0,[0,9,10,11])])],cut:=[(2,{bl:=[0,1,4]})]}
def RS(H:∃p q s t,al 190 [.aB 0 0,vN 3,vS [123]] [K7 j a b c d e f g i k l m] [] [K7 p a b c d e f g i q s t]/\Lp f136 0 (nf false p a b c d e f g i q s t n o) 3 r h):
  al 136 [.aB 0 0,.fn (.func 137) [] [.aB 1 0,.aB 2 0]] [K7 j a b c d e f g i k l m,.aH [vS n,O 4 o],.aH [.aB 0 0]] r h:=.of func136 HS H
def K0(H:cc 97 [.aB 0 0] [K7 k a b c d e f g i l m n] fun A=>aw A (aw w (∃x y p q s,al 137 [.aB 0 0,.aB 1 0] [.aH [vS j,O 4 o],.aH [.aB 2 0],K7 k a b c d e f g i l m n] [] [.aH [vS j,O 4 x],.aH [.aB 2 0],K7 y a b c d e f g i p q s]/\∃z D,al 133 [.aB 0 0,vN 3,vS [44]] [K7 y a b c d e f g i p q s] [vB z] [K7 D a b c d e f g i p q s]/\Lp f136 0 (nf z D a b c d e f g i p q s j x) 3 r h) (cc 187 [.aB 0 0,vN 3,vS [125]] [K7 k a b c d e f g i l m n] fun R=>aw (!R) (∃E G t u v,al 137 [.aB 0 0,.aB 1 0] [.aH [vS j,O 4 o],.aH [.aB 2 0],K7 k a b c d e f g i l m n] [] [.aH [vS j,O 4 E],.aH [.aB 2 0],K7 G a b c d e f g i t u v]/\∃I J,al 133 [.aB 0 0,vN 3,vS [44]] [K7 G a b c d e f g i t u v] [vB I] [K7 J a b c d e f g i t u v]/\Lp f136 0 (nf I J a b c d e f g i t u v j E) 3 r h)
 (∃K M Q T,al 190 [.aB 0 0,vN 3,vS [125]] [K7 k a b c d e f g i l m n] [] [K7 K a b c d e f g i M Q T]/\Fi r h [] [K7 K a b c d e f g i M Q T,.aH [vS j,O 4 o],.aH [.aB 0 0]]))) (∃X Y Z F,al 190 [.aB 0 0,vN 3,vS [125]] [K7 k a b c d e f g i l m n] [] [K7 X a b c d e f g i Y Z F]/\Fi r h [] [K7 X a b c d e f g i Y Z F,.aH [vS j,O 4 o],.aH [.aB 0 0]])):
  Lp f136 0 (nf w k a b c d e f g i l m n j o) 3 r h:=.of HS H
def ng(a:Bool)(b:Rw)(c d:Int)(e:Cx)(f g i:Rw)(j k l m:Int)(n:Cx)(o:By)(p q:Int)(s:Rw):St:=⟨aO 23 [(0,.aB 0 0),(1,.fn (.func 192) [] [.aB 1 0,.aB 2 0]),(4,vB a)],[],[K7 b c d e f g i j k l m n,.aH [vS o,vN p,vN q,O 3 s],.aH [.aB 0 0]]⟩
def HT:bu:={mod:=[(0,1,[(0,[0,9,10,11])]),(3,1,[(0,[3]),(2,[0,9,10,11])]),(4,1,[(0,[0])]),(5,1,[(0,[0,9,10,11])])],cut:=[(2,{bl:=[0,1,4]})]}
def RT(H:∃s t u v,al 190 [.aB 0 0,vN 3,vS [123]] [K7 j a b c d e f g i k l m] [] [K7 s a b c d e f g i t u v]/\Lp f136 0 (ng false s a b c d e f g i t u v n o p q) 3 r h):
  al 136 [.aB 0 0,.fn (.func 192) [] [.aB 1 0,.aB 2 0]] [K7 j a b c d e f g i k l m,.aH [vS n,vN o,vN p,O 3 q],.aH [.aB 0 0]] r h:=.of func136 HT H
def K3(H:cc 97 [.aB 0 0] [K7 m a b c d e f g i n o p] fun a3=>aw a3 (aw y (∃z D s t u,al 192 [.aB 0 0,.aB 1 0] [.aH [vS j,vN k,vN l,O 3 q],.aH [.aB 2 0],K7 m a b c d e f g i n o p] [] [.aH [vS j,vN k,vN l,O 3 z],.aH [.aB 2 0],K7 D a b c d e f g i s t u]/\∃E G,al 133 [.aB 0 0,vN 3,vS [44]] [K7 D a b c d e f g i s t u] [vB E] [K7 G a b c d e f g i s t u]/\Lp f136 0 (ng E G a b c d e f g i s t u j k l z) 3 r h) (cc 187 [.aB 0 0,vN 3,vS [125]] [K7 m a b c d e f g i n o p] fun a4=>aw (!a4) (∃I J v w x,al 192 [.aB 0 0,.aB 1 0] [.aH [vS j,vN k,vN l,O 3 q],.aH [.aB 2 0],K7 m a b c d e f g i n o p] [] [.aH [vS j,vN k,vN l,O 3 I],.aH [.aB 2 0],K7 J a b c d e f g i v w x]/\∃K M,al 133 [.aB 0 0,vN 3,vS [44]] [K7 J a b c d e f g i v w x] [vB K] [K7 M a b c d e f g i v w x]/\Lp f136 0 (ng K M a b c d e f g i v w x j k l I) 3 r h)
 (∃Q T X Y,al 190 [.aB 0 0,vN 3,vS [125]] [K7 m a b c d e f g i n o p] [] [K7 Q a b c d e f g i T X Y]/\Fi r h [] [K7 Q a b c d e f g i T X Y,.aH [vS j,vN k,vN l,O 3 q],.aH [.aB 0 0]]))) (∃Z F A R,al 190 [.aB 0 0,vN 3,vS [125]] [K7 m a b c d e f g i n o p] [] [K7 Z a b c d e f g i F A R]/\Fi r h [] [K7 Z a b c d e f g i F A R,.aH [vS j,vN k,vN l,O 3 q],.aH [.aB 0 0]])):
  Lp f136 0 (ng y m a b c d e f g i n o p j k l q) 3 r h:=.of HT H
def ags:bu:={an:=[(0,1,je),(0,2,fh),(0,3,iC),(0,7,je)],mod:=[(0,3,[(0,[0,9,10,11])])]}
def agt(j p:Rw)(H:∃k l m n u v w x,al 138 [.aB 0 0] [K7 p a b c d e f g i q s t] [.agg [S k,N l,N m,L 3 n]] [K7 u a b c d e f g i v w x]/\(j++([[S k,N l,N m,L 3 n]]:Rw)).length*56<=2^47/\Fi r h [] [.aH [vS o,O 4 (j++([[S k,N l,N m,L 3 n]]:Rw))],.aH [.aB 2 0],K7 u a b c d e f g i v w x]):
  al 137 [.aB 0 0,.aB 1 0] [.aH [vS o,O 4 j],.aH [.aB 2 0],K7 p a b c d e f g i q s t] r h:=.of func137 ags H
def agu:bu:={mod:=[(1,1,[(0,[0])]),(2,1,[(0,[0,9,10,11])]),(3,1,[(0,[0,9,10,11])]),(4,2,[(0,[0,9,10,11]),(1,[])])]}
def agv(H:∃o m,al 133 [.aB 0 0,vN 1,vS [85,83,69]] [K7 n a b c d e f g i j k l] [vB o] [K7 m a b c d e f g i j k l]/\aw o (∃p q s t u,al 134 [.aB 0 0] [K7 m a b c d e f g i j k l] [vS p] [K7 q a b c d e f g i s t u]/\Fi r h [.agg [S p,N 0,N 0,L 3 []]] [K7 q a b c d e f g i s t u])
 (∃v w x y z D,al 191 [.aB 0 0] [K7 m a b c d e f g i j k l] [.agg [N v,N w]] [K7 x a b c d e f g i y z D]/\∃E G I J K M Q T,al 136 [.aB 0 0,.fn (.func 192) [] [.aB 1 0,.aB 2 0]] [K7 x a b c d e f g i y z D,.aH [vS [],vN v,vN w,O 3 []],.aH [.aB 0 0]] [] [K7 E a b c d e f g i G I J,.aH [vS K,vN M,vN Q,O 3 T],.aH [.aB 0 0]]/\Fi r h [.agg [S K,N M,N Q,L 3 T]] [K7 E a b c d e f g i G I J])):
  al 138 [.aB 0 0] [K7 n a b c d e f g i j k l] r h:=.of func138 agu H
def agw:bu:={an:=[(6,3,iC),(6,7,fg),(6,11,fg)],mod:=[(1,1,[(0,[0,9,10,11])]),(2,1,[(0,[0,9,10,11])]),(3,1,[(0,[0,9,10,11])]),(5,2,[(0,[9,10,11])])]}
def agx(H:∃k y z D E,al 194 [.aB 0 0] [K7 q a b c d e f g i s t u] [vL 1 k] [K7 y a b c d e f g i z D E]/\∃G I J K,al 190 [.aB 0 0,vN 1,vS [68,69,70,65,85,76,84]] [K7 y a b c d e f g i z D E] [] [K7 G a b c d e f g i I J K]/\∃l m j n o p,al 191 [.aB 0 0] [K7 G a b c d e f g i I J K] [.agg [N l,N m]] [K7 j a b c d e f g i n o p]/\aw (decide ((f.length:Int)>0)) (∃M Q T,al 99 [.aB 0 0,.agg [N v,N w,C x],vN 11] [K7 j a b c d e f g i n o p] [] [K7 j a b c d e f g i M Q T]/\Fi r h [] [K7 j a b c d e k l m M Q T])
 (Fi r h [] [K7 j a b c d e k l m n o p])):
  al 139 [.aB 0 0,.agg [N v,N w,C x]] [K7 q a b c d e f g i s t u] r h:=.of func139 agw H
def abl:bu:={an:=[(1,3,aa),(1,4,aa),(1,5,aa),(1,6,aa),(1,7,aa),(1,8,aa),(1,17,ah),(1,28,ah)]}
def abm(H:cc 97 [.aB 0 0] [K8 a b c d e f g i j k l m] fun p=>aw (bif p then(decide ((a.length:Int)>0))else false) (de a 0 fun q t u v=>aw (q==n) (de a 0 fun w s x y=>Fi r h [vB (s==o)] [K8 a b c d e f g i j k l m]) (Fi r h [vB false] [K8 a b c d e f g i j k l m])) (Fi r h [vB false] [K8 a b c d e f g i j k l m])):
  al 187 [.aB 0 0,vN n,vS o] [K8 a b c d e f g i j k l m] r h:=.of func187 abl H
def agy:bu:={an:=[(1,3,aa),(1,4,aa),(1,5,aa),(1,6,aa),(1,7,aa),(1,8,aa),(1,17,ah),(1,28,ah)]}
def agz(H:cc 97 [.aB 0 0] [K7 a b c d e f g i j k l m] fun p=>aw (bif p then(decide ((a.length:Int)>0))else false) (de a 0 fun q t u v=>aw (q==n) (de a 0 fun w s x y=>Fi r h [vB (s==o)] [K7 a b c d e f g i j k l m]) (Fi r h [vB false] [K7 a b c d e f g i j k l m])) (Fi r h [vB false] [K7 a b c d e f g i j k l m])):
  al 187 [.aB 0 0,vN n,vS o] [K7 a b c d e f g i j k l m] r h:=.of func187 agy H
def agA:bu:={an:=[(1,3,aa),(1,4,aa),(1,5,aa),(1,6,aa),(1,7,aa),(1,8,aa),(1,17,ah),(1,27,ah),(1,28,ah)]}
def agB(H:cc 97 [.aB 0 0] [K7 a b c d e f g i j k l m] fun n=>aw (bif n then(decide ((a.length:Int)>0))else false) (de a 0 fun o s t u=>aw (o==1) (de a 0 fun v p w x=>cc 144 [vS p] [] fun q=>Fi r h [vB q] [K7 a b c d e f g i j k l m]) (Fi r h [vB false] [K7 a b c d e f g i j k l m])) (Fi r h [vB false] [K7 a b c d e f g i j k l m])):
  al 188 [.aB 0 0] [K7 a b c d e f g i j k l m] r h:=.of func188 agA H
def abn:bu:={an:=[(1,3,aa),(1,4,aa),(1,5,aa),(1,6,aa),(1,7,aa),(1,8,aa),(1,17,ah),(1,27,ah),(1,28,ah)]}
def abo(H:cc 97 [.aB 0 0] [K8 a b c d e f g i j k l m] fun n=>aw (bif n then(decide ((a.length:Int)>0))else false) (de a 0 fun o s t u=>aw (o==1) (de a 0 fun v p w x=>cc 144 [vS p] [] fun q=>Fi r h [vB q] [K8 a b c d e f g i j k l m]) (Fi r h [vB false] [K8 a b c d e f g i j k l m])) (Fi r h [vB false] [K8 a b c d e f g i j k l m])):
  al 188 [.aB 0 0] [K8 a b c d e f g i j k l m] r h:=.of func188 abn H
def agC:bu:={mod:=[(2,1,[(0,[0,9,10,11])]),(3,1,[(0,[0,9,10,11])])]}
def agD(H:cc 188 [.aB 0 0] [K7 j a b c d e f g i k l m] fun y=>aw y (∃n o p q s,al 134 [.aB 0 0] [K7 j a b c d e f g i k l m] [vS n] [K7 o a b c d e f g i p q s]/\Fi r h [.agg [N 5,S [],S n,U 0,L 5 []]] [K7 o a b c d e f g i p q s])
 (∃t u v w x,al 259 [.aB 0 0,vU 18446744073709551615] [K7 j a b c d e f g i k l m] [vU t] [K7 u a b c d e f g i v w x]/\Fi r h [.agg [N 7,S [],S [],U t,L 5 []]] [K7 u a b c d e f g i v w x])):
  al 189 [.aB 0 0] [K7 j a b c d e f g i k l m] r h:=.of func189 agC H
def abp:bu:={mod:=[(2,1,[(0,[0,9,10,11])]),(3,1,[(0,[0,9,10,11])])]}
def abq(H:cc 188 [.aB 0 0] [K8 j a b c d e f g i k l m] fun y=>aw y (∃n o p q s,al 134 [.aB 0 0] [K8 j a b c d e f g i k l m] [vS n] [K8 o a b c d e f g i p q s]/\Fi r h [.agg [N 5,S [],S n,U 0,L 5 []]] [K8 o a b c d e f g i p q s])
 (∃t u v w x,al 259 [.aB 0 0,vU 18446744073709551615] [K8 j a b c d e f g i k l m] [vU t] [K8 u a b c d e f g i v w x]/\Fi r h [.agg [N 7,S [],S [],U t,L 5 []]] [K8 u a b c d e f g i v w x])):
  al 189 [.aB 0 0] [K8 j a b c d e f g i k l m] r h:=.of func189 abp H
def agE:bu:={mod:=[(0,3,[(0,[0])]),(1,3,[(0,[9,10,11])])]}
def agF(H:∃q m,al 133 [.aB 0 0,vN o,vS p] [K7 n a b c d e f g i j k l] [vB q] [K7 m a b c d e f g i j k l]/\aw (!q) (∃s t u,al 100 [.aB 0 0] [K7 m a b c d e f g i j k l] [.agg [N s,N t,C u]] [K7 m a b c d e f g i j k l]/\∃v w x,al 99 [.aB 0 0,.agg [N s,N t,C u],vN 3] [K7 m a b c d e f g i j k l] [] [K7 m a b c d e f g i v w x]/\Fi r h [] [K7 m a b c d e f g i v w x])
 (Fi r h [] [K7 m a b c d e f g i j k l])):
  al 190 [.aB 0 0,vN o,vS p] [K7 n a b c d e f g i j k l] r h:=.of func190 agE H
def agG:bu:={an:=[(7,2,ah)],mod:=[(3,3,[(0,[9,10,11])]),(8,1,[(0,[0,9,10,11])])]}
def agH(H:L4 260 [.aB 0 0] [K7 a b c d e f g i j k l m] fun n D=>aw (!D) (∃o p q,al 100 [.aB 0 0] [K7 a b c d e f g i j k l m] [.agg [N o,N p,C q]] [K7 a b c d e f g i j k l m]/\∃s t u,al 99 [.aB 0 0,.agg [N o,N p,C q],vN 3] [K7 a b c d e f g i j k l m] [] [K7 a b c d e f g i j s t u]/\Fi r h [.agg [N 0,N 0]] [K7 a b c d e f g i j s t u])
 ((0<=(1:Int)/\(1:Int)<=(a.length:Int)/\(a.length:Int)<=(a.length:Int))/\cc 182 [vL 1 [[N 3],[N 4],[N 5]],vN n] [] fun E=>aw E (∃v w x y z,al 261 [.aB 0 0] [K7 (drop 1 (take a.length a)) b c d e f g i j k l m] [vN v] [K7 w b c d e f g i j x y z]/\Fi r h [.agg [N n,N v]] [K7 w b c d e f g i j x y z])
 (Fi r h [.agg [N n,N 0]] [K7 (drop 1 (take a.length a)) b c d e f g i j k l m]))):
  al 191 [.aB 0 0] [K7 a b c d e f g i j k l m] r h:=.of func191 agG H
def agI:bu:={an:=[(0,1,je),(0,2,fh),(0,3,iC),(0,7,je)],mod:=[(0,3,[(0,[0,9,10,11])])]}
def agJ(j q:Rw)(H:∃k l m v w x y,al 193 [.aB 0 0] [K7 q a b c d e f g i s t u] [.agg [S k,L 1 l,L 5 m]] [K7 v a b c d e f g i w x y]/\(j++([[S k,L 1 l,L 5 m]]:Rw)).length*64<=2^47/\Fi r h [] [.aH [vS n,vN o,vN p,O 3 (j++([[S k,L 1 l,L 5 m]]:Rw))],.aH [.aB 2 0],K7 v a b c d e f g i w x y]):
  al 192 [.aB 0 0,.aB 1 0] [.aH [vS n,vN o,vN p,O 3 j],.aH [.aB 2 0],K7 q a b c d e f g i s t u] r h:=.of func192 agI H
def agK:bu:={an:=[(9,4,ah)],mod:=[(1,1,[(0,[0,9,10,11])]),(2,1,[(0,[0])]),(2,4,[(0,[0])]),(3,1,[(0,[0,9,10,11])]),(4,1,[(0,[0,9,10,11])]),(6,1,[(0,[0])]),(8,1,[(0,[0,9,10,11])]),(10,2,[(0,[9,10,11])]),(11,1,[(0,[0,9,10,11])])]}
def agL(j7:∃m b7 j k l,al 134 [.aB 0 0] [K7 b3 a b c d e f g i b4 b5 b6] [vS m] [K7 b7 a b c d e f g i j k l]/\∃b8 u,al 133 [.aB 0 0,vN 3,vS [40]] [K7 b7 a b c d e f g i j k l] [vB b8] [K7 u a b c d e f g i j k l]/\aw b8 (∃b9 v,al 133 [.aB 0 0,vN 3,vS [41]] [K7 u a b c d e f g i j k l] [vB b9] [K7 v a b c d e f g i j k l]/\aw (!b9) (∃w c0 c1 c2 c3,al 194 [.aB 0 0] [K7 v a b c d e f g i j k l] [vL 1 w] [K7 c0 a b c d e f g i c1 c2 c3]/\∃a9 n o p,al 190 [.aB 0 0,vN 3,vS [41]] [K7 c0 a b c d e f g i c1 c2 c3] [] [K7 a9 a b c d e f g i n o p]/\∃c4 c5 c6,al 100 [.aB 0 0] [K7 a9 a b c d e f g i n o p] [.agg [N c4,N c5,C c6]] [K7 a9 a b c d e f g i n o p]/\∃c7 b0,al 133 [.aB 0 0,vN 3,vS [123]] [K7 a9 a b c d e f g i n o p] [vB c7] [K7 b0 a b c d e f g i n o p]/\aw (!c7) (Fi r h [.agg [S m,L 1 w,L 5 []]] [K7 b0 a b c d e f g i n o p])
 (∃x y z D E q G I J,al 262 [.aB 0 0] [K7 b0 a b c d e f g i n o p] [.agg [N x,S y,S z,U D,L 5 E]] [K7 q a b c d e f g i G I J]/\cc 97 [.aB 0 0] [K7 q a b c d e f g i G I J] fun j1=>aw j1 (kL 263 [.agg [N x,S y,S z,U D,L 5 E]] [] fun j2=>aw (decide (j2>30)) (∃c8 c9 d0,al 99 [.aB 0 0,.agg [N c4,N c5,C c6],vN 6] [K7 q a b c d e f g i G I J] [] [K7 q a b c d e f g i c8 c9 d0]/\∃d1 d2 d3 d4,al 190 [.aB 0 0,vN 3,vS [125]] [K7 q a b c d e f g i c8 c9 d0] [] [K7 d1 a b c d e f g i d2 d3 d4]/\Fi r h [.agg [S m,L 1 w,L 5 [[N x,S y,S z,U D,L 5 E]]]] [K7 d1 a b c d e f g i d2 d3 d4])
 (∃d5 d6 d7 d8,al 190 [.aB 0 0,vN 3,vS [125]] [K7 q a b c d e f g i G I J] [] [K7 d5 a b c d e f g i d6 d7 d8]/\Fi r h [.agg [S m,L 1 w,L 5 [[N x,S y,S z,U D,L 5 E]]]] [K7 d5 a b c d e f g i d6 d7 d8])) (∃d9 e0 e1 e2,al 190 [.aB 0 0,vN 3,vS [125]] [K7 q a b c d e f g i G I J] [] [K7 d9 a b c d e f g i e0 e1 e2]/\Fi r h [.agg [S m,L 1 w,L 5 [[N x,S y,S z,U D,L 5 E]]]] [K7 d9 a b c d e f g i e0 e1 e2])))
 (∃e3 e4 e5,al 100 [.aB 0 0] [K7 v a b c d e f g i j k l] [.agg [N e3,N e4,C e5]] [K7 v a b c d e f g i j k l]/\∃e6 b1,al 133 [.aB 0 0,vN 3,vS [123]] [K7 v a b c d e f g i j k l] [vB e6] [K7 b1 a b c d e f g i j k l]/\aw (!e6) (Fi r h [.agg [S m,L 1 [],L 5 []]] [K7 b1 a b c d e f g i j k l])
 (∃K M Q T X s Y Z H,al 262 [.aB 0 0] [K7 b1 a b c d e f g i j k l] [.agg [N K,S M,S Q,U T,L 5 X]] [K7 s a b c d e f g i Y Z H]/\cc 97 [.aB 0 0] [K7 s a b c d e f g i Y Z H] fun j3=>aw j3 (kL 263 [.agg [N K,S M,S Q,U T,L 5 X]] [] fun j4=>aw (decide (j4>30)) (∃e7 e8 e9,al 99 [.aB 0 0,.agg [N e3,N e4,C e5],vN 6] [K7 s a b c d e f g i Y Z H] [] [K7 s a b c d e f g i e7 e8 e9]/\∃f0 f1 f2 f3,al 190 [.aB 0 0,vN 3,vS [125]] [K7 s a b c d e f g i e7 e8 e9] [] [K7 f0 a b c d e f g i f1 f2 f3]/\Fi r h [.agg [S m,L 1 [],L 5 [[N K,S M,S Q,U T,L 5 X]]]] [K7 f0 a b c d e f g i f1 f2 f3])
 (∃f4 f5 f6 f7,al 190 [.aB 0 0,vN 3,vS [125]] [K7 s a b c d e f g i Y Z H] [] [K7 f4 a b c d e f g i f5 f6 f7]/\Fi r h [.agg [S m,L 1 [],L 5 [[N K,S M,S Q,U T,L 5 X]]]] [K7 f4 a b c d e f g i f5 f6 f7])) (∃f8 f9 g0 g1,al 190 [.aB 0 0,vN 3,vS [125]] [K7 s a b c d e f g i Y Z H] [] [K7 f8 a b c d e f g i f9 g0 g1]/\Fi r h [.agg [S m,L 1 [],L 5 [[N K,S M,S Q,U T,L 5 X]]]] [K7 f8 a b c d e f g i f9 g0 g1])))) (∃g2 g3 g4,al 100 [.aB 0 0] [K7 u a b c d e f g i j k l] [.agg [N g2,N g3,C g4]] [K7 u a b c d e f g i j k l]/\∃g5 b2,al 133 [.aB 0 0,vN 3,vS [123]] [K7 u a b c d e f g i j k l] [vB g5] [K7 b2 a b c d e f g i j k l]/\aw (!g5) (Fi r h [.agg [S m,L 1 [],L 5 []]] [K7 b2 a b c d e f g i j k l])
 (∃F A R a4 a5 t a6 a7 a8,al 262 [.aB 0 0] [K7 b2 a b c d e f g i j k l] [.agg [N F,S A,S R,U a4,L 5 a5]] [K7 t a b c d e f g i a6 a7 a8]/\cc 97 [.aB 0 0] [K7 t a b c d e f g i a6 a7 a8] fun j5=>aw j5 (kL 263 [.agg [N F,S A,S R,U a4,L 5 a5]] [] fun j6=>aw (decide (j6>30)) (∃g6 g7 g8,al 99 [.aB 0 0,.agg [N g2,N g3,C g4],vN 6] [K7 t a b c d e f g i a6 a7 a8] [] [K7 t a b c d e f g i g6 g7 g8]/\∃g9 i0 i1 i2,al 190 [.aB 0 0,vN 3,vS [125]] [K7 t a b c d e f g i g6 g7 g8] [] [K7 g9 a b c d e f g i i0 i1 i2]/\Fi r h [.agg [S m,L 1 [],L 5 [[N F,S A,S R,U a4,L 5 a5]]]] [K7 g9 a b c d e f g i i0 i1 i2])
 (∃i3 i4 i5 i6,al 190 [.aB 0 0,vN 3,vS [125]] [K7 t a b c d e f g i a6 a7 a8] [] [K7 i3 a b c d e f g i i4 i5 i6]/\Fi r h [.agg [S m,L 1 [],L 5 [[N F,S A,S R,U a4,L 5 a5]]]] [K7 i3 a b c d e f g i i4 i5 i6])) (∃i7 i8 i9 j0,al 190 [.aB 0 0,vN 3,vS [125]] [K7 t a b c d e f g i a6 a7 a8] [] [K7 i7 a b c d e f g i i8 i9 j0]/\Fi r h [.agg [S m,L 1 [],L 5 [[N F,S A,S R,U a4,L 5 a5]]]] [K7 i7 a b c d e f g i i8 i9 j0])))):
  al 193 [.aB 0 0] [K7 b3 a b c d e f g i b4 b5 b6] r h:=.of func193 agK j7
abbrev Fg(a b:Rw)(c d:Int)(e:Cx)(f g i:Rw)(j k l m:Int)(n:Cx)r h:=Lp f194 0 ⟨aO 15 [(0,.aB 0 0),(3,.own 0 0 1 a)],[some 0],[K7 b c d e f g i j k l m n]⟩ 1 r h
def abr:bu:={an:=[(1,2,{bD:=true})],mod:=[(1,1,[(0,[0,9,10,11])]),(2,1,[(0,[0])]),(3,2,[(0,[0,9,10,11])])],cut:=[(2,{bl:=[0,3],cW:=[(3,1)],owns:=[3]})]}
def agM(H:∃n o p q s,al 134 [.aB 0 0] [K7 j a b c d e f g i k l m] [vS n] [K7 o a b c d e f g i p q s]/\Fg [[S n]] o a b c d e f g i p q s r h):
  al 194 [.aB 0 0] [K7 j a b c d e f g i k l m] r h:=.of func194 abr H
def Zj(m p:Rw)(H:∃q n,al 133 [.aB 0 0,vN 3,vS [44]] [K7 p a b c d e f g i j k l] [vB q] [K7 n a b c d e f g i j k l]/\aw q (∃o s t u v,al 134 [.aB 0 0] [K7 n a b c d e f g i j k l] [vS o] [K7 s a b c d e f g i t u v]/\(m++([[S o]]:Rw)).length*16<=2^47/\Fg (m++([[S o]]:Rw)) s a b c d e f g i t u v r h)
 (Fi r h [.own 0 0 1 m] [K7 n a b c d e f g i j k l])):
  Fg m p a b c d e f g i j k l r h:=.of abr H
abbrev zS(a:Rw)(b c:Int)(d:Cx)(e f g:Rw)(i j k l:Int)(m:Cx)r h:=Rp f259 6 ⟨aO 57 [(0,.aB 0 0)],[],[K7 a b c d e f g i j k l m]⟩ 1 r h
def abt:bu:={an:=[(1,3,aa),(1,4,aa),(1,5,aa),(1,6,aa),(1,7,aa),(1,8,aa),(1,17,ah),(2,6,ah),(2,7,ah),(3,2,aa),(3,3,aa),(3,4,aa)],mod:=[(6,3,[(0,[9,10,11])])],join:=[(6,{bl:=[0]})]}
def agN(H:cc 97 [.aB 0 0] [K7 a b c d e f g i j k l m] fun q=>aw (bif q then(decide ((a.length:Int)>0))else false) (de a 0 fun s u v w=>aw (s==2) (de a 0 fun x t y z=>∃n p,al 251 [vS t] [] [vU n,vB p] []/\aw (bif p then(decide (n<=o))else false) ((0<=(1:Int)/\(1:Int)<=(a.length:Int)/\(a.length:Int)<=(a.length:Int))/\Fi r h [vU n] [K7 (drop 1 (take a.length a)) b c d e f g i j k l m])
 (zS a b c d e f g i j k l m r h))
 (zS a b c d e f g i j k l m r h)) (zS a b c d e f g i j k l m r h)):
  al 259 [.aB 0 0,vU o] [K7 a b c d e f g i j k l m] r h:=.of func259 abt H
def Zk(H:∃n o p,al 100 [.aB 0 0] [K7 a b c d e f g i j k l m] [.agg [N n,N o,C p]] [K7 a b c d e f g i j k l m]/\∃q s t,al 99 [.aB 0 0,.agg [N n,N o,C p],vN 3] [K7 a b c d e f g i j k l m] [] [K7 a b c d e f g i j q s t]/\Fi r h [vU 0] [K7 a b c d e f g i j q s t]):
  zS a b c d e f g i j k l m r h:=yx.of abt H
abbrev vl(a:Rw)(b c:Int)(d:Cx)(e f g:Rw)(i j k l:Int)(m:Cx)r h:=Rp f259 6 ⟨aO 57 [(0,.aB 0 0)],[],[K8 a b c d e f g i j k l m]⟩ 1 r h
def Xa:bu:={an:=[(1,3,aa),(1,4,aa),(1,5,aa),(1,6,aa),(1,7,aa),(1,8,aa),(1,17,ah),(2,6,ah),(2,7,ah),(3,2,aa),(3,3,aa),(3,4,aa)],mod:=[(6,3,[(0,[9,10,11])])],join:=[(6,{bl:=[0]})]}
def abu(H:cc 97 [.aB 0 0] [K8 a b c d e f g i j k l m] fun q=>aw (bif q then(decide ((a.length:Int)>0))else false) (de a 0 fun s u v w=>aw (s==2) (de a 0 fun x t y z=>∃n p,al 251 [vS t] [] [vU n,vB p] []/\aw (bif p then(decide (n<=o))else false) ((0<=(1:Int)/\(1:Int)<=(a.length:Int)/\(a.length:Int)<=(a.length:Int))/\Fi r h [vU n] [K8 (drop 1 (take a.length a)) b c d e f g i j k l m])
 (vl a b c d e f g i j k l m r h))
 (vl a b c d e f g i j k l m r h)) (vl a b c d e f g i j k l m r h)):
  al 259 [.aB 0 0,vU o] [K8 a b c d e f g i j k l m] r h:=.of func259 Xa H
def Vs(H:∃n o p,al 100 [.aB 0 0] [K8 a b c d e f g i j k l m] [.agg [N n,N o,C p]] [K8 a b c d e f g i j k l m]/\∃q s t,al 99 [.aB 0 0,.agg [N n,N o,C p],vN 3] [K8 a b c d e f g i j k l m] [] [K8 a b c d e f g i j q s t]/\Fi r h [vU 0] [K8 a b c d e f g i j q s t]):
  vl a b c d e f g i j k l m r h:=yx.of Xa H
def agO:bu:={an:=[(1,4,aa),(1,5,aa),(1,6,aa),(1,7,aa),(1,8,aa),(1,9,aa),(1,18,ah),(3,6,ah),(3,7,ah)]}
def agP(H:cc 97 [.aB 0 0] [K7 a b c d e f g i j k l m] fun n=>aw (bif(!n)then true else((a.length:Int)==0)) (Fi r h [vN 0,vB false] [K7 a b c d e f g i j k l m]) (de a 0 fun o t u v=>aw (o !=1) (Fi r h [vN 0,vB false] [K7 a b c d e f g i j k l m])
 (de a 0 fun w p x y=>L4 322 [vS p] [] fun q s=>Fi r h [vN q,vB s] [K7 a b c d e f g i j k l m]))):
  al 260 [.aB 0 0] [K7 a b c d e f g i j k l m] r h:=.of func260 agO H
def agQ:bu:={mod:=[(1,1,[(0,[0,9,10,11])]),(2,1,[(0,[0,9,10,11])]),(3,1,[(0,[0,9,10,11])])]}
def agR(H:∃n o p q,al 190 [.aB 0 0,vN 3,vS [40]] [K7 j a b c d e f g i k l m] [] [K7 n a b c d e f g i o p q]/\∃s t u v w,al 259 [.aB 0 0,vU 65535] [K7 n a b c d e f g i o p q] [vU s] [K7 t a b c d e f g i u v w]/\∃x y z D,al 190 [.aB 0 0,vN 3,vS [41]] [K7 t a b c d e f g i u v w] [] [K7 x a b c d e f g i y z D]/\Fi r h [vN (wrap .i64 s)] [K7 x a b c d e f g i y z D]):
  al 261 [.aB 0 0] [K7 j a b c d e f g i k l m] r h:=.of func261 agQ H
def Fh(a:Rw)(b c:Int)(d:Cx)(e f g:Rw)(i j k l:Int)(m:Cx)(n:Int)(o p:By)(q:Int)(s:Rw)(t:Int)(u v:By)(w:Int)(x:Rw):St:=⟨aO 14 [(0,.aB 0 0),(2,.aB 1 0),(3,.aB 2 0)],[],[K7 a b c d e f g i j k l m,.aH [vN n,vS o,vS p,vU q,O 5 s],.aH [vN t,vS u,vS v,vU w,vL 5 x]]⟩
def abv:bu:={an:=[(3,0,iC),(3,2,fg),(3,5,iC)],mod:=[(1,1,[(0,[0,9,10,11])]),(2,1,[(0,[0])]),(3,2,[(0,[0,9,10,11])])],cut:=[(2,{bl:=[0,2,3]})]}
def agS(H:∃n o p q s t u v w,al 323 [.aB 0 0] [K7 j a b c d e f g i k l m] [.agg [N n,S o,S p,U q,L 5 s]] [K7 t a b c d e f g i u v w]/\Lp f262 0 (Fh t a b c d e f g i u v w 0 [] [] 0 [] n o p q s) 1 r h):
  al 262 [.aB 0 0] [K7 j a b c d e f g i k l m] r h:=.of func262 abv H
def Zl(H:∃z s,al 133 [.aB 0 0,vN 3,vS [124,124]] [K7 t a b c d e f g i j k l] [vB z] [K7 s a b c d e f g i j k l]/\aw z (∃D E G I J K M Q T,al 323 [.aB 0 0] [K7 s a b c d e f g i j k l] [.agg [N D,S E,S G,U I,L 5 J]] [K7 K a b c d e f g i M Q T]/\Lp f262 0 (Fh K a b c d e f g i M Q T u v w x y 1 [] [] 0 [[N m,S n,S o,U p,L 5 q],[N D,S E,S G,U I,L 5 J]]) 1 r h)
 (Fi r h [.agg [N m,S n,S o,U p,L 5 q]] [K7 s a b c d e f g i j k l])):
  Lp f262 0 (Fh t a b c d e f g i j k l u v w x y m n o p q) 1 r h:=.of abv H
def agT:bu:={}
def agU(a:By)(H:aw (a==[65,76,76,79,87]) (Fi r h [vN 7,vB true] [])
 (aw (a==[76,79,71]) (Fi r h [vN 6,vB true] [])
 (aw (a==[75,73,76,76]) (Fi r h [vN 2,vB true] [])
 (aw (a==[75,73,76,76,95,80,82,79,67,69,83,83]) (Fi r h [vN 1,vB true] [])
 (aw (a==[84,82,65,80]) (Fi r h [vN 3,vB true] [])
 (aw (a==[69,82,82,78,79]) (Fi r h [vN 4,vB true] [])
 (aw (a==[84,82,65,67,69]) (Fi r h [vN 5,vB true] [])
 (Fi r h [vN 0,vB false] [])))))))):
  al 322 [vS a] [] r h:=.of func322 agT H
def Fj(a:Rw)(b c:Int)(d:Cx)(e f g:Rw)(i j k l:Int)(m:Cx)(n:Int)(o p:By)(q:Int)(s:Rw)(t:Int)(u v:By)(w:Int)(x:Rw):St:=⟨aO 14 [(0,.aB 0 0),(2,.aB 1 0),(3,.aB 2 0)],[],[K7 a b c d e f g i j k l m,.aH [vN n,vS o,vS p,vU q,O 5 s],.aH [vN t,vS u,vS v,vU w,vL 5 x]]⟩
def abw:bu:={an:=[(3,0,iC),(3,2,fg),(3,5,iC)],mod:=[(1,1,[(0,[0,9,10,11])]),(2,1,[(0,[0])]),(3,2,[(0,[0,9,10,11])])],cut:=[(2,{bl:=[0,2,3]})]}
def agV(H:∃n o p q s t u v w,al 353 [.aB 0 0] [K7 j a b c d e f g i k l m] [.agg [N n,S o,S p,U q,L 5 s]] [K7 t a b c d e f g i u v w]/\Lp f323 0 (Fj t a b c d e f g i u v w 0 [] [] 0 [] n o p q s) 1 r h):
  al 323 [.aB 0 0] [K7 j a b c d e f g i k l m] r h:=.of func323 abw H
def Zm(H:∃z s,al 133 [.aB 0 0,vN 3,vS [38,38]] [K7 t a b c d e f g i j k l] [vB z] [K7 s a b c d e f g i j k l]/\aw z (∃D E G I J K M Q T,al 353 [.aB 0 0] [K7 s a b c d e f g i j k l] [.agg [N D,S E,S G,U I,L 5 J]] [K7 K a b c d e f g i M Q T]/\Lp f323 0 (Fj K a b c d e f g i M Q T u v w x y 2 [] [] 0 [[N m,S n,S o,U p,L 5 q],[N D,S E,S G,U I,L 5 J]]) 1 r h)
 (Fi r h [.agg [N m,S n,S o,U p,L 5 q]] [K7 s a b c d e f g i j k l])):
  Lp f323 0 (Fj t a b c d e f g i j k l u v w x y m n o p q) 1 r h:=.of abw H
def agW:bu:={an:=[(11,1,iC),(11,3,fg),(11,6,fh)],mod:=[(1,1,[(0,[0])]),(2,1,[(0,[0,9,10,11])]),(3,1,[(0,[0])]),(4,1,[(0,[0,9,10,11])]),(5,1,[(0,[0,9,10,11])]),(7,1,[(0,[0,9,10,11])]),(8,1,[(0,[0])]),(9,1,[(0,[0,9,10,11])]),(10,1,[(0,[0,9,10,11])]),(11,3,[(0,[0,9,10,11])])]}
def agX(e6:∃v p,al 133 [.aB 0 0,vN 3,vS [33]] [K7 u a b c d e f g i j k l] [vB v] [K7 p a b c d e f g i j k l]/\aw v (∃w x y z D E G I J,al 353 [.aB 0 0] [K7 p a b c d e f g i j k l] [.agg [N w,S x,S y,U z,L 5 D]] [K7 E a b c d e f g i G I J]/\Fi r h [.agg [N 3,S [],S [],U 0,L 5 [[N w,S x,S y,U z,L 5 D]]]] [K7 E a b c d e f g i G I J])
 (∃K q,al 133 [.aB 0 0,vN 3,vS [40]] [K7 p a b c d e f g i j k l] [vB K] [K7 q a b c d e f g i j k l]/\aw K (∃M Q T X Y Z H F A,al 262 [.aB 0 0] [K7 q a b c d e f g i j k l] [.agg [N M,S Q,S T,U X,L 5 Y]] [K7 Z a b c d e f g i H F A]/\∃R a4 a5 a6,al 190 [.aB 0 0,vN 3,vS [41]] [K7 Z a b c d e f g i H F A] [] [K7 R a b c d e f g i a4 a5 a6]/\Fi r h [.agg [N M,S Q,S T,U X,L 5 Y]] [K7 R a b c d e f g i a4 a5 a6])
 (∃s a7 m n o,al 134 [.aB 0 0] [K7 q a b c d e f g i j k l] [vS s] [K7 a7 a b c d e f g i m n o]/\∃a8 t,al 133 [.aB 0 0,vN 3,vS [38]] [K7 a7 a b c d e f g i m n o] [vB a8] [K7 t a b c d e f g i m n o]/\aw a8 (∃a9 b0 b1 b2 b3 b4 b5 b6 b7,al 189 [.aB 0 0] [K7 t a b c d e f g i m n o] [.agg [N a9,S b0,S b1,U b2,L 5 b3]] [K7 b4 a b c d e f g i b5 b6 b7]/\∃b8 b9 c0 c1 c2,al 361 [.aB 0 0] [K7 b4 a b c d e f g i b5 b6 b7] [vS b8] [K7 b9 a b c d e f g i c0 c1 c2]/\∃c3 c4 c5 c6 c7 c8 c9 d0 d1,al 135 [.aB 0 0] [K7 b9 a b c d e f g i c0 c1 c2] [.agg [N c3,S c4,S c5,U c6,L 5 c7]] [K7 c8 a b c d e f g i c9 d0 d1]/\Fi r h [.agg [N 4,S b8,S [],U 0,L 5 [[N 6,S [],S s,U 0,L 5 [[N a9,S b0,S b1,U b2,L 5 b3]]],[N c3,S c4,S c5,U c6,L 5 c7]]]] [K7 c8 a b c d e f g i c9 d0 d1])
 (∃d2 d3 d4 d5 d6,al 361 [.aB 0 0] [K7 t a b c d e f g i m n o] [vS d2] [K7 d3 a b c d e f g i d4 d5 d6]/\∃d7 d8 d9 e0 e1 e2 e3 e4 e5,al 135 [.aB 0 0] [K7 d3 a b c d e f g i d4 d5 d6] [.agg [N d7,S d8,S d9,U e0,L 5 e1]] [K7 e2 a b c d e f g i e3 e4 e5]/\Fi r h [.agg [N 4,S d2,S [],U 0,L 5 [[N 5,S [],S s,U 0,L 5 []],[N d7,S d8,S d9,U e0,L 5 e1]]]] [K7 e2 a b c d e f g i e3 e4 e5])))):
  al 353 [.aB 0 0] [K7 u a b c d e f g i j k l] r h:=.of func353 agW e6
abbrev Fk(a:Rw)(b c:Int)(d:Rw)(e f:Int)(g:Cx)(i j k:Rw)(l m n o:Int)(p:Cx)r h:=Lp f361 0 ⟨aO 20 [(0,.aB 0 0),(5,vL 1 a),(6,vN b),(7,vN c)],[],[K7 d e f g i j k l m n o p]⟩ 1 r h
def abx:bu:={an:=[(3,1,ah)],mod:=[(4,2,[(0,[0])]),(7,3,[(0,[9,10,11])])],cut:=[(2,{bl:=[0,5,6,7]})]}
def agY(H:Fk [[S [61,61]],[S [33,61]],[S [60]],[S [60,61]],[S [62]],[S [62,61]]] 6 0 a b c d e f g i j k l m r h):
  al 361 [.aB 0 0] [K7 a b c d e f g i j k l m] r h:=.of func361 abx H
def RU(H:aw (decide (n<p)) (Ho o n fun z=>∃s q,al 133 [.aB 0 0,vN 3,vS z] [K7 m a b c d e f g i j k l] [vB s] [K7 q a b c d e f g i j k l]/\aw s (Fi r h [vS z] [K7 q a b c d e f g i j k l])
 (au (n+1)/\Fk o p (n+1) q a b c d e f g i j k l r h))
 (∃t u v,al 100 [.aB 0 0] [K7 m a b c d e f g i j k l] [.agg [N t,N u,C v]] [K7 m a b c d e f g i j k l]/\∃w x y,al 99 [.aB 0 0,.agg [N t,N u,C v],vN 3] [K7 m a b c d e f g i j k l] [] [K7 m a b c d e f g i w x y]/\Fi r h [vS []] [K7 m a b c d e f g i w x y])):
  Fk o p n m a b c d e f g i j k l r h:=.of abx H
def agZ:bu:={an:=[(1,9,aa),(1,10,aa),(1,11,aa),(1,12,aa),(1,22,ah)]}
def ag0(H:cc 142 [vL 6 d,.fn (.func 143) [] []] [] fun f=>aw f (cc 146 [vL 2 e,.fn (.func 147) [] []] [] fun g=>aw (bif g then(decide ((a.length:Int)>0))else false) (cc 150 [vL 1 a,.fn (.func 144) [] []] [] fun i=>aw i (cc 151 [.agg [N b,N c]] [] fun j=>Fi r h [vB j] []) (Fi r h [vB false] [])) (Fi r h [vB false] [])) (aw (bif false then(decide ((a.length:Int)>0))else false) (cc 150 [vL 1 a,.fn (.func 144) [] []] [] fun k=>aw k (cc 151 [.agg [N b,N c]] [] fun l=>Fi r h [vB l] []) (Fi r h [vB false] [])) (Fi r h [vB false] []))):
  al 102 [.agg [L 6 d,L 2 e,L 1 a,N b,N c]] [] r h:=.of func102 agZ H
def RV:bu:={}
def RW(H:cc 200 [vL 6 a,.fn (.func 201) [] [.aB 0 0]] [.aH [.fn (.func 143) [] []]] fun b=>Fi r h [vB (!b)] []):
  al 142 [vL 6 a,.fn (.func 143) [] []] [] r h:=.of func142 RV H
def ag1:bu:={an:=[(1,2,ah),(1,6,ah)]}
def ag2(H:cc 144 [vS a] [] fun g=>aw g (cc 145 [.agg [N b,S c,S d,U e,L 5 f]] [] fun i=>Fi r h [vB i] []) (Fi r h [vB false] [])):
  al 143 [.agg [S a,N b,S c,S d,U e,L 5 f]] [] r h:=.of func143 ag1 H
def ag3:bu:={an:=[(1,1,ah),(1,5,ah)]}
def ag4(a:By)(H:cc 202 [vS a] [] fun b=>aw b (cc 203 [vL 1 [[S [80,79,76,73,67,89]],[S [85,83,69]],[S [68,69,70,65,85,76,84]],[S [65,76,76,79,87]],[S [76,79,71]],[S [75,73,76,76]],[S [75,73,76,76,95,80,82,79,67,69,83,83]],[S [84,82,65,80]],[S [69,82,82,78,79]],[S [84,82,65,67,69]]],vS a] [] fun c=>Fi r h [vB (!c)] []) (Fi r h [vB false] [])):
  al 144 [vS a] [] r h:=.of func144 ag3 H
abbrev Fm(a:Int)(b c:By)(d:Int)(e:Rw)r h:=Lp f145 0 ⟨aO 26 [(1,.aB 0 0)],[],[.aH [vN a,vS b,vS c,vU d,vL 5 e]]⟩ 0 r h
def aby:bu:={an:=[(2,1,ah),(3,5,ah),(6,1,ah)],cut:=[(1,{bl:=[1]})]}
def ag5(H:Fm a b c d e r h):
  al 145 [.agg [N a,S b,S c,U d,L 5 e]] [] r h:=.of func145 aby H
def Zn(H:aw (a==8) (∃f,al 204 [.agg [N a,S b,S c,U d,L 5 e]] [] [.xp f] []/\(((∀cs,f≠some (331,cs))/\Fi r h [vB false] [])\/(∃g i j k l m n o p q,f=some (331,[N g,S i,S j,U k,L 5 l,N m,S n,S o,U p,L 5 q])/\cc 205 [.agg [N m,S n,S o,U p,L 5 q]] [] fun s=>aw (!s) (Fi r h [vB false] [])
 (Fm g i j k l r h))))
 (cc 205 [.agg [N a,S b,S c,U d,L 5 e]] [] fun t=>Fi r h [vB t] [])):
  Fm a b c d e r h:=.of aby H
def RX:bu:={}
def RY(H:cc 206 [vL 2 a,.fn (.func 207) [] [.aB 0 0]] [.aH [.fn (.func 147) [] []]] fun b=>Fi r h [vB (!b)] []):
  al 146 [vL 2 a,.fn (.func 147) [] []] [] r h:=.of func146 RX H
def ag6:bu:={an:=[(1,2,ah)]}
def ag7(H:cc 144 [vS a] [] fun c=>aw c (cc 148 [vL 4 b,.fn (.func 149) [] []] [] fun d=>Fi r h [vB d] []) (Fi r h [vB false] [])):
  al 147 [.agg [S a,L 4 b]] [] r h:=.of func147 ag6 H
def RZ:bu:={}
def R1(H:cc 208 [vL 4 a,.fn (.func 209) [] [.aB 0 0]] [.aH [.fn (.func 149) [] []]] fun b=>Fi r h [vB (!b)] []):
  al 148 [vL 4 a,.fn (.func 149) [] []] [] r h:=.of func148 RZ H
def ag8:bu:={an:=[(2,2,ah),(2,10,aa),(2,11,aa),(2,12,aa),(2,13,aa),(3,2,ah)]}
def ag9(b:By)(H:aw (!(b==[])) (cc 144 [vS b] [] fun e=>aw e (Fi r h [vB (bif((true&&(c==0))&&(d==0))then((a.length:Int)==0)else false)] []) (Fi r h [vB (bif false then((a.length:Int)==0)else false)] []))
 (cc 151 [.agg [N c,N d]] [] fun f=>aw f (cc 210 [vL 3 a,.fn (.func 211) [] []] [] fun g=>Fi r h [vB g] []) (Fi r h [vB false] []))):
  al 149 [.agg [S b,N c,N d,L 3 a]] [] r h:=.of func149 ag8 H
def R2:bu:={}
def R3(H:cc 212 [vL 1 a,.fn (.func 213) [] [.aB 0 0]] [.aH [.fn (.func 144) [] []]] fun b=>Fi r h [vB (!b)] []):
  al 150 [vL 1 a,.fn (.func 144) [] []] [] r h:=.of func150 R2 H
def aha:bu:={an:=[(1,1,ah)]}
def ahb(H:Gw 106 [.agg [N a,N b]] [] fun d c=>Fi r h [vB c] []):
  al 151 [.agg [N a,N b]] [] r h:=.of func151 aha H
def ahc:bu:={an:=[(1,2,ah),(2,2,ah)]}
def ahd(H:Hn 217 [vL 1 b] [] fun d=>Kq 218 [vL 5 c] [] fun e=>Fi r h [.agg [S a,L 1 d,L 5 e]] []):
  al 154 [.agg [S a,L 1 b,L 5 c]] [] r h:=.of func154 ahc H
def R4:bu:={}
def R5(H:cc 143 [.agg [S a,N b,S c,S d,U e,L 5 f]] [] fun g=>Fi r h [vB (!g)] [.aH [.fn (.func 143) [] []]]):
  al 201 [.agg [S a,N b,S c,S d,U e,L 5 f],.aB 0 0] [.aH [.fn (.func 143) [] []]] r h:=.of func201 R4 H
def ahe:bu:={an:=[(1,4,aa),(1,5,aa),(1,6,aa),(2,4,aa),(2,5,aa),(2,6,aa),(2,9,aa),(2,10,aa),(2,11,aa),(2,14,aa),(2,15,aa),(2,16,aa),(2,17,aa),(4,4,aa),(4,7,aa),(4,8,aa),(4,9,aa),(4,10,aa),(6,4,aa),(6,7,aa),(6,8,aa),(6,9,aa),(6,10,aa),(7,3,ah),(8,4,aa),(8,7,aa),(8,8,aa),(8,9,aa),(8,12,aa),(8,13,aa),(8,14,aa),(8,15,aa),(9,3,ah),(10,4,aa),(10,5,aa),(10,6,aa),(10,9,aa),(10,10,aa),(10,11,aa),(10,14,aa),(10,15,aa),(10,16,aa),(10,17,aa),(11,3,ah),(11,7,ah),(12,1,ah),(12,3,aa),(12,6,aa),(12,7,aa),(12,8,aa),(12,11,aa),(12,12,aa),(12,13,aa),(12,14,aa),(13,3,ah),(13,7,ah)]}
def ahf(c e:By)(H:aw (bif(bif(bif(b==7)then(c==[])else false)then(e==[])else false)then((a.length:Int)==0)else false) (Fi r h [.xp (some (380,[]))] [])
 (aw (bif(bif(b==5)then(bif(c==[])then(d==0)else false)else false)then((a.length:Int)==0)else false) (Fi r h [.xp (some (381,[]))] [])
 (aw (bif(bif(b==6)then(bif(c==[])then(d==0)else false)else false)then((a.length:Int)==1)else false) (bq a 0 fun f g i j k=>Fi r h [.xp (some (383,[N f,S g,S i,U j,L 5 k]))] [])
 (aw (bif(bif(bif(b==3)then(bif(c==[])then(d==0)else false)else false)then(e==[])else false)then((a.length:Int)==1)else false) (bq a 0 fun l m n o p=>Fi r h [.xp (some (384,[N l,S m,S n,U o,L 5 p]))] [])
 (aw (bif(bif(bif(b==4)then(e==[])else false)then(d==0)else false)then((a.length:Int)==2)else false) (bq a 0 fun q s t u v=>bq a 1 fun w x y z D=>Fi r h [.xp (some (331,[N q,S s,S t,U u,L 5 v,N w,S x,S y,U z,L 5 D]))] [])
 (cc 268 [.agg [N b,S c,S e,U d,L 5 a]] [] fun E=>aw (bif(bif(bif E then(bif(c==[])then(d==0)else false)else false)then(e==[])else false)then((a.length:Int)==2)else false) (bq a 0 fun G I J K M=>bq a 1 fun Q T X Y Z=>Fi r h [.xp (some (331,[N G,S I,S J,U K,L 5 M,N Q,S T,S X,U Y,L 5 Z]))] [])
 (Fi r h [.xp none] []))))))):
  al 204 [.agg [N b,S c,S e,U d,L 5 a]] [] r h:=.of func204 ahe H
def ahg:bu:={an:=[(1,1,ah),(6,4,ah)]}
def ahh(H:∃a,al 204 [.agg [N c,S d,S b,U e,L 5 f]] [] [.xp a] []/\(((∀cs,a≠some (380,cs))/\(((∀cs,a≠some (381,cs))/\Fi r h [vB false] [])\/(a=some (381,[])/\cc 144 [vS b] [] fun g=>Fi r h [vB g] [])))\/(a=some (380,[])/\Fi r h [vB true] []))):
  al 205 [.agg [N c,S d,S b,U e,L 5 f]] [] r h:=.of func205 ahg H
def R6:bu:={}
def R7(H:cc 147 [.agg [S a,L 4 b]] [] fun c=>Fi r h [vB (!c)] [.aH [.fn (.func 147) [] []]]):
  al 207 [.agg [S a,L 4 b],.aB 0 0] [.aH [.fn (.func 147) [] []]] r h:=.of func207 R6 H
def R8:bu:={}
def R9(H:cc 149 [.agg [S a,N b,N c,L 3 d]] [] fun e=>Fi r h [vB (!e)] [.aH [.fn (.func 149) [] []]]):
  al 209 [.agg [S a,N b,N c,L 3 d],.aB 0 0] [.aH [.fn (.func 149) [] []]] r h:=.of func209 R8 H
def Sa:bu:={}
def Sb(H:cc 271 [vL 3 a,.fn (.func 272) [] [.aB 0 0]] [.aH [.fn (.func 211) [] []]] fun b=>Fi r h [vB (!b)] []):
  al 210 [vL 3 a,.fn (.func 211) [] []] [] r h:=.of func210 Sa H
def ahi:bu:={an:=[(1,2,ah),(1,11,aa),(1,12,aa),(1,13,aa),(1,14,aa)]}
def ahj(H:cc 144 [vS b] [] fun d=>aw (!d) (aw (bif true then true else(decide ((a.length:Int)>1))) (Fi r h [vB false] [])
 (cc 273 [vL 5 a,.fn (.func 274) [] []] [] fun e=>Fi r h [vB e] [])) (cc 150 [vL 1 c,.fn (.func 144) [] []] [] fun f=>aw (bif(!f)then true else(decide ((a.length:Int)>1))) (Fi r h [vB false] [])
 (cc 273 [vL 5 a,.fn (.func 274) [] []] [] fun g=>Fi r h [vB g] []))):
  al 211 [.agg [S b,L 1 c,L 5 a]] [] r h:=.of func211 ahi H
def Sc:bu:={}
def Se(H:cc 144 [vS a] [] fun b=>Fi r h [vB (!b)] [.aH [.fn (.func 144) [] []]]):
  al 213 [vS a,.aB 0 0] [.aH [.fn (.func 144) [] []]] r h:=.of func213 Sc H
abbrev Fo(a b:Rw)(c d:Int)r h:=Lp f218 0 ⟨aO 22 [(3,.own 0 0 5 a),(6,vL 5 b),(7,vN c),(8,vN d)],[some 0],[]⟩ 0 r h
def abz:bu:={an:=[(4,1,ah),(5,2,ah)],cut:=[(3,{bl:=[3,6,7,8],cW:=[(3,5)],owns:=[3]})]}
def ahk(H:Fo [] a (a.length:Int) 0 r h):
  al 218 [vL 5 a] [] r h:=.of func218 abz H
def Sf(b c:Rw)(d a:Int)(H:aw (decide (a<d)) (bq c a fun e f g i k=>Kq 218 [vL 5 k] [] fun j=>(b++([[N e,S f,S g,U i,L 5 j]]:Rw)).length*72<=2^47/\au (a+1)/\Fo (b++([[N e,S f,S g,U i,L 5 j]]:Rw)) c d (a+1) r h)
 (Fi r h [.own 0 0 5 b] [])):
  Fo b c d a r h:=.of abz H
abbrev Fp(a:Int)(b:Rw)(c d:Int)r h:=Lp f263 0 ⟨aO 20 [(3,vN a),(7,vL 5 b),(8,vN c),(9,vN d)],[],[]⟩ 0 r h
def abA:bu:={an:=[(4,1,ah),(5,2,ah)],cut:=[(3,{bl:=[3,7,8,9]})]}
def ahl(b:Int)(c d:By)(e:Int)(a:Rw)(H:Fp 0 a (a.length:Int) 0 r h):
  al 263 [.agg [N b,S c,S d,U e,L 5 a]] [] r h:=.of func263 abA H
def Sg(a:Int)(c:Rw)(d b:Int)(H:aw (decide (b<d)) (bq c b fun f g i j k=>kL 263 [.agg [N f,S g,S i,U j,L 5 k]] [] fun e=>au (b+1)/\Fp (if e>a then e else a) c d (b+1) r h)
 (au (a+1)/\Fi r h [vN (a+1)] [])):
  Fp a c d b r h:=.of abA H
def ahm:bu:={an:=[(1,4,aa),(1,5,aa),(1,6,aa),(1,9,aa),(1,10,aa),(1,11,aa)]}
def ahn(H:Fi r h [vB (bif(bif(a==1)then true else(a==2))then true else(a==8))] []):
  al 268 [.agg [N a,S b,S c,U d,L 5 e]] [] r h:=.of func268 ahm H
def Sh:bu:={}
def Si(H:cc 211 [.agg [S a,L 1 b,L 5 c]] [] fun d=>Fi r h [vB (!d)] [.aH [.fn (.func 211) [] []]]):
  al 272 [.agg [S a,L 1 b,L 5 c],.aB 0 0] [.aH [.fn (.func 211) [] []]] r h:=.of func272 Sh H
def Sj:bu:={}
def Sk(H:cc 329 [vL 5 a,.fn (.func 330) [] [.aB 0 0]] [.aH [.fn (.func 274) [] []]] fun b=>Fi r h [vB (!b)] []):
  al 273 [vL 5 a,.fn (.func 274) [] []] [] r h:=.of func273 Sj H
def aho:bu:={an:=[(1,1,ah),(1,4,ah)]}
def ahp(H:cc 275 [.agg [N a,S b,S c,U d,L 5 e]] [] fun f=>aw f (kL 263 [.agg [N a,S b,S c,U d,L 5 e]] [] fun g=>Fi r h [vB (decide (g<=30))] []) (Fi r h [vB false] [])):
  al 274 [.agg [N a,S b,S c,U d,L 5 e]] [] r h:=.of func274 aho H
def ahq:bu:={an:=[(1,1,ah),(8,2,ah),(8,6,ah),(10,3,ah),(13,3,ah),(13,7,ah),(13,12,ah)]}
def ahr(b3:∃b,al 204 [.agg [N a,S c,S d,U e,L 5 f]] [] [.xp b] []/\aw (Option.isNone b) (Fi r h [vB false] [])
 (aw (a==1) (∃g i j k l m n o p q,b=some (331,[N g,S i,S j,U k,L 5 l,N m,S n,S o,U p,L 5 q])/\cc 275 [.agg [N g,S i,S j,U k,L 5 l]] [] fun a5=>aw a5 (cc 275 [.agg [N m,S n,S o,U p,L 5 q]] [] fun a6=>Fi r h [vB a6] []) (Fi r h [vB false] []))
 (aw (a==2) (∃s t u v w x y z D E,b=some (331,[N s,S t,S u,U v,L 5 w,N x,S y,S z,U D,L 5 E])/\cc 275 [.agg [N s,S t,S u,U v,L 5 w]] [] fun a7=>aw a7 (cc 275 [.agg [N x,S y,S z,U D,L 5 E]] [] fun a8=>Fi r h [vB a8] []) (Fi r h [vB false] []))
 (aw (a==3) (∃G I J K M,b=some (384,[N G,S I,S J,U K,L 5 M])/\cc 275 [.agg [N G,S I,S J,U K,L 5 M]] [] fun a9=>Fi r h [vB a9] [])
 (aw (a==4) (∃Q T X Y Z H F A R a4,b=some (331,[N Q,S T,S X,U Y,L 5 Z,N H,S F,S A,U R,L 5 a4])/\cc 203 [vL 1 [[S [61,61]],[S [33,61]],[S [60]],[S [60,61]],[S [62]],[S [62,61]]],vS c] [] fun b0=>aw b0 (cc 331 [.agg [N Q,S T,S X,U Y,L 5 Z]] [] fun b1=>aw b1 (cc 145 [.agg [N H,S F,S A,U R,L 5 a4]] [] fun b2=>Fi r h [vB b2] []) (Fi r h [vB false] [])) (Fi r h [vB false] []))
 (Fi r h [vB false] [])))))):
  al 275 [.agg [N a,S c,S d,U e,L 5 f]] [] r h:=.of func275 ahq b3
def Sl:bu:={}
def Sm(H:cc 274 [.agg [N a,S b,S c,U d,L 5 e]] [] fun f=>Fi r h [vB (!f)] [.aH [.fn (.func 274) [] []]]):
  al 330 [.agg [N a,S b,S c,U d,L 5 e],.aB 0 0] [.aH [.fn (.func 274) [] []]] r h:=.of func330 Sl H
def ahs:bu:={an:=[(1,1,ah),(4,2,ah),(6,4,ah),(6,9,ah)]}
def aht(H:∃a,al 204 [.agg [N c,S d,S b,U e,L 5 f]] [] [.xp a] []/\(((∀cs,a≠some (381,cs))/\(((∀cs,a≠some (383,cs))/\Fi r h [vB false] [])\/(∃g i j k l,a=some (383,[N g,S i,S j,U k,L 5 l])/\cc 144 [vS b] [] fun m=>aw m (cc 205 [.agg [N g,S i,S j,U k,L 5 l]] [] fun n=>Fi r h [vB n] []) (Fi r h [vB false] []))))\/(a=some (381,[])/\cc 144 [vS b] [] fun o=>Fi r h [vB o] []))):
  al 331 [.agg [N c,S d,S b,U e,L 5 f]] [] r h:=.of func331 ahs H
def keys:List By:=[[80,79,76,73,67,89],[85,83,69],[68,69,70,65,85,76,84],[65,76,76,79,87],[76,79,71],[75,73,76,76],[75,73,76,76,95,80,82,79,67,69,83,83],[84,82,65,80],[69,82,82,78,79],[84,82,65,67,69]]
def bL(s:By):Bool:=bif mh s then !fW s keys else false
def zT(s:By)(a:s.length<=2^40):al 144 [vS s] [] [vB (bL s)] []:=
 ag4 s ⟨_,af0 s a,ad (fun h=>⟨_,Vq s keys (by decide),ai (by rw[bL,h];rfl) rfl⟩) fun h=>ai (by rw[bL,h];rfl) rfl⟩
structure Pa where
 en:Int
 fi:Int
 sp:Cx
 ds:List cT
 ps:List cL
 mn:List By
 dk:Int
 dd:Int
structure Ps where
 l:List Tok
 e:Int
 f:Int
 c:Cx
abbrev pb(A:Pa)(s:Ps):Bx:=K7 (s.l.map Tok.row) A.en A.fi A.sp (A.ds.map cT.row) (A.ps.map cL.row) (aI A.mn) A.dk A.dd s.e s.f s.c
abbrev BR(A:Pa)(s:Ps):Bx:=K8 (s.l.map Tok.row) A.en A.fi A.sp (A.ds.map cT.row) (A.ps.map cL.row) (aI A.mn) A.dk A.dd s.e s.f s.c
abbrev oz(e:Ex):AV:=.agg [N e.kind,S e.op,S e.name,U e.num,L 5 (br e.kids)]
def lB(s:Ps):Bool:=s.e==0
def kx(A:Pa)(s:Ps):Int×Cx:=match s.l with|[]=>(A.fi,A.sp)|t::_=>(t.file,t.spot)
def qd(s:Ps)(e f:Int)(c:Cx):Ps:={s with e:=bif lB s then e else s.e,f:=bif lB s then f else s.f,c:=bif lB s then c else s.c}
def gm(A:Pa)(s:Ps)(e:Int):Ps:=qd s e (kx A s).1 (kx A s).2
def gE(s:Ps):Option Tok:=bif lB s then s.l.head? else none
def iZ(s:Ps)(k:Int)(t:By):Bool:=match gE s with|none=>false|some x=>bif x.kind==k then x.text==t else false
def aL(s:Ps)(k:Int)(t:By):Ps:={s with l:=bif iZ s k t then s.l.tail else s.l}
def eF(A:Pa)(s:Ps)(k:Int)(t:By):Ps:=bif !iZ s k t then gm A (aL s k t) 3 else aL s k t
def fN(s:Ps):Bool:=match gE s with|none=>false|some x=>bif x.kind==1 then bL x.text else false
def bB(A:Pa)(s:Ps):By×Ps:=bif !fN s then([],gm A s 3)else(match s.l with|[]=>[]|x::_=>x.text,{s with l:=s.l.tail})
def fO(A:Pa)(s:Ps)(a:Int):Int×Ps:=match gE s with
 |none=>(0,gm A s 3)
 |some x=>bif x.kind==2 then(bif(bif(oZ x.text).2 then decide ((oZ x.text).1<=a)else false)then((oZ x.text).1,{s with l:=s.l.tail})else(0,gm A s 3))else(0,gm A s 3)
def gS(A:Pa)(s:Ps):Ex×Ps:=bif fN s then(.mk 5 [] (bB A s).1 0 [],(bB A s).2)else(.mk 7 [] [] (fO A s 18446744073709551615).1 [],(fO A s 18446744073709551615).2)
def eR(t:By)(k:Int)(a:Ps->Ex×Ps):Nat->Ex->Ps->Ex×Ps
 |0,e,s=>(e,s)
 |n+1,e,s=>bif iZ s 3 t then eR t k a n (.mk k [] [] 0 [e,(a (aL s 3 t)).1]) (a (aL s 3 t)).2 else(e,aL s 3 t)
def jB(A:Pa)(s:Ps):Ex×Ps:=eR [124] 8 (gS A) (s.l.length+1) (gS A s).1 (gS A s).2
structure Le (s s':Ps):Prop where
 suf:s'.l <:+ s.l
 ok:lB s'=true->lB s=true
def Le.refl(s:Ps):Le s s:=⟨List.suffix_rfl,id⟩
def Le.trans(h:Le a b)(g:Le b c):Le a c:=⟨g.suf.trans h.suf,fun k=>h.ok (g.ok k)⟩
def Le.len(h:Le a b):b.l.length<=a.l.length:=h.suf.length_le
structure TK (l:List Tok):Prop where
 len:l.length<=2^40
 text:∀t∈l,t.text.length<=2^40
def TK.le(h:TK s.l)(g:Le s a):TK a.l:=⟨dR g.len h.len,fun t b=>h.text t (g.suf.subset b)⟩
def yE(s:Ps)(e f:Int)(c:Cx):Le s (qd s e f c):=by
 refine⟨List.suffix_rfl,fun h=>?_⟩
 cases hk:lB s with
 |true=>rfl
 |false=>
  have:lB (qd s e f c)=lB s:=by simp only[lB,qd]at hk⊢; simp only[hk,af]
  rw[this,hk]at h;exact h
def zU(s:Ps)(e f:Int)(c:Cx)(a:(e==0)=false):lB (qd s e f c)=false:=by
 cases hk:lB s with
 |true=>simp only[lB,qd]at hk⊢; rw[hk];exact a
 |false=>simp only[lB,qd]at hk⊢; rw[hk];exact hk
def lf(A:Pa)(s:Ps)(e:Int):Le s (gm A s e):=yE _ _ _ _
def sL(s:Ps):Le s {s with l:=s.l.tail}:=⟨List.tail_suffix _,id⟩
def bg(s:Ps)(k:Int)(t:By):Le s (aL s k t):=by
 unfold aL;cases iZ s k t
 .exact .refl s
 .exact sL s
def eS(A:Pa)(s:Ps)(k:Int)(t:By):Le s (eF A s k t):=by
 unfold eF;cases iZ s k t
 .exact(bg s k t).trans (lf _ _ _)
 .exact bg s k t
def dC(A:Pa)(s:Ps):Le s (bB A s).2:=by
 unfold bB;cases fN s
 .exact lf _ _ _
 .exact sL s
def CH(A:Pa)(s:Ps)(a:Int):Le s (fO A s a).2:=by
 unfold fO;split
 .exact lf _ _ _
 .rename_i x _
  cases x.kind==2
  .exact lf _ _ _
  .cases(bif(oZ x.text).2 then decide ((oZ x.text).1<=a)else false)
   .exact lf _ _ _
   .exact sL s
def ga(A:Pa)(s:Ps):Le s (gS A s).2:=by
 unfold gS;cases fN s
 .exact CH _ _ _
 .exact dC _ _
def vm(a:∀s,Le s (b s).2):∀n e s,Le s (eR t k b n e s).2
 |0,e,s=>.refl s
 |n+1,e,s=>by
  unfold eR;cases iZ s 3 t
  .exact bg _ _ _
  .exact((bg _ _ _).trans (a _)).trans (vm a n _ _)
def qe(A:Pa)(s:Ps):Le s (jB A s).2:=(ga A s).trans (vm (ga A) _ _ _)
def iD(h:gE s=some x):lB s=true/\∃t,s.l=x::t:=by
 unfold gE at h;cases hk:lB s<;>rw[hk]at h
 .simp at h
 .cases hl:s.l with
  |nil=>rw[hl]at h;simp at h
  |cons y t=>rw[hl]at h;simp at h;rw[h];exact⟨rfl,t,rfl⟩
def La(h:iZ s k t=true):lB s=true/\∃x t,s.l=x::t:=by
 unfold iZ at h;cases hf:gE s with
 |none=>rw[hf]at h;simp at h
 |some x=>exact⟨(iD hf).1,x,(iD hf).2⟩
def iT(h:iZ s k t=true):(aL s k t).l.length+1=s.l.length:=by
 obtain⟨-,x,l,a⟩:=La h;simp only[aL,h,aj,a];rfl
def zV(h:fN s=true):lB s=true/\∃x t,s.l=x::t:=by
 unfold fN at h;cases hf:gE s with
 |none=>rw[hf]at h;simp at h
 |some x=>exact⟨(iD hf).1,x,(iD hf).2⟩
def Mt(h:lB (bB A s).2=true):(bB A s).2.l.length<s.l.length:=by
 unfold bB at h⊢;cases hn:fN s<;>rw[hn]at h
 .rw[show lB (bif !false then(([]:By),gm A s 3)else(match s.l with|[]=>[]|x::_=>x.text,{s with l:=s.l.tail})).2=lB (gm A s 3)from rfl,gm,zU _ _ _ _ rfl]at h
  simp at h
 .obtain⟨-,x,l,a⟩:=zV hn
  show s.l.tail.length<_
  rw[a];simp
def lg(s:Ps){X Y:Prop}(c:∀x,gE s=some x->(s.l.map Tok.row)[toNat 0]?=some [N x.kind,S x.text,N x.file,C x.spot]->x∈s.l->X)(d:gE s=none->Y):
  aw (bif lB s then decide (((s.l.map Tok.row).length:Int)>0)else false) X Y:=by
 cases hf:gE s with
 |some x=>
  obtain⟨b,t,a⟩:=iD hf;refine bt ?_ (c x hf (by rw[a];rfl) (by rw[a];exact aX))
  rw[b,a];simp
 |none=>
  refine aU ?_ (d hf);unfold gE at hf;cases hk:lB s
  .rfl
  .rw[hk]at hf
   cases hl:s.l with
   |nil=>simp
   |cons=>rw[hl]at hf;simp at hf
def lh(l:List Tok):drop 1 (take (l.map Tok.row).length (l.map Tok.row))=l.tail.map Tok.row:=by
 rw[dH (ar _)];cases l<;>rfl
def qf(h:∃x t,l=x::t):(0<=(1:Int)/\(1:Int)<=((l.map Tok.row).length:Int)/\((l.map Tok.row).length:Int)<=((l.map Tok.row).length:Int)):=by
 obtain⟨x,t,rfl⟩:=h;simp only[bH,aE];omega
def OJ(A:Pa)(s:Ps):al 97 [.aB 0 0] [pb A s] [vB (lB s)] [pb A s]:=by apply W97;exact fi
def B1(A:Pa)(s:Ps):al 100 [.aB 0 0] [pb A s] [.agg [N 0,N (kx A s).1,C (kx A s).2]] [pb A s]:=by
 apply agm;obtain⟨l,e,f,c⟩:=s;cases l with
 |nil=>exact bt rfl fi
 |cons x l=>exact aU (by simp;omega) ⟨x.kind,x.text,x.file,x.spot,by omega,rfl,x.kind,x.text,x.file,x.spot,by omega,rfl,fi⟩
def Sq(A:Pa)(s:Ps)(f0 e f:Int)(c:Cx):al 99 [.aB 0 0,.agg [N f0,N f,C c],vN e] [pb A s] [] [pb A (qd s e f c)]:=by
 apply W99;exact⟨_,OJ A s,ad (fun h=>ai rfl (by simp only[qd,h,aj])) fun h=>ai rfl (by simp only[qd,h,af])⟩
def Zo(A:Pa)(s:Ps)(k:Int)(t:By):al 187 [.aB 0 0,vN k,vS t] [pb A s] [vB (iZ s k t)] [pb A s]:=by
 apply agz;exact⟨_,OJ A s,lg s (fun x a b _=>⟨_,_,_,_,by omega,b,ad (fun h=>⟨_,_,_,_,by omega,b,ai (by simp only[iZ,a,h,aj]) rfl⟩) fun h=>ai (by simp only[iZ,a,h,af]) rfl⟩) fun a=>ai (by simp only[iZ,a]) rfl⟩
def nR(A:Pa)(s:Ps)(k:Int)(t:By):al 133 [.aB 0 0,vN k,vS t] [pb A s] [vB (iZ s k t)] [pb A (aL s k t)]:=by
 apply ago;exact⟨_,Zo A s k t,ad (fun h=>⟨qf (La h).2,ai rfl (by rw[lh];simp only[aL,h,aj])⟩) fun h=>ai rfl (by simp only[aL,h,af])⟩
def abB(A:Pa)(s:Ps)(d:TK s.l):al 188 [.aB 0 0] [pb A s] [vB (fN s)] [pb A s]:=by
 apply agB;exact⟨_,OJ A s,lg s (fun x a b c=>⟨_,_,_,_,by omega,b,ad (fun h=>⟨_,_,_,_,by omega,b,_,zT _ (d.text x c),ai (by simp only[fN,a,h,aj]) rfl⟩) fun h=>ai (by simp only[fN,a,h,af]) rfl⟩) fun a=>ai (by simp only[fN,a]) rfl⟩
def HU(A:Pa)(s:Ps)(c:TK s.l):al 134 [.aB 0 0] [pb A s] [vS (bB A s).1] [pb A (bB A s).2]:=by
 apply agq;refine⟨_,abB A s c,ad (fun h=>⟨_,_,_,B1 A s,_,_,_,Sq A s _ 3 _ _,ai (by rw[bB,h];rfl) (by rw[bB,h];rfl)⟩) fun h=>?_⟩
 have b:fN s=true:=by simpa using h
 obtain⟨-,x,l,a⟩:=zV b;exact⟨x.kind,x.text,x.file,x.spot,by omega,by rw[a];rfl,qf ⟨x,l,a⟩,ai (by rw[bB,h,a];rfl) (by rw[lh,bB,h];rfl)⟩
def abC(A:Pa)(s:Ps)(c:Int)(f:TK s.l):al 259 [.aB 0 0,vU c] [pb A s] [vU (fO A s c).1] [pb A (fO A s c).2]:=by
 have key:∀(r:Int×Ps),r=(0,gm A s 3)->zS (s.l.map Tok.row) A.en A.fi A.sp (A.ds.map cT.row) (A.ps.map cL.row) (aI A.mn) A.dk A.dd s.e s.f s.c [vU r.1] [pb A r.2]:=by
  rintro _ rfl;apply Zk;exact⟨_,_,_,B1 A s,_,_,_,Sq A s _ 3 _ _,fi⟩
 apply agN;refine⟨_,OJ A s,lg s (fun x a d e=>⟨_,_,_,_,by omega,d,ad (fun h=>⟨_,_,_,_,by omega,d,_,_,Zg _ (f.text x e),ad (fun b=>⟨qf ⟨x,(iD a).2⟩,ai ?_ ?_⟩) fun b=>key _ ?_⟩) fun h=>key _ ?_⟩) fun a=>key _ ?_⟩
 .simp only[fO,a,h,b,aj]
 .rw[lh];simp only[fO,a,h,b,aj]
 .simp only[fO,a,h,b,aj,af]
 .simp only[fO,a,h,af]
 .simp only[fO,a]
def Zp(A:Pa)(s:Ps)(a:TK s.l):al 189 [.aB 0 0] [pb A s] [oz (gS A s).1] [pb A (gS A s).2]:=by
 apply agD;exact⟨_,abB A s a,ad (fun h=>⟨_,_,_,_,_,HU A s a,ai (by rw[gS,h];rfl) (by rw[gS,h];rfl)⟩) fun h=>⟨_,_,_,_,_,abC A s _ a,ai (by rw[gS,h];rfl) (by rw[gS,h];rfl)⟩⟩
def Zq(A:Pa)(s:Ps)(a:TK s.l):al 135 [.aB 0 0] [pb A s] [oz (jB A s).1] [pb A (jB A s).2]:=by
 have key:∀(n:Nat)(e:Ex)(s:Ps),TK s.l->s.l.length<n->Ff (s.l.map Tok.row) A.en A.fi A.sp (A.ds.map cT.row) (A.ps.map cL.row) (aI A.mn) A.dk A.dd s.e s.f s.c 0 [] [] 0 [] e.kind e.op e.name e.num (br e.kids) [oz (eR [124] 8 (gS A) n e s).1] [pb A (eR [124] 8 (gS A) n e s).2]:=by
  intro n;induction n with
  |zero=>intro e s _ h;omega
  |succ n b=>
   intro e s a d;apply Zi;refine⟨_,_,nR A s 3 _,ad (fun h=>⟨_,_,_,_,_,_,_,_,_,Zp A _ (a.le (bg _ _ _)),?_⟩) fun h=>ai (by rw[eR,h];rfl) (by rw[eR,h];rfl)⟩
   have c:=iT h;have f:=(ga A (aL s 3 [124])).len;have:=b (.mk 8 [] [] 0 [e,(gS A (aL s 3 [124])).1]) (gS A (aL s 3 [124])).2 (a.le ((bg _ _ _).trans (ga A _))) (by omega)
   rw[eR,h];simp only[Ex.kids,br,Ex.cp]at this;exact this
 apply agr;exact⟨_,_,_,_,_,_,_,_,_,Zp A s a,key _ _ _ (a.le (ga A s)) (by have:=(ga A s).len;omega)⟩
abbrev UH(s:Ps):Ps:={s with l:=s.l.tail}
abbrev zW(a:Act):AV:=.agg [N a.kind,N a.data]
def o3(A:Pa)(s:Ps)(k:Int)(t:By):al 190 [.aB 0 0,vN k,vS t] [pb A s] [] [pb A (eF A s k t)]:=by
 apply agF;exact⟨_,_,nR A s k t,ad (fun h=>⟨_,_,_,B1 A (aL s k t),_,_,_,Sq A (aL s k t) _ 3 _ _,ai rfl (by rw[eF,h];rfl)⟩) fun h=>ai rfl (by rw[eF,h];rfl)⟩
def ia(A:Pa):Nat->List By->Ps->List By×Ps
 |0,a,s=>(a,s)
 |n+1,a,s=>bif iZ s 3 [44]then ia A n (a++[(bB A (aL s 3 [44])).1]) (bB A (aL s 3 [44])).2 else(a,aL s 3 [44])
def eU(A:Pa)(s:Ps):List By×Ps:=ia A (s.l.length+1) [(bB A s).1] (bB A s).2
def zX(A:Pa):∀n a s,Le s (ia A n a s).2
 |0,a,s=>.refl s
 |n+1,a,s=>by
  unfold ia;cases iZ s 3 [44]
  .exact bg _ _ _
  .exact((bg _ _ _).trans (dC A _)).trans (zX A n _ _)
def sM(A:Pa)(s:Ps):Le s (eU A s).2:=(dC A s).trans (zX A _ _ _)
def abD(A:Pa)(s:Ps)(b:TK s.l):al 194 [.aB 0 0] [pb A s] [vL 1 (aI (eU A s).1)] [pb A (eU A s).2]:=by
 have key:∀(n:Nat)(a:List By)(s:Ps),TK s.l->s.l.length<n->a.length+s.l.length<=2^41->Fg (aI a) (s.l.map Tok.row) A.en A.fi A.sp (A.ds.map cT.row) (A.ps.map cL.row) (aI A.mn) A.dk A.dd s.e s.f s.c [.own 0 0 1 (aI (ia A n a s).1)] [pb A (ia A n a s).2]:=by
  intro n;induction n with
  |zero=>intro e s _ h;omega
  |succ n c=>
   intro a s b f g;apply Zj;refine⟨_,_,nR A s 3 _,ad (fun h=>⟨_,_,_,_,_,HU A _ (b.le (bg _ _ _)),?_,?_⟩) fun h=>ai (by rw[ia,h];rfl) (by rw[ia,h];rfl)⟩
   .simp[aI];omega
   .have d:=iT h
    have i:=(dC A (aL s 3 [44])).len;have:=c (a++[(bB A (aL s 3 [44])).1]) (bB A (aL s 3 [44])).2 (b.le ((bg _ _ _).trans (dC A _))) (by omega) (by simp;omega)
    rw[ia,h];rw[show aI (a++[(bB A (aL s 3 [44])).1])=aI a++[[S (bB A (aL s 3 [44])).1]] by simp[aI,Hp]]at this
    exact this
 refine Go.Ac.al.soft (r:=[.own 0 0 1 _]) ?_ rfl;apply agM;have:=(dC A s).len;have:=b.len;exact⟨_,_,_,_,_,HU A s b,key _ [_] _ (b.le (dC A s)) (by omega) (by simp;omega)⟩
def vn(A:Pa)(s:Ps):Int×Ps:=(wrap .i64 (fO A (eF A s 3 [40]) 65535).1,eF A (fO A (eF A s 3 [40]) 65535).2 3 [41])
def HV(A:Pa)(s:Ps):Le s (vn A s).2:=((eS A s 3 [40]).trans (CH A _ _)).trans (eS A _ _ _)
def ahu(A:Pa)(s:Ps)(a:TK s.l):al 261 [.aB 0 0] [pb A s] [vN (vn A s).1] [pb A (vn A s).2]:=by
 apply agR;exact⟨_,_,_,_,o3 A s 3 _,_,_,_,_,_,abC A _ _ (a.le (eS A s 3 [40])),_,_,_,_,o3 A _ 3 _,fi⟩
def n9(s:By):Int×Bool:=
 bif s==[65,76,76,79,87]then(7,true)else bif s==[76,79,71]then(6,true)else bif s==[75,73,76,76]then(2,true)else
 bif s==[75,73,76,76,95,80,82,79,67,69,83,83]then(1,true)else bif s==[84,82,65,80]then(3,true)else bif s==[69,82,82,78,79]then(4,true)else
 bif s==[84,82,65,67,69]then(5,true)else(0,false)
def ahv(s:By):al 322 [vS s] [] [vN (n9 s).1,vB (n9 s).2] []:=
 agU s (ad (fun h=>ai (by rw[n9,h];rfl) rfl) fun a=>ad (fun h=>ai (by rw[n9,a,h];rfl) rfl) fun b=>ad (fun h=>ai (by rw[n9,a,b,h];rfl) rfl) fun c=>
  ad (fun h=>ai (by rw[n9,a,b,c,h];rfl) rfl) fun d=>ad (fun h=>ai (by rw[n9,a,b,c,d,h];rfl) rfl) fun e=>ad (fun h=>ai (by rw[n9,a,b,c,d,e,h];rfl) rfl) fun f=>
  ad (fun h=>ai (by rw[n9,a,b,c,d,e,f,h];rfl) rfl) fun h=>ai (by rw[n9,a,b,c,d,e,f,h];rfl) rfl)
def jW(s:Ps):Int×Bool:=match gE s with
 |none=>(0,false)
 |some x=>bif x.kind !=1 then(0,false)else n9 x.text
def Sr(s:Ps){X Y:Prop}(d:gE s=none->X)(c:∀x,gE s=some x->(s.l.map Tok.row)[toNat 0]?=some [N x.kind,S x.text,N x.file,C x.spot]->Y):
  aw (bif !lB s then true else(((s.l.map Tok.row).length:Int)==0)) X Y:=by
 cases hf:gE s with
 |some x=>
  obtain⟨b,t,a⟩:=iD hf;refine aU ?_ (c x hf (by rw[a];rfl))
  rw[b,a];simp;omega
 |none=>
  refine bt ?_ (d hf);unfold gE at hf;cases hk:lB s
  .rfl
  .rw[hk]at hf
   cases hl:s.l with
   |nil=>simp
   |cons=>rw[hl]at hf;simp at hf
def ahw(A:Pa)(s:Ps):al 260 [.aB 0 0] [pb A s] [vN (jW s).1,vB (jW s).2] [pb A s]:=by
 apply agP;exact⟨_,OJ A s,Sr s (fun a=>ai (by simp only[jW,a]) rfl) fun x a b=>⟨_,_,_,_,by omega,b,ad (fun h=>ai (by simp only[jW,a,h,aj]) rfl) fun h=>⟨_,_,_,_,by omega,b,_,_,ahv _,ai (by simp only[jW,a,h,af]) rfl⟩⟩⟩
def dh(A:Pa)(s:Ps):Act×Ps:=bif !(jW s).2 then(⟨0,0⟩,gm A s 3)else
 bif[3,4,5].any ((jW s).1 == ·)then(⟨(jW s).1,(vn A (UH s)).1⟩,(vn A (UH s)).2)else(⟨(jW s).1,0⟩,UH s)
def tI(A:Pa)(s:Ps):Le s (dh A s).2:=by
 unfold dh;cases(jW s).2
 .exact lf _ _ _
 .cases[3,4,5].any ((jW s).1 == ·)
  .exact sL s
  .exact(sL s).trans (HV A _)
def abE(A:Pa)(s:Ps)(c:TK s.l):al 191 [.aB 0 0] [pb A s] [zW (dh A s).1] [pb A (dh A s).2]:=by
 apply agH;refine⟨_,_,ahw A s,ad (fun h=>⟨_,_,_,B1 A s,_,_,_,Sq A s _ 3 _ _,ai (by rw[dh,h];rfl) (by rw[dh,h];rfl)⟩) fun h=>⟨qf ?_,_,aba _ [3,4,5] (by decide),?_⟩⟩
 .have b:(jW s).2=true:=by simpa using h
  unfold jW at b;cases hf:gE s with
  |none=>rw[hf]at b;simp at b
  |some x=>exact⟨x,(iD hf).2⟩
 .rw[lh]
  exact ad (fun a=>⟨_,_,_,_,_,ahu A (UH s) (c.le (sL s)),ai (by rw[dh,h,a];rfl) (by rw[dh,h,a];rfl)⟩) fun a=>ai (by rw[dh,h,a];rfl) (by rw[dh,h,a];rfl)
def zY(A:Pa):List By->Ps->By×Ps
 |[],s=>([],gm A s 3)
 |t::a,s=>bif iZ s 3 t then(t,aL s 3 t)else zY A a (aL s 3 t)
def ops:List By:=[[61,61],[33,61],[60],[60,61],[62],[62,61]]
def Vt(A:Pa)(s:Ps):By×Ps:=zY A ops s
def Mu(A:Pa):∀a s,Le s (zY A a s).2
 |[],s=>lf _ _ _
 |t::a,s=>by
  unfold zY;cases iZ s 3 t
  .exact(bg _ _ _).trans (Mu A a _)
  .exact bg _ _ _
def Fq(A:Pa)(s:Ps):Le s (Vt A s).2:=Mu A _ s
def abF(A:Pa)(s:Ps):al 361 [.aB 0 0] [pb A s] [vS (Vt A s).1] [pb A (Vt A s).2]:=by
 have key:∀(a:List By)(i:Nat)(s:Ps),ops.drop i=a->Fk (aI ops) 6 i (s.l.map Tok.row) A.en A.fi A.sp (A.ds.map cT.row) (A.ps.map cL.row) (aI A.mn) A.dk A.dd s.e s.f s.c [vS (zY A a s).1] [pb A (zY A a s).2]:=by
  intro a;induction a with
  |nil=>
   intro i s b;apply RU;exact aP (l:=ops) rfl b ⟨_,_,_,B1 A s,_,_,_,Sq A s _ 3 _ _,fi⟩
  |cons t a e=>
   intro i s b;obtain⟨c,d,f⟩:=drop_cons b;have g:ops.length=6:=rfl;apply RU;exact aK (l:=ops) rfl b ⟨t,by omega,aQ c,_,_,nR A s 3 t,ad (fun h=>ai (by rw[zY,h];rfl) (by rw[zY,h];rfl)) fun h=>⟨aC,by rw[zY,h];exact e (i+1) _ d⟩⟩
 apply agY;exact key ops 0 s rfl
def zZ(A:Pa)(left:Ex)(s:Ps):Ex×Ps:=(.mk 4 (Vt A s).1 [] 0 [left,(jB A (Vt A s).2).1],(jB A (Vt A s).2).2)
def oa(A:Pa)(s:Ps):Ex×Ps:=bif iZ (bB A s).2 3 [38]then zZ A (.mk 6 [] (bB A s).1 0 [(gS A (aL (bB A s).2 3 [38])).1]) (gS A (aL (bB A s).2 3 [38])).2 else
 zZ A (.mk 5 [] (bB A s).1 0 []) (aL (bB A s).2 3 [38])
def jh(A:Pa)(pl a:Ps->Ex×Ps)(s:Ps):Ex×Ps:=
 bif iZ s 3 [33]then(.mk 3 [] [] 0 [(pl (aL s 3 [33])).1],(pl (aL s 3 [33])).2)else
 bif iZ (aL s 3 [33]) 3 [40]then((a (aL (aL s 3 [33]) 3 [40])).1,eF A (a (aL (aL s 3 [33]) 3 [40])).2 3 [41])else
 oa A (aL (aL s 3 [33]) 3 [40])
def ob(pl:Ps->Ex×Ps)(s:Ps):Ex×Ps:=eR [38,38] 2 pl (s.l.length+1) (pl s).1 (pl s).2
def rM(pl:Ps->Ex×Ps)(s:Ps):Ex×Ps:=eR [124,124] 1 (ob pl) (s.l.length+1) (ob pl s).1 (ob pl s).2
def eV(A:Pa):Nat->Ps->Ex×Ps
 |0,s=>(.mk 0 [] [] 0 [],s)
 |n+1,s=>jh A (eV A n) (rM (eV A n)) s
def ew(A:Pa)(s:Ps):Ex×Ps:=rM (eV A (s.l.length+1)) s
def Mv(A:Pa)(e:Ex)(s:Ps):Le s (zZ A e s).2:=(Fq A s).trans (qe A _)
def Ss(A:Pa)(s:Ps):Le s (oa A s).2:=by
 unfold oa;cases iZ (bB A s).2 3 [38]
 .exact((dC A s).trans (bg _ _ _)).trans (Mv A _ _)
 .exact(((dC A s).trans (bg _ _ _)).trans (ga A _)).trans (Mv A _ _)
def OK(c:∀s,Le s (pl s).2)(b:∀s,Le s (a s).2)(s:Ps):Le s (jh A pl a s).2:=by
 unfold jh;cases iZ s 3 [33]
 .cases iZ (aL s 3 [33]) 3 [40]
  .exact((bg _ _ _).trans (bg _ _ _)).trans (Ss A _)
  .exact(((bg _ _ _).trans (bg _ _ _)).trans (b _)).trans (eS A _ _ _)
 .exact(bg _ _ _).trans (c _)
def nh(a:∀s,Le s (pl s).2)(s:Ps):Le s (ob pl s).2:=(a s).trans (vm a _ _ _)
def HW(a:∀s,Le s (pl s).2)(s:Ps):Le s (rM pl s).2:=(nh a s).trans (vm (nh a) _ _ _)
def lj(A:Pa):∀n s,Le s (eV A n s).2
 |0,s=>.refl s
 |n+1,s=>OK (lj A n) (HW (lj A n)) s
def Lc(A:Pa)(s:Ps):Le s (ew A s).2:=HW (lj A _) s
def Fu{d:List Item}{Hd:Ps->Ex->St}{t:By}{k:Int}(c:∀s,Le s (a s).2)(step:∀(s:Ps)(e:Ex)(r:List AV)(h:List Bx),TK s.l->s.l.length<m->(iZ s 3 t=true->mI fn d (Hd (a (aL s 3 t)).2 (.mk k [] [] 0 [e,(a (aL s 3 t)).1])) b r h)->(iZ s 3 t=false->Fi r h [oz e] [pb A (aL s 3 t)])->mI fn d (Hd s e) b r h):
  ∀(n:Nat)(e:Ex)(s:Ps),TK s.l->s.l.length<n->s.l.length<m->mI fn d (Hd s e) b [oz (eR t k a n e s).1] [pb A (eR t k a n e s).2]
 |0,_,_,_,h,_=>absurd h (by omega)
 |n+1,e,s,f,j,g=>by
  refine step s e _ _ f g (fun h=>?_) fun h=>ai (by rw[eR,h];rfl) (by rw[eR,h];rfl)
  have i:=iT h;have l:=(c (aL s 3 t)).len;rw[eR,h];exact Fu c step n _ _ (f.le ((bg _ _ _).trans (c _))) (by omega) (by omega)
def abG(b:∀s,Le s (pl s).2)(d:∀s,TK s.l->s.l.length<m->al 353 [.aB 0 0] [pb A s] [oz (pl s).1] [pb A (pl s).2])(s:Ps)(a:TK s.l)(c:s.l.length<m):
  al 323 [.aB 0 0] [pb A s] [oz (ob pl s).1] [pb A (ob pl s).2]:=by
 apply agV;refine⟨_,_,_,_,_,_,_,_,_,d s a c,?_⟩;have:=(b s).len;refine Fu (Hd:=fun s e=>Fj (s.l.map Tok.row) A.en A.fi A.sp (A.ds.map cT.row) (A.ps.map cL.row) (aI A.mn) A.dk A.dd s.e s.f s.c 0 [] [] 0 [] e.kind e.op e.name e.num (br e.kids)) (m:=m) b (fun s e r h a c f g=>?_) _ _ _ (a.le (b s)) (by omega) (by omega)
 apply Zm;refine⟨_,_,nR A s 3 _,ad (fun h=>⟨_,_,_,_,_,_,_,_,_,d _ (a.le (bg _ _ _)) ?_,?_⟩) g⟩
 .have:=iT h;omega
 .have:=f h
  simp only[Ex.kids,br,Ex.cp]at this;exact this
def Xb(a:∀s,Le s (pl s).2)(d:∀s,TK s.l->s.l.length<m->al 353 [.aB 0 0] [pb A s] [oz (pl s).1] [pb A (pl s).2])(s:Ps)(b:TK s.l)(c:s.l.length<m):
  al 262 [.aB 0 0] [pb A s] [oz (rM pl s).1] [pb A (rM pl s).2]:=by
 apply agS;refine⟨_,_,_,_,_,_,_,_,_,abG a d s b c,?_⟩;have:=(nh a s).len;refine Fu (Hd:=fun s e=>Fh (s.l.map Tok.row) A.en A.fi A.sp (A.ds.map cT.row) (A.ps.map cL.row) (aI A.mn) A.dk A.dd s.e s.f s.c 0 [] [] 0 [] e.kind e.op e.name e.num (br e.kids)) (m:=m) (nh a) (fun s e r h b c f g=>?_) _ _ _ (b.le (nh a s)) (by omega) (by omega)
 apply Zl;refine⟨_,_,nR A s 3 _,ad (fun h=>⟨_,_,_,_,_,_,_,_,_,abG a d _ (b.le (bg _ _ _)) ?_,?_⟩) g⟩
 .have:=iT h;omega
 .have:=f h
  simp only[Ex.kids,br,Ex.cp]at this;exact this
def Zr(A:Pa):∀(n:Nat)(s:Ps),TK s.l->s.l.length<n->al 353 [.aB 0 0] [pb A s] [oz (eV A n s).1] [pb A (eV A n s).2]
 |0,_,_,h=>absurd h (by omega)
 |n+1,s,e,j=>by
  have c:=bg s 3 [33];have f:=bg (aL s 3 [33]) 3 [40];have g:=dC A (aL (aL s 3 [33]) 3 [40]);have i:=bg (bB A (aL (aL s 3 [33]) 3 [40])).2 3 [38];have t2:=e.le (c.trans f);have d:=t2.le (g.trans i);apply agX;refine⟨_,_,nR A s 3 _,ad (fun h=>⟨_,_,_,_,_,_,_,_,_,Zr A n _ (e.le c) (by have:=iT h;omega),ai ?_ ?_⟩) fun h=>⟨_,_,nR A _ 3 _,ad (fun a=>⟨_,_,_,_,_,_,_,_,_,Xb (lj A n) (Zr A n) _ t2 ?_,_,_,_,_,o3 A _ 3 _,ai ?_ ?_⟩) fun a=>
   ⟨_,_,_,_,_,HU A _ t2,_,_,nR A _ 3 _,ad (fun b=>⟨_,_,_,_,_,_,_,_,_,Zp A _ d,_,_,_,_,_,abF A _,_,_,_,_,_,_,_,_,_,Zq A _ ((d.le (ga A _)).le (Fq A _)),ai ?_ ?_⟩) fun b=>⟨_,_,_,_,_,abF A _,_,_,_,_,_,_,_,_,_,Zq A _ (d.le (Fq A _)),ai ?_ ?_⟩⟩⟩⟩
  .rw[eV,jh,h];simp only[aj,oz,Ex.kids,br,Ex.cp];rfl
  .rw[eV,jh,h];rfl
  .have:=iT a;have:=c.len;omega
  .rw[eV,jh,h,a];rfl
  .rw[eV,jh,h,a];rfl
  .rw[eV,jh,h,a,oa];simp only[aj,af,b,zZ,oz,Ex.kids,br,Ex.cp];rfl
  .rw[eV,jh,h,a,oa];simp only[aj,af,b,zZ]
  .rw[eV,jh,h,a,oa];simp only[aj,af,b,zZ,oz,Ex.kids,br,Ex.cp];rfl
  .rw[eV,jh,h,a,oa];simp only[aj,af,b,zZ]
def Zs(A:Pa)(s:Ps)(a:TK s.l):al 262 [.aB 0 0] [pb A s] [oz (ew A s).1] [pb A (ew A s).2]:=
 Xb (lj A _) (Zr A _) s a (Nat.lt_succ_self _)
def Vu(A:Pa)(s:Ps):al 97 [.aB 0 0] [BR A s] [vB (lB s)] [BR A s]:=by apply agi;exact fi
def Xc(A:Pa)(s:Ps):al 100 [.aB 0 0] [BR A s] [.agg [N 0,N (kx A s).1,C (kx A s).2]] [BR A s]:=by
 apply abe;obtain⟨l,e,f,c⟩:=s;cases l with
 |nil=>exact bt rfl fi
 |cons x l=>exact aU (by simp;omega) ⟨x.kind,x.text,x.file,x.spot,by omega,rfl,x.kind,x.text,x.file,x.spot,by omega,rfl,fi⟩
def abH(A:Pa)(s:Ps)(f0 e f:Int)(c:Cx):al 99 [.aB 0 0,.agg [N f0,N f,C c],vN e] [BR A s] [] [BR A (qd s e f c)]:=by
 apply agk;exact⟨_,Vu A s,ad (fun h=>ai rfl (by simp only[qd,h,aj])) fun h=>ai rfl (by simp only[qd,h,af])⟩
def abI(A:Pa)(s:Ps)(k:Int)(t:By):al 187 [.aB 0 0,vN k,vS t] [BR A s] [vB (iZ s k t)] [BR A s]:=by
 apply abm;exact⟨_,Vu A s,lg s (fun x a b _=>⟨_,_,_,_,by omega,b,ad (fun h=>⟨_,_,_,_,by omega,b,ai (by simp only[iZ,a,h,aj]) rfl⟩) fun h=>ai (by simp only[iZ,a,h,af]) rfl⟩) fun a=>ai (by simp only[iZ,a]) rfl⟩
def abJ(A:Pa)(s:Ps)(k:Int)(t:By):al 133 [.aB 0 0,vN k,vS t] [BR A s] [vB (iZ s k t)] [BR A (aL s k t)]:=by
 apply abg;exact⟨_,abI A s k t,ad (fun h=>⟨qf (La h).2,ai rfl (by rw[lh];simp only[aL,h,aj])⟩) fun h=>ai rfl (by simp only[aL,h,af])⟩
def Xd(A:Pa)(s:Ps)(d:TK s.l):al 188 [.aB 0 0] [BR A s] [vB (fN s)] [BR A s]:=by
 apply abo;exact⟨_,Vu A s,lg s (fun x a b c=>⟨_,_,_,_,by omega,b,ad (fun h=>⟨_,_,_,_,by omega,b,_,zT _ (d.text x c),ai (by simp only[fN,a,h,aj]) rfl⟩) fun h=>ai (by simp only[fN,a,h,af]) rfl⟩) fun a=>ai (by simp only[fN,a]) rfl⟩
def abK(A:Pa)(s:Ps)(c:TK s.l):al 134 [.aB 0 0] [BR A s] [vS (bB A s).1] [BR A (bB A s).2]:=by
 apply abi;refine⟨_,Xd A s c,ad (fun h=>⟨_,_,_,Xc A s,_,_,_,abH A s _ 3 _ _,ai (by rw[bB,h];rfl) (by rw[bB,h];rfl)⟩) fun h=>?_⟩
 have b:fN s=true:=by simpa using h
 obtain⟨-,x,l,a⟩:=zV b;exact⟨x.kind,x.text,x.file,x.spot,by omega,by rw[a];rfl,qf ⟨x,l,a⟩,ai (by rw[bB,h,a];rfl) (by rw[lh,bB,h];rfl)⟩
def abL(A:Pa)(s:Ps)(c:Int)(f:TK s.l):al 259 [.aB 0 0,vU c] [BR A s] [vU (fO A s c).1] [BR A (fO A s c).2]:=by
 have key:∀(r:Int×Ps),r=(0,gm A s 3)->vl (s.l.map Tok.row) A.en A.fi A.sp (A.ds.map cT.row) (A.ps.map cL.row) (aI A.mn) A.dk A.dd s.e s.f s.c [vU r.1] [BR A r.2]:=by
  rintro _ rfl;apply Vs;exact⟨_,_,_,Xc A s,_,_,_,abH A s _ 3 _ _,fi⟩
 apply abu;refine⟨_,Vu A s,lg s (fun x a d e=>⟨_,_,_,_,by omega,d,ad (fun h=>⟨_,_,_,_,by omega,d,_,_,Zg _ (f.text x e),ad (fun b=>⟨qf ⟨x,(iD a).2⟩,ai ?_ ?_⟩) fun b=>key _ ?_⟩) fun h=>key _ ?_⟩) fun a=>key _ ?_⟩
 .simp only[fO,a,h,b,aj]
 .rw[lh];simp only[fO,a,h,b,aj]
 .simp only[fO,a,h,b,aj,af]
 .simp only[fO,a,h,af]
 .simp only[fO,a]
def Xe(A:Pa)(s:Ps)(a:TK s.l):al 189 [.aB 0 0] [BR A s] [oz (gS A s).1] [BR A (gS A s).2]:=by
 apply abq;exact⟨_,Xd A s a,ad (fun h=>⟨_,_,_,_,_,abK A s a,ai (by rw[gS,h];rfl) (by rw[gS,h];rfl)⟩) fun h=>⟨_,_,_,_,_,abL A s _ a,ai (by rw[gS,h];rfl) (by rw[gS,h];rfl)⟩⟩
def abM(A:Pa)(s:Ps)(a:TK s.l):al 135 [.aB 0 0] [BR A s] [oz (jB A s).1] [BR A (jB A s).2]:=by
 have key:∀(n:Nat)(e:Ex)(s:Ps),TK s.l->s.l.length<n->yD (s.l.map Tok.row) A.en A.fi A.sp (A.ds.map cT.row) (A.ps.map cL.row) (aI A.mn) A.dk A.dd s.e s.f s.c 0 [] [] 0 [] e.kind e.op e.name e.num (br e.kids) [oz (eR [124] 8 (gS A) n e s).1] [BR A (eR [124] 8 (gS A) n e s).2]:=by
  intro n;induction n with
  |zero=>intro e s _ h;omega
  |succ n b=>
   intro e s a d;apply Vr;refine⟨_,_,abJ A s 3 _,ad (fun h=>⟨_,_,_,_,_,_,_,_,_,Xe A _ (a.le (bg _ _ _)),?_⟩) fun h=>ai (by rw[eR,h];rfl) (by rw[eR,h];rfl)⟩
   have c:=iT h;have f:=(ga A (aL s 3 [124])).len;have:=b (.mk 8 [] [] 0 [e,(gS A (aL s 3 [124])).1]) (gS A (aL s 3 [124])).2 (a.le ((bg _ _ _).trans (ga A _))) (by omega)
   rw[eR,h];simp only[Ex.kids,br,Ex.cp]at this;exact this
 apply abk;exact⟨_,_,_,_,_,_,_,_,_,Xe A s a,key _ _ _ (a.le (ga A s)) (by have:=(ga A s).len;omega)⟩
mutual
def bK:Ex->Nat|.mk _ _ _ _ l=>ct l+1
def ct:List Ex->Nat|[]=>0|e::l=>max (bK e) (ct l)
end
mutual
def mi:Ex->Prop|.mk _ _ _ _ l=>l.length<=2^40/\ni l
def ni:List Ex->Prop|[]=>True|e::l=>mi e/\ni l
end
def cI(e:Ex):bK e=ct e.kids+1:=by cases e;rfl
def z1(e:Ex):mi e<->e.kids.length<=2^40/\ni e.kids:=by cases e;exact Iff.rfl
def sN:∀{l:List Ex},ni l->∀x∈l,mi x
 |[],_,_,h=>by simp at h
 |e::l,a,x,h=>by
  rcases aZ.1 h with rfl|h
  .exact a.1
  .exact sN a.2 x h
def ei:∀{l:List Ex},∀x∈l,bK x<=ct l
 |[],_,h=>by simp at h
 |e::l,x,h=>by
  rcases aZ.1 h with rfl|h
  .exact Nat.le_max_left _ _
  .exact dR (ei x h) (Nat.le_max_right _ _)
def Su:∀(d:Nat)(e:Ex),bK e<=d->d<=2^41->mi e->al 263 [oz e] [] [vN (bK e)] []
 |0,e,h,_,_=>by rw[cI]at h;omega
 |d+1,e,h,s,m=>by
  rw[cI]at h;obtain⟨u,p⟩:=(z1 e).1 m;have key:∀(t:List Ex)(i:Nat)(n:Nat),e.kids.drop i=t->max n (ct t)<=2^41->Fp (n:Int) (e.kids.map Ex.row) e.kids.length i [vN ((max n (ct t)+1:Nat):Int)] []:=by
   intro t;induction t with
   |nil=>
    intro i n a b;exact Sg _ _ _ _ (aP (l:=e.kids) rfl a ⟨aC (by omega) (by simp[ct]at b;omega),ai (by simp[ct]) rfl⟩)
   |cons x t o=>
    intro i n a b;obtain⟨f,k,q⟩:=drop_cons a;have g:=aM f;have v:=ei x g;refine Sg _ _ _ _ (aK (l:=e.kids) rfl a ⟨x.kind,x.op,x.name,x.num,br x.kids,by omega,(aQ f).trans (by rw[Ex.cp]),_,Su d x (by omega) (by omega) (sN p x g),aC,?_⟩)
    have j:(if(bK x:Int)>(n:Int)then(bK x:Int)else(n:Int))=((max n (bK x):Nat):Int):=by split<;>omega
    have c:max n (ct (x::t))=max (max n (bK x)) (ct t):=by simp only[ct];omega
    rw[j,c];rw[c]at b;exact o (i+1) _ k b
  have:=key e.kids 0 0 rfl (by omega)
  rw[show max 0 (ct e.kids)+1=bK e by rw[cI];omega]at this
  refine ahl _ _ _ _ _ ?_;rw[dq,ao];exact this
structure PE (s:Ps) (k:Nat) (p:Ex×Ps):Prop where
 wide:mi p.1
 dep:bK p.1+p.2.l.length<=s.l.length+k
def Fv(A:Pa)(s:Ps):PE s 1 (gS A s):=by
 have:=(ga A s).len;unfold gS at this⊢;cases hn:fN s<;>rw[hn]at this
 .exact⟨by simp[mi,ni],by simp only[af,bK,ct]at this⊢; omega⟩
 .exact⟨by simp[mi,ni],by simp only[aj,bK,ct]at this⊢; omega⟩
def vo{b:Ps->Ex×Ps}{a:Ps}(d:∀s,Le s (b s).2)(f:∀s,PE s k (b s)):∀n e s,PE a k (e,s)->s.l.length<=a.l.length->PE a k (eR t j b n e s)
 |0,e,s,h,_=>h
 |n+1,e,s,h,o=>by
  unfold eR;cases hi:iZ s 3 t
  .have:=(bg s 3 t).len
   have:=h.dep;exact⟨h.wide,by simp only[af]at this⊢; omega⟩
  .have l:=iT hi
   have c:=f (aL s 3 t);have m:=(d (aL s 3 t)).len;have g:=h.dep;have i:=c.dep;refine vo d f n _ _ ⟨?_,?_⟩ (by omega)
   .simp only[mi,ni]
    exact⟨by simp,h.wide,c.wide,trivial⟩
   .simp only[bK,ct]at g i⊢
    omega
def Ld(A:Pa)(s:Ps):PE s 1 (jB A s):=vo (ga A) (Fv A) _ _ _ (Fv A s) (ga A s).len
def Mw(A:Pa)(e:Ex)(s b:Ps)(c:mi e)(i:bK e<=2)(j:s.l.length<=b.l.length):PE b 3 (zZ A e s):=by
 have a:=Ld A (Vt A s).2;have d:=(Fq A s).len;have f:=(qe A (Vt A s).2).len;have g:=a.dep;unfold zZ;refine⟨?_,?_⟩
 .simp only[mi,ni]
  exact⟨by simp,c,a.wide,trivial⟩
 .simp only[bK,ct]
  omega
def Sv(A:Pa)(s a:Ps)(f:s.l.length<=a.l.length):PE a 3 (oa A s):=by
 have c:=(dC A s).len;have d:=(bg (bB A s).2 3 [38]).len;have e:=(ga A (aL (bB A s).2 3 [38])).len;have b:=Fv A (aL (bB A s).2 3 [38]);unfold oa;cases iZ (bB A s).2 3 [38]
 .exact Mw A _ _ _ (by simp[mi,ni]) (by simp[bK,ct]) (by omega)
 .refine Mw A _ _ _ ?_ ?_ (by omega)
  .simp only[mi,ni]
   exact⟨by simp,b.wide,trivial⟩
  .have:bK (gS A (aL (bB A s).2 3 [38])).1<=1:=by
    unfold gS;cases fN (aL (bB A s).2 3 [38])<;>simp[bK,ct]
   simp only[bK,ct];omega
def HX(a:∀s,Le s (pl s).2)(b:∀s,PE s 3 (pl s))(s:Ps):PE s 3 (ob pl s):=vo a b _ _ _ (b s) (a s).len
def HY(a:∀s,Le s (pl s).2)(b:∀s,PE s 3 (pl s))(s:Ps):PE s 3 (rM pl s):=vo (nh a) (HX a b) _ _ _ (HX a b s) (nh a s).len
def wM(A:Pa):∀n s,PE s 3 (eV A n s)
 |0,s=>⟨by simp[eV,mi,ni],by simp only[eV,bK,ct];omega⟩
 |n+1,s=>by
  have b:=bg s 3 [33];have c:=bg (aL s 3 [33]) 3 [40];unfold eV jh;cases h:iZ s 3 [33]
  .cases h2:iZ (aL s 3 [33]) 3 [40]
   .exact Sv A _ _ (b.trans c).len
   .have a:=HY (lj A n) (wM A n) (aL (aL s 3 [33]) 3 [40])
    have d:=a.dep;have e:=(eS A (rM (eV A n) (aL (aL s 3 [33]) 3 [40])).2 3 [41]).len;have:=(b.trans c).len;exact⟨a.wide,by simp only[aj,af];omega⟩
  .have a:=wM A n (aL s 3 [33])
   have d:=a.dep;have:=iT h;refine⟨?_,?_⟩
   .simp only[aj,mi,ni]
    exact⟨by simp,a.wide,trivial⟩
   .simp only[aj,bK,ct]
    omega
def lk(A:Pa)(s:Ps):PE s 3 (ew A s):=HY (lj A _) (wM A _) s
abbrev qI(r:gu):AV:=.agg [S r.call,L 1 (aI r.params),L 5 (r.cond.map Ex.row)]
def oc(A:Pa)(s:Ps)(p:Ex×Ps):Ps:=bif lB p.2 then(bif decide ((bK p.1:Int)>30)then qd p.2 6 (kx A s).1 (kx A s).2 else p.2)else p.2
def eB(A:Pa)(name:By)(params:List By)(s:Ps):gu×Ps:=
 bif !iZ s 3 [123]then(⟨name,params,[]⟩,aL s 3 [123])else
 (⟨name,params,[(ew A (aL s 3 [123])).1]⟩,eF A (oc A s (ew A (aL s 3 [123]))) 3 [125])
def jr(A:Pa)(s:Ps):gu×Ps:=
 bif iZ (bB A s).2 3 [40]then
  bif !iZ (aL (bB A s).2 3 [40]) 3 [41]then eB A (bB A s).1 (eU A (aL (aL (bB A s).2 3 [40]) 3 [41])).1 (eF A (eU A (aL (aL (bB A s).2 3 [40]) 3 [41])).2 3 [41])
  else eB A (bB A s).1 [] (aL (aL (bB A s).2 3 [40]) 3 [41])
 else eB A (bB A s).1 [] (aL (bB A s).2 3 [40])
def Sw(A:Pa)(s:Ps)(p:Ex×Ps):Le p.2 (oc A s p):=by
 unfold oc;cases lB p.2
 .exact .refl _
 .cases decide ((bK p.1:Int)>30)
  .exact .refl _
  .exact yE _ _ _ _
def z7(A:Pa)(name:By)(params:List By)(s:Ps):Le s (eB A name params s).2:=by
 unfold eB;cases iZ s 3 [123]
 .exact bg _ _ _
 .exact(((bg _ _ _).trans (Lc A _)).trans (Sw A _ _)).trans (eS A _ _ _)
def wN(A:Pa)(s:Ps):Le (bB A s).2 (jr A s).2:=by
 unfold jr;cases iZ (bB A s).2 3 [40]
 .exact(bg _ _ _).trans (z7 A _ _ _)
 .cases iZ (aL (bB A s).2 3 [40]) 3 [41]
  .exact((((bg _ _ _).trans (bg _ _ _)).trans (sM A _)).trans (eS A _ _ _)).trans (z7 A _ _ _)
  .exact((bg _ _ _).trans (bg _ _ _)).trans (z7 A _ _ _)
def z8(A:Pa)(s:Ps):Le s (jr A s).2:=(dC A s).trans (wN A s)
def Sx(h:lB (jr A s).2=true):(jr A s).2.l.length<s.l.length:=
 DS (wN A s).len (Mt ((wN A s).ok h))
def ahx(A:Pa)(s:Ps)(e:TK s.l):al 193 [.aB 0 0] [pb A s] [qI (jr A s).1] [pb A (jr A s).2]:=by
 have d:=e.le (dC A s);apply agL;refine⟨_,_,_,_,_,HU A s e,_,_,nR A _ 3 _,ad (fun c=>⟨_,_,nR A _ 3 _,ad (fun a=>?_) fun a=>?_⟩) fun c=>?_⟩
 .have t2:=(d.le (bg (bB A s).2 3 [40])).le (bg _ 3 [41])
  have f:=(t2.le (sM A _)).le (eS A _ 3 [41]);refine⟨_,_,_,_,_,abD A _ t2,_,_,_,_,o3 A _ 3 _,?_⟩;rw[jr,c,a];simp only[aj];exact⟨_,_,_,B1 A (eF A (eU A (aL (aL (bB A s).2 3 [40]) 3 [41])).2 3 [41]),_,_,nR A (eF A (eU A (aL (aL (bB A s).2 3 [40]) 3 [41])).2 3 [41]) 3 _,ad (fun h=>ai (by rw[eB,h];rfl) (by rw[eB,h];rfl)) fun h=>
   ⟨_,_,_,_,_,_,_,_,_,Zs A _ (TK.le f (bg _ _ _)),_,OJ A _,ad
    (fun a=>⟨_,Su _ _ (ar _) (by have:=(lk A (aL (eF A (eU A (aL (aL (bB A s).2 3 [40]) 3 [41])).2 3 [41]) 3 [123])).dep;have:=(TK.le f (bg (eF A (eU A (aL (aL (bB A s).2 3 [40]) 3 [41])).2 3 [41]) 3 [123])).len;omega) (lk A _).wide,ad
     (fun b=>⟨_,_,_,Sq A (ew A (aL (eF A (eU A (aL (aL (bB A s).2 3 [40]) 3 [41])).2 3 [41]) 3 [123])).2 _ 6 _ _,_,_,_,_,o3 A (qd (ew A (aL (eF A (eU A (aL (aL (bB A s).2 3 [40]) 3 [41])).2 3 [41]) 3 [123])).2 6 (kx A (eF A (eU A (aL (aL (bB A s).2 3 [40]) 3 [41])).2 3 [41])).1 (kx A (eF A (eU A (aL (aL (bB A s).2 3 [40]) 3 [41])).2 3 [41])).2) 3 _,ai (by rw[eB,h];(simp only[af,qI,List.map,Ex.cp])<;>rfl) (by rw[eB,h];simp only[af,oc,a,b,aj])⟩)
     fun b=>⟨_,_,_,_,o3 A (ew A (aL (eF A (eU A (aL (aL (bB A s).2 3 [40]) 3 [41])).2 3 [41]) 3 [123])).2 3 _,ai (by rw[eB,h];(simp only[af,qI,List.map,Ex.cp])<;>rfl) (by rw[eB,h];simp only[af,oc,a,b,aj])⟩⟩)
    fun a=>⟨_,_,_,_,o3 A (ew A (aL (eF A (eU A (aL (aL (bB A s).2 3 [40]) 3 [41])).2 3 [41]) 3 [123])).2 3 _,ai (by rw[eB,h];(simp only[af,qI,List.map,Ex.cp])<;>rfl) (by rw[eB,h];simp only[af,oc,a])⟩⟩⟩
 .have t2:=(d.le (bg (bB A s).2 3 [40])).le (bg _ 3 [41])
  rw[jr,c,a];simp only[aj,af];exact⟨_,_,_,B1 A (aL (aL (bB A s).2 3 [40]) 3 [41]),_,_,nR A (aL (aL (bB A s).2 3 [40]) 3 [41]) 3 _,ad (fun h=>ai (by rw[eB,h];rfl) (by rw[eB,h];rfl)) fun h=>
   ⟨_,_,_,_,_,_,_,_,_,Zs A _ (TK.le t2 (bg _ _ _)),_,OJ A _,ad
    (fun a=>⟨_,Su _ _ (ar _) (by have:=(lk A (aL (aL (aL (bB A s).2 3 [40]) 3 [41]) 3 [123])).dep;have:=(TK.le t2 (bg (aL (aL (bB A s).2 3 [40]) 3 [41]) 3 [123])).len;omega) (lk A _).wide,ad
     (fun b=>⟨_,_,_,Sq A (ew A (aL (aL (aL (bB A s).2 3 [40]) 3 [41]) 3 [123])).2 _ 6 _ _,_,_,_,_,o3 A (qd (ew A (aL (aL (aL (bB A s).2 3 [40]) 3 [41]) 3 [123])).2 6 (kx A (aL (aL (bB A s).2 3 [40]) 3 [41])).1 (kx A (aL (aL (bB A s).2 3 [40]) 3 [41])).2) 3 _,ai (by rw[eB,h];(simp only[af,qI,List.map,Ex.cp])<;>rfl) (by rw[eB,h];simp only[af,oc,a,b,aj])⟩)
     fun b=>⟨_,_,_,_,o3 A (ew A (aL (aL (aL (bB A s).2 3 [40]) 3 [41]) 3 [123])).2 3 _,ai (by rw[eB,h];(simp only[af,qI,List.map,Ex.cp])<;>rfl) (by rw[eB,h];simp only[af,oc,a,b,aj])⟩⟩)
    fun a=>⟨_,_,_,_,o3 A (ew A (aL (aL (aL (bB A s).2 3 [40]) 3 [41]) 3 [123])).2 3 _,ai (by rw[eB,h];(simp only[af,qI,List.map,Ex.cp])<;>rfl) (by rw[eB,h];simp only[af,oc,a])⟩⟩⟩
 .have t2:=(d.le (bg (bB A s).2 3 [40]))
  rw[jr,c];simp only[af];exact⟨_,_,_,B1 A (aL (bB A s).2 3 [40]),_,_,nR A (aL (bB A s).2 3 [40]) 3 _,ad (fun h=>ai (by rw[eB,h];rfl) (by rw[eB,h];rfl)) fun h=>
   ⟨_,_,_,_,_,_,_,_,_,Zs A _ (TK.le t2 (bg _ _ _)),_,OJ A _,ad
    (fun a=>⟨_,Su _ _ (ar _) (by have:=(lk A (aL (aL (bB A s).2 3 [40]) 3 [123])).dep;have:=(TK.le t2 (bg (aL (bB A s).2 3 [40]) 3 [123])).len;omega) (lk A _).wide,ad
     (fun b=>⟨_,_,_,Sq A (ew A (aL (aL (bB A s).2 3 [40]) 3 [123])).2 _ 6 _ _,_,_,_,_,o3 A (qd (ew A (aL (aL (bB A s).2 3 [40]) 3 [123])).2 6 (kx A (aL (bB A s).2 3 [40])).1 (kx A (aL (bB A s).2 3 [40])).2) 3 _,ai (by rw[eB,h];(simp only[af,qI,List.map,Ex.cp])<;>rfl) (by rw[eB,h];simp only[af,oc,a,b,aj])⟩)
     fun b=>⟨_,_,_,_,o3 A (ew A (aL (aL (bB A s).2 3 [40]) 3 [123])).2 3 _,ai (by rw[eB,h];(simp only[af,qI,List.map,Ex.cp])<;>rfl) (by rw[eB,h];simp only[af,oc,a,b,aj])⟩⟩)
    fun a=>⟨_,_,_,_,o3 A (ew A (aL (aL (bB A s).2 3 [40]) 3 [123])).2 3 _,ai (by rw[eB,h];(simp only[af,qI,List.map,Ex.cp])<;>rfl) (by rw[eB,h];simp only[af,oc,a])⟩⟩⟩
def jM{α:Type}(A:Pa)(f:Ps->α×Ps):Nat->Bool->List α->Ps->List α×Ps
 |0,_,a,s=>(a,s)
 |n+1,more,a,s=>bif(bif lB s then(bif more then true else !iZ s 3 [125])else false)then
   jM A f n (iZ (f s).2 3 [44]) (a++[(f s).1]) (aL (f s).2 3 [44])else(a,eF A s 3 [125])
def rN{α:Type}(A:Pa)(f:Ps->α×Ps)(s:Ps):List α×Ps:=jM A f ((eF A s 3 [123]).l.length+2) false [] (eF A s 3 [123])
def CI(A:Pa){f:Ps->α×Ps}(a:∀s,Le s (f s).2):∀n more b s,Le s (jM A f n more b s).2
 |0,_,_,s=>.refl s
 |n+1,more,b,s=>by
  unfold jM;cases(bif lB s then(bif more then true else !iZ s 3 [125])else false)
  .exact eS _ _ _ _
  .exact((a s).trans (bg _ _ _)).trans (CI A a n _ _ _)
def vp(A:Pa){f:Ps->α×Ps}(a:∀s,Le s (f s).2)(s:Ps):Le s (rN A f s).2:=(eS A s 3 [123]).trans (CI A a _ _ _ _)
def od(s:Ps):Nat:=bif lB s then s.l.length+1 else 0
def OL(b:lB s=true)(h:lB a=true->a.l.length<s.l.length):od (aL a 3 [44])<od s:=by
 have c:lB (aL a 3 [44])=lB a:=rfl;have d:=(bg a 3 [44]).len;unfold od;rw[c,b];cases hk:lB a with
 |false=>simp only[aj,af];omega
 |true=>have:=h hk;simp only[aj];omega
def wO{c:List Item}{b:Nat}{Hd:Bool->List α->Ps->St}{A:Pa}{f:Ps->α×Ps}{fin:List α->Ps->List Bx}(d:∀s,Le s (f s).2)(g:∀s,lB (f s).2=true->(f s).2.l.length<s.l.length)(step:∀(more:Bool)(a:List α)(s:Ps)(r:List AV)(h:List Bx),TK s.l->a.length<=2^40+1 ->
   ((bif lB s then(bif more then true else !iZ s 3 [125])else false)=true->mI fn c (Hd (iZ (f s).2 3 [44]) (a++[(f s).1]) (aL (f s).2 3 [44])) b r h)->
   ((bif lB s then(bif more then true else !iZ s 3 [125])else false)=false->Fi r h [] (fin a (eF A s 3 [125])))->mI fn c (Hd more a s) b r h):
  ∀(n:Nat)(more:Bool)(a:List α)(s:Ps),TK s.l->od s<n->a.length+od s<=2^40+1->mI fn c (Hd more a s) b [] (fin (jM A f n more a s).1 (jM A f n more a s).2)
 |0,_,_,_,_,h,_=>absurd h (jl _)
 |n+1,more,a,s,e,k,l=>by
  refine step more a s _ _ e (by omega) (fun h=>?_) fun h=>ai rfl (by rw[jM,h];rfl)
  have i:lB s=true:=by cases hk:lB s<;>rw[hk]at h<;>simp at h⊢
  have j:=OL i (g s);rw[jM,h];exact wO d g step n _ _ _ (e.le ((d s).trans (bg _ _ _))) (by omega) (by simp;omega)
def vq(s:Ps):od s<=s.l.length+1:=by unfold od;cases lB s<;>simp
def abN(A:Pa)(s:Ps)(u:By)(k d:Int)(a:List gu)(b:TK s.l)(c:a.length<=2^40+1):
  al 192 [.aB 0 0,.aB 1 0] [.aH [vS u,vN k,vN d,O 3 (a.map gu.row)],.aH [.aB 2 0],pb A s] [] [.aH [vS u,vN k,vN d,O 3 ((a++[(jr A s).1]).map gu.row)],.aH [.aB 2 0],pb A (jr A s).2]:=by
 apply agJ;exact⟨_,_,_,_,_,_,_,ahx A s b,by simp;omega,ai rfl (by rw[bM];rfl)⟩
def Sz(A:Pa)(s:Ps)(u:By)(k d:Int)(b:TK s.l):
  al 136 [.aB 0 0,.fn (.func 192) [] [.aB 1 0,.aB 2 0]] [pb A s,.aH [vS u,vN k,vN d,O 3 []],.aH [.aB 0 0]] [] [pb A (rN A (jr A) s).2,.aH [vS u,vN k,vN d,O 3 ((rN A (jr A) s).1.map gu.row)],.aH [.aB 0 0]]:=by
 apply RT;have l:=(eS A s 3 [123]).len;have:=b.len;have:=vq (eF A s 3 [123]);refine⟨_,_,_,_,o3 A s 3 _,wO (Hd:=fun more a s=>ng more (s.l.map Tok.row) A.en A.fi A.sp (A.ds.map cT.row) (A.ps.map cL.row) (aI A.mn) A.dk A.dd s.e s.f s.c u k d (a.map gu.row)) (A:=A) (f:=jr A) (fin:=fun a s=>[pb A s,.aH [vS u,vN k,vN d,O 3 (a.map gu.row)],.aH [.aB 0 0]]) (z8 A) (fun s=>Sx)
  (fun more a s r h b j g i=>?_) _ false [] _ (b.le (eS A s 3 [123])) (by omega) (by simp;omega)⟩
 apply K3;refine⟨_,OJ A s,ad (fun h=>ad (fun c=>⟨_,_,_,_,_,abN A s u k d a b j,_,_,nR A (jr A s).2 3 _,g (by rw[h,c];rfl)⟩) fun c=>⟨_,Zo A s 3 _,ad (fun e=>⟨_,_,_,_,_,abN A s u k d a b j,_,_,nR A (jr A s).2 3 _,g (by rw[h,c];exact e)⟩) fun e=>⟨_,_,_,_,o3 A s 3 _,i (by rw[h,c];exact e)⟩⟩) fun h=>⟨_,_,_,_,o3 A s 3 _,i (by rw[h];rfl)⟩⟩
abbrev OM(p:cK):AV:=.agg [S p.use,N p.act.kind,N p.act.data,L 3 (p.bj.map gu.row)]
def fX:By:=[85,83,69]
def di:By:=[80,79,76,73,67,89]
def fJ:By:=[68,69,70,65,85,76,84]
def ib(A:Pa)(s:Ps):cK×Ps:=
 bif iZ s 1 fX then(⟨(bB A (aL s 1 fX)).1,⟨0,0⟩,[]⟩,(bB A (aL s 1 fX)).2)else
 (⟨[],(dh A (aL s 1 fX)).1,(rN A (jr A) (dh A (aL s 1 fX)).2).1⟩,(rN A (jr A) (dh A (aL s 1 fX)).2).2)
def ON(h:lB (dh A s).2=true):(dh A s).2.l.length<s.l.length:=by
 unfold dh at h⊢;cases hn:(jW s).2<;>rw[hn]at h
 .rw[show lB (bif !false then((⟨0,0⟩:Act),gm A s 3)else
 bif[3,4,5].any ((jW s).1 == ·)then(⟨(jW s).1,(vn A (UH s)).1⟩,(vn A (UH s)).2)else(⟨(jW s).1,0⟩,UH s)).2=lB (gm A s 3)from rfl,gm,zU _ _ _ _ rfl]at h
  simp at h
 .have c:s.l.tail.length<s.l.length:=by
   unfold jW at hn;cases hf:gE s with
   |none=>rw[hf]at hn;simp at hn
   |some x=>obtain⟨t,d⟩:=(iD hf).2;rw[d];simp
  have b:=(HV A (UH s)).len;have a:(UH s).l.length<s.l.length:=c;cases[3,4,5].any ((jW s).1 == ·)
  .exact a
  .exact DS b a
def Aa(A:Pa)(s:Ps):Le s (ib A s).2:=by
 unfold ib;cases iZ s 1 fX
 .exact((bg _ _ _).trans (tI A _)).trans (vp A (z8 A) _)
 .exact(bg _ _ _).trans (dC A _)
def SA(h:lB (ib A s).2=true):(ib A s).2.l.length<s.l.length:=by
 have a:=(bg s 1 fX).len;unfold ib at h⊢;cases hi:iZ s 1 fX<;>rw[hi]at h
 .have b:=vp A (z8 A) (dh A (aL s 1 fX)).2
  have c:=b.len;have d:=ON (b.ok h);exact DS c (gy d a)
 .exact gy (Mt h) a
def ahy(A:Pa)(s:Ps)(b:TK s.l):al 138 [.aB 0 0] [pb A s] [OM (ib A s).1] [pb A (ib A s).2]:=by
 have a:=b.le (bg s 1 fX);apply agv;exact⟨_,_,nR A s 1 _,ad (fun h=>⟨_,_,_,_,_,HU A _ a,ai (by rw[ib,show iZ s 1 fX=true from h];rfl) (by rw[ib,show iZ s 1 fX=true from h];rfl)⟩) fun h=>⟨_,_,_,_,_,_,abE A _ a,_,_,_,_,_,_,_,_,Sz A _ [] _ _ (a.le (tI A _)),ai (by rw[ib,show iZ s 1 fX=false from h];rfl) (by rw[ib,show iZ s 1 fX=false from h];rfl)⟩⟩
def abO(A:Pa)(s:Ps)(u:By)(a:List cK)(b:TK s.l)(c:a.length<=2^40+1):
  al 137 [.aB 0 0,.aB 1 0] [.aH [vS u,O 4 (a.map cK.row)],.aH [.aB 2 0],pb A s] [] [.aH [vS u,O 4 ((a++[(ib A s).1]).map cK.row)],.aH [.aB 2 0],pb A (ib A s).2]:=by
 apply agt;exact⟨_,_,_,_,_,_,_,_,ahy A s b,by simp;omega,ai rfl (by rw[bM];rfl)⟩
def SB(A:Pa)(s:Ps)(u:By)(b:TK s.l):
  al 136 [.aB 0 0,.fn (.func 137) [] [.aB 1 0,.aB 2 0]] [pb A s,.aH [vS u,O 4 []],.aH [.aB 0 0]] [] [pb A (rN A (ib A) s).2,.aH [vS u,O 4 ((rN A (ib A) s).1.map cK.row)],.aH [.aB 0 0]]:=by
 apply RS;have j:=(eS A s 3 [123]).len;have:=b.len;have:=vq (eF A s 3 [123]);refine⟨_,_,_,_,o3 A s 3 _,wO (Hd:=fun more a s=>nf more (s.l.map Tok.row) A.en A.fi A.sp (A.ds.map cT.row) (A.ps.map cL.row) (aI A.mn) A.dk A.dd s.e s.f s.c u (a.map cK.row)) (A:=A) (f:=ib A) (fin:=fun a s=>[pb A s,.aH [vS u,O 4 (a.map cK.row)],.aH [.aB 0 0]]) (Aa A) (fun s=>SA)
  (fun more a s r h b i e g=>?_) _ false [] _ (b.le (eS A s 3 [123])) (by omega) (by simp;omega)⟩
 apply K0;refine⟨_,OJ A s,ad (fun h=>ad (fun c=>⟨_,_,_,_,_,abO A s u a b i,_,_,nR A (ib A s).2 3 _,e (by rw[h,c];rfl)⟩) fun c=>⟨_,Zo A s 3 _,ad (fun d=>⟨_,_,_,_,_,abO A s u a b i,_,_,nR A (ib A s).2 3 _,e (by rw[h,c];exact d)⟩) fun d=>⟨_,_,_,_,o3 A s 3 _,g (by rw[h,c];exact d)⟩⟩) fun h=>⟨_,_,_,_,o3 A s 3 _,g (by rw[h];rfl)⟩⟩
def xC(A:Pa)(a:Int×Cx)(s:Ps):Pa×Ps:=
 ({A with mn:=(eU A s).1,dk:=(dh A (eF A (eU A s).2 1 fJ)).1.kind,dd:=(dh A (eF A (eU A s).2 1 fJ)).1.data},
  bif decide ((A.mn.length:Int)>0)then qd (dh A (eF A (eU A s).2 1 fJ)).2 11 a.1 a.2 else(dh A (eF A (eU A s).2 1 fJ)).2)
def HZ(A:Pa)(a:Int×Cx)(s:Ps):Le s (xC A a s).2:=by
 have h:=((sM A s).trans (eS A _ 1 fJ)).trans (tI A _);unfold xC;cases decide ((A.mn.length:Int)>0)
 .exact h
 .exact h.trans (yE _ _ _ _)
def ahz(A:Pa)(a:Int×Cx)(s:Ps)(b:TK s.l):al 139 [.aB 0 0,.agg [N 0,N a.1,C a.2]] [pb A s] [] [pb (xC A a s).1 (xC A a s).2]:=by
 have c:=(b.le (sM A s)).le (eS A _ 1 fJ);apply agx;refine⟨_,_,_,_,_,abD A s b,_,_,_,_,o3 A _ 1 _,_,_,_,_,_,_,abE A _ c,?_⟩;rw[show(aI A.mn).length=A.mn.length by simp[aI]]
 exact ad (fun h=>⟨_,_,_,Sq A (dh A (eF A (eU A s).2 1 fJ)).2 _ 11 _ _,ai rfl (by simp only[xC,h,aj];rfl)⟩) fun h=>ai rfl (by simp only[xC,h,af];rfl)
def db(A:Pa)(s:Ps):Pa×Ps:=
 bif iZ s 5 bS then({A with ds:=A.ds++[⟨(bB A (aL s 5 bS)).1,(jB A (bB A (aL s 5 bS)).2).1⟩]},(jB A (bB A (aL s 5 bS)).2).2)else
 bif iZ (aL s 5 bS) 1 di then({A with ps:=A.ps++[⟨(bB A (aL (aL s 5 bS) 1 di)).1,(rN A (ib A) (bB A (aL (aL s 5 bS) 1 di)).2).1⟩]},(rN A (ib A) (bB A (aL (aL s 5 bS) 1 di)).2).2)else
 bif iZ (aL (aL s 5 bS) 1 di) 1 fX then xC A (kx A s) (aL (aL (aL s 5 bS) 1 di) 1 fX)else
 (A,qd (aL (aL (aL s 5 bS) 1 di) 1 fX) 3 (kx A s).1 (kx A s).2)
def SC(A:Pa)(s:Ps):Le s (db A s).2:=by
 unfold db;cases iZ s 5 bS
 .cases iZ (aL s 5 bS) 1 di
  .cases iZ (aL (aL s 5 bS) 1 di) 1 fX
   .exact(((bg _ _ _).trans (bg _ _ _)).trans (bg _ _ _)).trans (yE _ _ _ _)
   .exact(((bg _ _ _).trans (bg _ _ _)).trans (bg _ _ _)).trans (HZ A _ _)
  .exact(((bg _ _ _).trans (bg _ _ _)).trans (dC A _)).trans (vp A (Aa A) _)
 .exact((bg _ _ _).trans (dC A _)).trans (qe A _)
def SD(h:lB (db A s).2=true):(db A s).2.l.length<s.l.length:=by
 unfold db at h⊢;cases h1:iZ s 5 bS<;>rw[h1]at h
 .cases h2:iZ (aL s 5 bS) 1 di<;>rw[h2]at h
  .cases h3:iZ (aL (aL s 5 bS) 1 di) 1 fX<;>rw[h3]at h
   .simp only[af]at h
    rw[zU _ _ _ _ rfl]at h;simp at h
   .have:=iT h3
    have:=((bg s 5 bS).trans (bg _ 1 di)).len;have:=(HZ A (kx A s) (aL (aL (aL s 5 bS) 1 di) 1 fX)).len;simp only[aj,af];omega
  .have:=iT h2
   have:=(bg s 5 bS).len;have:=((dC A (aL (aL s 5 bS) 1 di)).trans (vp A (Aa A) _)).len;simp only[aj,af];omega
 .have:=iT h1
  have:=((dC A (aL s 5 bS)).trans (qe A _)).len;simp only[aj];omega
def C98(A:Pa)(s:Ps)(d:TK s.l)(f:A.ds.length<=2^40)(g:A.ps.length<=2^40):al 98 [.aB 0 0] [pb A s] [] [pb (db A s).1 (db A s).2]:=by
 have b:=d.le (bg s 5 bS);have t2:=b.le (bg _ 1 di);have e:=t2.le (bg _ 1 fX);apply W98;refine⟨_,_,_,B1 A s,_,_,nR A s 5 bS,ad (fun h=>⟨_,_,_,_,_,HU A _ b,⟨_,_,_,_,_,_,_,_,_,abM A _ (b.le (dC A _)),by simp;omega,ai rfl ?_⟩,⟨_,_,_,_,_,_,_,_,_,Zq A _ (b.le (dC A _)),by simp;omega,ai rfl ?_⟩⟩) fun h=>⟨_,_,nR A _ 1 di,ad (fun a=>⟨_,_,_,_,_,HU A _ t2,_,_,_,_,_,_,SB A _ _ (t2.le (dC A _)),by simp;omega,ai rfl ?_⟩) fun a=>
  ⟨_,_,nR A _ 1 fX,ad (fun c=>⟨_,_,_,_,_,_,_,ahz A (kx A s) _ e,ai rfl ?_⟩) fun c=>⟨_,_,_,Sq A (aL (aL (aL s 5 bS) 1 di) 1 fX) _ 3 _ _,ai rfl ?_⟩⟩⟩⟩
 .rw[db,h];simp only[aj,pb,bM,bH,oI,cT.row,Ex.cp]
 .rw[db,h];simp only[aj,pb,bM,bH,oI,cT.row,Ex.cp]
 .rw[db,h,a];simp only[aj,af,pb,bM,bH,oI,cL.row]
 .rw[db,h,a,c];rfl
 .rw[db,h,a,c];rfl
def ey:Nat->Pa->Ps->Pa×Ps
 |0,A,s=>(A,s)
 |n+1,A,s=>match gE s with
  |none=>(A,s)
  |some _=>ey n (db A s).1 (db A s).2
def wP(A:Pa)(s:Ps):fH×Int×Int×Cx:=bif !lB s then(⟨[],[],[],⟨0,0⟩⟩,s.e,s.f,s.c)else(⟨A.ds,A.ps,A.mn,⟨A.dk,A.dd⟩⟩,0,0,some (0,0))
def rO(A:Pa)(s:Ps):fH×Int×Int×Cx:=bif(A.mn.length:Int)==0 then wP A (gm A s 11)else wP A s
def Ad(l:List Tok)(a fi:Int)(sp:Cx):fH×Int×Int×Cx:=
 rO (ey (l.length+2) ⟨a,fi,sp,[],[],[],0,0⟩ ⟨l,0,0,some (0,0)⟩).1 (ey (l.length+2) ⟨a,fi,sp,[],[],[],0,0⟩ ⟨l,0,0,some (0,0)⟩).2
abbrev qg(u:fH):AV:=.agg [L 6 (u.aF.map cT.row),L 2 (u.aA.map cL.row),L 1 (aI u.main),N u.bO.kind,N u.bO.data]
abbrev SE(f:Int×Int×Cx):AV:=.agg [N f.1,N f.2.1,C f.2.2]
def Lf(A:Pa)(s:Ps):(db A s).1.en=A.en/\(db A s).1.fi=A.fi/\(db A s).1.sp=A.sp/\(db A s).1.ds.length<=A.ds.length+1/\(db A s).1.ps.length<=A.ps.length+1:=by
 unfold db;cases iZ s 5 bS
 .cases iZ (aL s 5 bS) 1 di
  .cases iZ (aL (aL s 5 bS) 1 di) 1 fX
   .exact⟨rfl,rfl,rfl,jj _,jj _⟩
   .exact⟨rfl,rfl,rfl,jj _,jj _⟩
  .exact⟨rfl,rfl,rfl,jj _,by simp⟩
 .exact⟨rfl,rfl,rfl,by simp,jj _⟩
def L77(d fi:Int)(sp:Cx):∀(n:Nat)(A:Pa)(s:Ps),TK s.l->od s<n->A.ds.length+od s<=2^40+1->A.ps.length+od s<=2^40+1->A.en=d->A.fi=fi->A.sp=sp ->
  Ms [] [] [] 0 0 0 0 (some (0,0)) (s.l.map Tok.row) d fi sp (A.ds.map cT.row) (A.ps.map cL.row) (aI A.mn) A.dk A.dd s.e s.f s.c [qg (rO (ey n A s).1 (ey n A s).2).1,SE (rO (ey n A s).1 (ey n A s).2).2] []
 |0,_,_,_,h,_,_,_,_,_=>absurd h (by omega)
 |n+1,A,s,e,k,j,l,rfl,rfl,rfl=>by
  apply abc;refine⟨_,OJ A s,lg s (fun x c _ _=>?_) fun c=>?_⟩
  .have g:=(iD c).1
   have b:=Lf A s;have i:od (db A s).2<od s:=by
    unfold od;rw[g];cases hk:lB (db A s).2 with
    |false=>simp only[aj,af];omega
    |true=>have:=SD hk;simp only[aj];omega
   have a:0<od s:=by omega
   have:=L77 A.en A.fi A.sp n (db A s).1 (db A s).2 (e.le (SC A s)) (by omega) (by omega) (by omega) b.1 b.2.1 b.2.2.1
   have f:=C98 A s e (by omega) (by omega)
   rw[ey,c];refine⟨_,_,_,_,_,_,_,_,_,?_,this⟩;rw[show pb (db A s).1 (db A s).2=K7 ((db A s).2.l.map Tok.row) A.en A.fi A.sp ((db A s).1.ds.map cT.row) ((db A s).1.ps.map cL.row) (aI (db A s).1.mn) (db A s).1.dk (db A s).1.dd (db A s).2.e (db A s).2.f (db A s).2.c by rw[<-b.1,<-b.2.1,<-b.2.2.1]]at f
   exact f
  .rw[ey,c]
   simp only;rw[show(aI A.mn).length=A.mn.length by simp[aI]]
   refine ad (fun h=>⟨_,_,_,B1 A s,_,_,_,Sq A s _ 11 _ _,_,OJ A (gm A s 11),ad (fun a=>ai ?_ rfl) fun a=>ai ?_ rfl⟩) fun h=>⟨_,OJ A s,ad (fun a=>ai ?_ rfl) fun a=>ai ?_ rfl⟩
   .simp only[rO,h,aj,wP,a];rfl
   .simp only[rO,h,aj,wP,a,af]
   .simp only[rO,h,af,wP,a,aj];rfl
   .simp only[rO,h,af,wP,a]
def C77(l:List Tok)(a fi:Int)(sp:Cx)(b:TK l):al 77 [vL 4 (l.map Tok.row),.agg [N a,N fi,C sp]] [] [qg (Ad l a fi sp).1,SE (Ad l a fi sp).2] []:=by
 have:=b.len;apply W77;exact L77 a fi sp (l.length+2) ⟨a,fi,sp,[],[],[],0,0⟩ ⟨l,0,0,some (0,0)⟩ b (by have:=vq ⟨l,0,0,some (0,0)⟩;simp at this⊢; omega) (by have:=vq ⟨l,0,0,some (0,0)⟩;simp at this⊢; omega) (by have:=vq ⟨l,0,0,some (0,0)⟩;simp at this⊢; omega) rfl rfl rfl
def A81:bu:={}
def W81(a:By)(H:aw (a==[97,97,114,99,104,54,52]) (Fi r h [vW 3221225655,vB true] [])
 (aw (a==[105,51,56,54]) (Fi r h [vW 1073741827,vB true] [])
 (aw (a==[120,56,54,95,54,52]) (Fi r h [vW 3221225534,vB true] [])
 (Fi r h [vW 0,vB false] [])))):
  al 81 [vS a] [] r h:=.of func81 A81 H
def ahA:bu:={an:=[(2,4,aa),(2,5,aa),(2,6,aa),(2,9,aa),(2,10,aa),(2,11,aa),(4,2,ah),(5,3,aa),(5,4,aa),(5,5,aa),(5,8,aa),(5,9,aa),(5,10,aa),(5,11,aa)]}
def ahB(H:aw (bif(bif(b==3)then true else(b==4))then true else(b==5)) (Gw 158 [vN b] [] fun c d=>aw (bif(bif(!d)then true else(decide (a<0)))then true else(decide (a>65535))) (Fi r h [vW 0,vB false] [])
 (Fi r h [vW (wrap .u32 (c+(wrap .u32 a))),vB true] []))
 (Gw 158 [vN b] [] fun e f=>aw (bif(bif(!f)then true else(decide (a<0)))then true else(decide (a>0))) (Fi r h [vW 0,vB false] [])
 (Fi r h [vW (wrap .u32 (e+(wrap .u32 a))),vB true] []))):
  al 106 [.agg [N b,N a]] [] r h:=.of func106 ahA H
def ahC:bu:={an:=[(1,1,ah),(5,3,ah)]}
def ahD(b c:By)(H:∃a,al 219 [vS b] [] [vL 3 a] []/\kL 220 [vL 3 a,.fn (.func 221) [] [.aB 0 0]] [.aH [vS c]] fun d=>aw (decide (d<0)) (Fi r h [.agg [S [],W 0,L 1 []],vB false] [])
 (wA a d fun e f g=>Fi r h [.agg [S e,W f,L 1 g],vB true] [])):
  al 155 [vS b,vS c] [] r h:=.of func155 ahC H
def ahE:bu:={}
def ahF(a:Int)(H:aw (a==1) (Fi r h [vW 2147483648,vB true] [])
 (aw (a==2) (Fi r h [vW 0,vB true] [])
 (aw (a==3) (Fi r h [vW 196608,vB true] [])
 (aw (a==4) (Fi r h [vW 327680,vB true] [])
 (aw (a==5) (Fi r h [vW 2146435072,vB true] [])
 (aw (a==6) (Fi r h [vW 2147221504,vB true] [])
 (aw (a==7) (Fi r h [vW 2147418112,vB true] [])
 (Fi r h [vW 0,vB false] [])))))))):
  al 158 [vN a] [] r h:=.of func158 ahE H
abbrev Ae(a:Int)(b c:Rw)(d e:Int)r h:=Lp f219 0 ⟨aO 38 [(3,vN a),(4,.own 0 0 3 b),(13,vL 5 c),(14,vN d),(15,vN e)],[some 0],[]⟩ 0 r h
def abQ:bu:={an:=[(1,0,ah),(1,2,ah),(5,0,ah),(7,1,ah),(10,7,ah)],cut:=[(6,{bl:=[3,4,13,14,15],cW:=[(4,3)],owns:=[4]})]}
def abS(a:By)(H:Hn 277 [] [] fun d=>kL 267 [vL 1 d,vS a] [] fun b=>aw (decide (b<0)) (Fi r h [vL 3 []] [])
 (Kq 278 [] [] fun c=>Ae b [] c (c.length:Int) 0 r h)):
  al 219 [vS a] [] r h:=.of func219 abQ H
def SF(b:Int)(c d:Rw)(e a:Int)(H:aw (decide (a<e)) (U8 d a fun g i k l m=>(0<=b/\b<3)/\∃f,([vS g,vS i,vN k,vN l,vN m]:List AV)[2+toNat b*1+0]?=some (.v (N f))/\aw (f !=(-1)) (Hn 279 [vS i] [] fun j=>(c++([[S g,W (wrap .u32 f),L 1 j]]:Rw)).length*48<=2^47/\au (a+1)/\Ae b (c++([[S g,W (wrap .u32 f),L 1 j]]:Rw)) d e (a+1) r h)
 (au (a+1)/\Ae b c d e (a+1) r h))
 (Fi r h [.own 0 0 3 c] [])):
  Ae b c d e a r h:=.of abQ H
def ahG:bu:={}
def ahH(b:By)(c:Int)(d:Rw)(a:By)(H:Fi r h [vB (b==a)] [.aH [vS a]]):
  al 221 [.agg [S b,W c,L 1 d],.aB 0 0] [.aH [vS a]] r h:=.of func221 ahG H
def ahI:bu:={}
def ahJ(H:Fi r h [vL 1 [[S [97,97,114,99,104,54,52]],[S [105,51,56,54]],[S [120,56,54,95,54,52]]]] []):
  al 277 [] [] r h:=.of func277 ahI H
def ahK:bu:={}
def ahL(H:Fi r h [vL 5 [[S [98,114,107],S [97,100,100,114],N 214,N 45,N 12],[S [99,108,111,115,101],S [102,100],N 57,N 6,N 3],[S [100,117,112],S [102,100],N 23,N 41,N 32],[S [101,120,105,116],S [99,111,100,101],N 93,N 1,N 60],[S [101,120,105,116,95,103,114,111,117,112],S [99,111,100,101],N 94,N 252,N 231],[S [103,101,116,112,105,100],S [],N 172,N 20,N 39],[S [105,111,99,116,108],S [102,100,32,114,101,113,117,101,115,116,32,97,114,103],N 29,N 54,N 16],[S [107,105,108,108],S [112,105,100,32,115,105,103],N 129,N 37,N 62],[S [109,109,97,112],S [97,100,100,114,32,108,101,110,32,112,114,111,116,32,102,108,97,103,115,32,102,100,32,111,102,102],N 222,N 90,N 9],[S [109,112,114,111,116,101,99,116],S [97,100,100,114,32,108,101,110,32,112,114,111,116],N 226,N 125,N 10],[S [109,117,110,109,97,112],S [97,100,100,114,32,108,101,110],N 215,N 91,N 11],[S [111,112,101,110],S [112,97,116,104,32,102,108,97,103,115,32,109,111,100,101],N (-1),N 5,N 2],[S [111,112,101,110,97,116],S [100,105,114,32,112,97,116,104,32,102,108,97,103,115,32,109,111,100,101],N 56,N 295,N 257],[S [112,114,99,116,108],S [111,112,116,105,111,110,32,97,32,98,32,99,32,100],N 167,N 172,N 157],[S [114,101,97,100],S [102,100,32,98,117,102,32,99,111,117,110,116],N 63,N 3,N 0],[S [115,111,99,107,101,116],S [102,97,109,105,108,121,32,116,121,112,101,32,112,114,111,116,111,99,111,108],N 198,N 359,N 41],[S [119,114,105,116,101],S [102,100,32,98,117,102,32,99,111,117,110,116],N 64,N 4,N 1]]] []):
  al 278 [] [] r h:=.of func278 ahK H
def fP(k:Int):Int×Bool:=
 bif k==1 then(2147483648,true)else bif k==2 then(0,true)else bif k==3 then(196608,true)else bif k==4 then(327680,true)else
 bif k==5 then(2146435072,true)else bif k==6 then(2147221504,true)else bif k==7 then(2147418112,true)else(0,false)
def abT(k:Int):al 158 [vN k] [] [vW (fP k).1,vB (fP k).2] []:=
 ahF k (ad (fun h=>ai (by rw[fP,h];rfl) rfl) fun a=>ad (fun h=>ai (by rw[fP,a,h];rfl) rfl) fun b=>ad (fun h=>ai (by rw[fP,a,b,h];rfl) rfl) fun c=>
  ad (fun h=>ai (by rw[fP,a,b,c,h];rfl) rfl) fun d=>ad (fun h=>ai (by rw[fP,a,b,c,d,h];rfl) rfl) fun e=>ad (fun h=>ai (by rw[fP,a,b,c,d,e,h];rfl) rfl) fun f=>
  ad (fun h=>ai (by rw[fP,a,b,c,d,e,f,h];rfl) rfl) fun h=>ai (by rw[fP,a,b,c,d,e,f,h];rfl) rfl)
def cd(a:Act):Int×Bool:=
 bif(bif(bif !(fP a.kind).2 then true else decide (a.data<0))then true else decide (a.data>(bif(bif(bif(a.kind==3)then true else(a.kind==4))then true else(a.kind==5))then 65535 else 0)))then(0,false)else
 (wrap .u32 ((fP a.kind).1+wrap .u32 a.data),true)
def Vv(a:Act):al 106 [zW a] [] [vW (cd a).1,vB (cd a).2] []:=by
 apply ahB;exact ad (fun h=>⟨_,_,abT _,ad (fun b=>ai (by rw[cd,h];simp only[aj]at b⊢; rw[b];rfl) rfl) fun b=>ai (by rw[cd,h];simp only[aj]at b⊢; rw[b];rfl) rfl⟩)
  fun h=>⟨_,_,abT _,ad (fun b=>ai (by rw[cd,h];simp only[af]at b⊢; rw[b];rfl) rfl) fun b=>ai (by rw[cd,h];simp only[af]at b⊢; rw[b];rfl) rfl⟩
def abU(a:Act):al 151 [zW a] [] [vB (cd a).2] []:=by apply ahb;exact⟨_,_,Vv a,fi⟩
mutual
def rP:Ex->Prop|.mk _ o n _ l=>o.length<=2^40/\n.length<=2^40/\l.length<=2^40/\UI l
def UI:List Ex->Prop|[]=>True|e::l=>rP e/\UI l
end
def ky(e:Ex):rP e<->e.op.length<=2^40/\e.name.length<=2^40/\e.kids.length<=2^40/\UI e.kids:=by cases e;exact Iff.rfl
def dU:∀{l:List Ex},UI l->∀x∈l,rP x
 |[],_,_,h=>by simp at h
 |e::l,a,x,h=>by
  rcases aZ.1 h with rfl|h
  .exact a.1
  .exact dU a.2 x h
mutual
theorem vr:∀(e:Ex),rP e->mi e
 |.mk _ _ _ _ l,h=>⟨h.2.2.1,H0 l h.2.2.2⟩
theorem H0:∀(l:List Ex),UI l->ni l
 |[],_=>trivial
 |e::l,h=>⟨vr e h.1,H0 l h.2⟩
end
def ahM:Ex:=.mk 0 [] [] 0 []
def fj(e:Ex):Bool:=bif(bif(bif(e.kind==7)then(e.op==[])else false)then(e.name==[])else false)then((e.kids.length:Int)==0)else false
def ej(e:Ex):Bool:=bif(bif(e.kind==5)then(bif(e.op==[])then(e.num==0)else false)else false)then((e.kids.length:Int)==0)else false
def iE(e:Ex):Bool:=bif(bif(e.kind==6)then(bif(e.op==[])then(e.num==0)else false)else false)then((e.kids.length:Int)==1)else false
def fQ(e:Ex):Bool:=bif(bif(bif(e.kind==3)then(bif(e.op==[])then(e.num==0)else false)else false)then(e.name==[])else false)then((e.kids.length:Int)==1)else false
def iF(e:Ex):Bool:=bif(bif(bif(e.kind==4)then(e.name==[])else false)then(e.num==0)else false)then((e.kids.length:Int)==2)else false
def dV(e:Ex):Bool:=bif(bif(bif(bif(bif(e.kind==1)then true else(e.kind==2))then true else(e.kind==8))then(bif(e.op==[])then(e.num==0)else false)else false)then(e.name==[])else false)then((e.kids.length:Int)==2)else false
def kM(e:Ex)(i:Nat):Ex:=e.kids.getD i ahM
def exC(e:Ex):List PV:=[N e.kind,S e.op,S e.name,U e.num,L 5 (br e.kids)]
def jX(e:Ex):Option (TypeId×List PV):=
 bif fj e then some (380,[])else bif ej e then some (381,[])else bif iE e then some (383,exC (kM e 0))else bif fQ e then some (384,exC (kM e 0))else
 bif iF e then some (331,exC (kM e 0)++exC (kM e 1))else bif dV e then some (331,exC (kM e 0)++exC (kM e 1))else none
def cg(h:(bif b then c else false)=true):b=true/\c=true:=by cases b<;>cases c<;>simp at h⊢
def abV{l:List Ex}(h:((l.length:Int)==0)=true):l=[]:=by have:=eq_of_beq h;exact hX.1 (by omega)
def Qb{l:List Ex}(h:((l.length:Int)==1)=true):∃x,l=[x]:=by have:=eq_of_beq h;exact List.length_eq_one_iff.1 (by omega)
def Od{l:List Ex}(h:((l.length:Int)==2)=true):∃x y,l=[x,y]:=by have:=eq_of_beq h;match l,this with|[x,y],_=>exact⟨x,y,rfl⟩
def CJ(h:fj e=true):∃m,e = .mk 7 [] [] m []:=by
 obtain⟨k,o,n,m,l⟩:=e;obtain⟨h,d⟩:=cg h;obtain⟨h,c⟩:=cg h;obtain⟨a,b⟩:=cg h;exact⟨m,by rw[show k=7 from eq_of_beq a,show o=[]from eq_of_beq b,show n=[]from eq_of_beq c,show l=[]from abV d]⟩
def o4(h:ej e=true):∃n,e = .mk 5 [] n 0 []:=by
 obtain⟨k,o,n,m,l⟩:=e;obtain⟨h,d⟩:=cg h;obtain⟨a,h⟩:=cg h;obtain⟨b,c⟩:=cg h;exact⟨n,by rw[show k=5 from eq_of_beq a,show o=[]from eq_of_beq b,show m=0 from eq_of_beq c,show l=[]from abV d]⟩
def wQ(h:iE e=true):∃n x,e = .mk 6 [] n 0 [x]:=by
 obtain⟨k,o,n,m,l⟩:=e;obtain⟨h,d⟩:=cg h;obtain⟨a,h⟩:=cg h;obtain⟨b,c⟩:=cg h;obtain⟨x,f⟩:=Qb d;exact⟨n,x,by rw[show k=6 from eq_of_beq a,show o=[]from eq_of_beq b,show m=0 from eq_of_beq c,show l=[x]from f]⟩
def wR(h:fQ e=true):∃x,e = .mk 3 [] [] 0 [x]:=by
 obtain⟨k,o,n,m,l⟩:=e;obtain⟨h,d⟩:=cg h;obtain⟨h,f⟩:=cg h;obtain⟨a,h⟩:=cg h;obtain⟨b,c⟩:=cg h;obtain⟨x,g⟩:=Qb d;exact⟨x,by rw[show k=3 from eq_of_beq a,show o=[]from eq_of_beq b,show m=0 from eq_of_beq c,show n=[]from eq_of_beq f,show l=[x]from g]⟩
def sO(h:iF e=true):∃o x y,e = .mk 4 o [] 0 [x,y]:=by
 obtain⟨k,o,n,m,l⟩:=e;obtain⟨h,c⟩:=cg h;obtain⟨h,d⟩:=cg h;obtain⟨a,b⟩:=cg h;obtain⟨x,y,f⟩:=Od c;exact⟨o,x,y,by rw[show k=4 from eq_of_beq a,show n=[]from eq_of_beq b,show m=0 from eq_of_beq d,show l=[x,y]from f]⟩
def mK(h:dV e=true):∃k x y,e = .mk k [] [] 0 [x,y]/\(k=1\/k=2\/k=8):=by
 obtain⟨k,o,n,m,l⟩:=e;obtain⟨h,d⟩:=cg h;obtain⟨h,f⟩:=cg h;obtain⟨a,h⟩:=cg h;obtain⟨b,c⟩:=cg h;obtain⟨x,y,g⟩:=Od d;refine⟨k,x,y,by rw[show o=[]from eq_of_beq b,show n=[]from eq_of_beq f,show m=0 from eq_of_beq c,show l=[x,y]from g],?_⟩
 cases ha:k==1
 .cases hb:k==2
  .have:(bif(bif(k==1)then true else(k==2))then true else(k==8))=true:=a
   rw[ha,hb]at this;exact .inr (.inr (eq_of_beq this))
  .exact .inr (.inl (eq_of_beq hb))
 .exact .inl (eq_of_beq ha)
def ahN(e:Ex):al 268 [oz e] [] [vB (bif(bif(e.kind==1)then true else(e.kind==2))then true else(e.kind==8))] []:=by apply ahn;exact fi
def Vw(e:Ex):al 204 [oz e] [] [.xp (jX e)] []:=by
 have j:(br e.kids).length=e.kids.length:=by rw[dq,ao]
 have c:∀{n:Int},((e.kids.length:Int)==n)=true->∀i:Nat,(i:Int)<n->(br e.kids)[toNat (i:Int)]?=some [N (kM e i).kind,S (kM e i).op,S (kM e i).name,U (kM e i).num,L 5 (br (kM e i).kids)]:=by
  intro n h i k;have h:=eq_of_beq h;have a:i<e.kids.length:=by omega
  rw[dq,toNat_cast,bw,bo a,kM,bW,bo a,<-Ex.cp];rfl
 apply ahf;rw[j];refine ad (fun h=>ai (by rw[jX,show fj e=true from h];rfl) rfl) fun b=>ad (fun h=>ai (by rw[jX,show fj e=false from b,show ej e=true from h];rfl) rfl) fun a=>
  ad (fun h=>⟨_,_,_,_,_,by omega,c (cg h).2 0 (by omega),ai (by rw[jX,show fj e=false from b,show ej e=false from a,show iE e=true from h];rfl) rfl⟩) fun d=>
  ad (fun h=>⟨_,_,_,_,_,by omega,c (cg h).2 0 (by omega),ai (by rw[jX,show fj e=false from b,show ej e=false from a,show iE e=false from d,show fQ e=true from h];rfl) rfl⟩) fun f=>
  ad (fun h=>⟨_,_,_,_,_,by omega,c (cg h).2 0 (by omega),_,_,_,_,_,by omega,c (cg h).2 1 (by omega),ai (by rw[jX,show fj e=false from b,show ej e=false from a,show iE e=false from d,show fQ e=false from f,show iF e=true from h];rfl) rfl⟩) fun g=>
  ⟨_,ahN e,ad (fun h=>⟨_,_,_,_,_,by omega,c (cg h).2 0 (by omega),_,_,_,_,_,by omega,c (cg h).2 1 (by omega),ai (by rw[jX,show fj e=false from b,show ej e=false from a,show iE e=false from d,show fQ e=false from f,show iF e=false from g,show dV e=true from h];rfl) rfl⟩) fun h=>ai (by rw[jX,show fj e=false from b,show ej e=false from a,show iE e=false from d,show fQ e=false from f,show iF e=false from g,show dV e=false from h];rfl) rfl⟩
def nj(e:Ex)(t:TypeId)(h:((fj e=false\/t≠380)/\(ej e=false\/t≠381)/\(iE e=false\/t≠383)/\(fQ e=false\/t≠384)/\((iF e=false/\dV e=false)\/t≠331))):∀cs,jX e≠some (t,cs):=by
 obtain⟨c,d,f,g,b⟩:=h;intro cs a;unfold jX at a;cases a1:fj e<;>rw[a1]at a c
 .cases a2:ej e<;>rw[a2]at a d
  .cases a3:iE e<;>rw[a3]at a f
   .cases a4:fQ e<;>rw[a4]at a g
    .cases a5:iF e<;>rw[a5]at a b
     .cases a6:dV e<;>rw[a6]at a b
      .simp at a
      .simp at a b;exact b a.1.symm
     .simp at a b;exact b a.1.symm
    .simp at a g;exact g a.1.symm
   .simp at a f;exact f a.1.symm
  .simp at a d;exact d a.1.symm
 .simp at a c;exact c a.1.symm
def fA(e:Ex):Bool:=bif fj e then true else bif ej e then bL e.name else false
def Zt(e:Ex)(a:rP e):al 205 [oz e] [] [vB (fA e)] []:=by
 apply ahh;refine⟨_,Vw e,?_⟩;cases h:fj e
 .cases h2:ej e
  .exact .inl ⟨nj e 380 (by simp[h]),.inl ⟨nj e 381 (by simp[h2]),ai (by rw[fA,h,h2];rfl) rfl⟩⟩
  .exact .inl ⟨nj e 380 (by simp[h]),.inr ⟨by rw[jX,h,h2];rfl,_,zT _ ((ky e).1 a).2.1,ai (by rw[fA,h,h2];rfl) rfl⟩⟩
 .exact .inr ⟨by rw[jX,h];rfl,ai (by rw[fA,h];rfl) rfl⟩
def gn:Ex->Bool
 |.mk k o n m [x,y]=>bif k==8 then(bif dV (.mk k o n m [x,y])then(bif fA y then gn x else false)else false)else false
 |e=>bif e.kind==8 then false else fA e
def Lg(h:dV (.mk 8 o n m l)=false):gn (.mk 8 o n m l)=false:=by
 match l with
 |[]=>rfl
 |[_]=>rfl
 |[x,y]=>simp only[gn,h];rfl
 |_::_::_::_=>rfl
def yF(h:(k==8)=false):gn (.mk k o n m l)=fA (.mk k o n m l):=by
 match l with
 |[]=>simp only[gn,Ex.kind,h];rfl
 |[_]=>simp only[gn,Ex.kind,h];rfl
 |[x,y]=>
  simp only[gn,h,af];symm
  unfold fA;rw[show fj (.mk k o n m [x,y])=false from ?_,show ej (.mk k o n m [x,y])=false from ?_];rfl
  rotate_left
  .unfold fj;cases(bif(bif(Ex.kind (.mk k o n m [x,y])==7)then(Ex.op (.mk k o n m [x,y])==[])else false)then(Ex.name (.mk k o n m [x,y])==[])else false)<;>rfl
  .unfold ej;cases(bif(Ex.kind (.mk k o n m [x,y])==5)then(bif(Ex.op (.mk k o n m [x,y])==[])then(Ex.num (.mk k o n m [x,y])==0)else false)else false)<;>rfl
 |_::_::_::_=>simp only[gn,Ex.kind,h];rfl
def abW:∀(d:Nat)(e:Ex),bK e<=d->rP e->Fm e.kind e.op e.name e.num (br e.kids) [vB (gn e)] []
 |0,e,h,_=>by rw[cI]at h;omega
 |d+1,e,h,c=>by
  apply Zn;refine ad (fun b=>⟨_,Vw e,?_⟩) fun b=>⟨_,Zt e c,ai ?_ rfl⟩
  .cases h2:dV e
   .obtain⟨k,o,n,m,l⟩:=e
    obtain rfl:k=8:=eq_of_beq b;exact .inl ⟨nj _ 331 (by simp[h2];rfl),ai (by rw[Lg h2]) rfl⟩
   .obtain⟨k,x,y,rfl,-⟩:=mK h2
    obtain rfl:k=8:=eq_of_beq b;have g:=dU c.2.2.2 x (by simp)
    have i:=dU c.2.2.2 y (by simp)
    refine .inr ⟨_,_,_,_,_,_,_,_,_,_,rfl,_,Zt y i,ad (fun a=>ai ?_ rfl) fun a=>?_⟩
    .have a:fA y=false:=by simpa using a
     simp only[gn,h2,a];rfl
    .have a:fA y=true:=by simpa using a
     have f:gn (.mk 8 [] [] 0 [x,y])=gn x:=by simp only[gn,h2,a];rfl
     rw[f];exact abW d x (by simp only[bK,ct]at h;omega) g
  .obtain⟨k,o,n,m,l⟩:=e
   rw[yF (show(k==8)=false from b)]
def SG(e:Ex)(a:rP e):al 145 [oz e] [] [vB (gn e)] []:=by apply ag5;exact abW _ e (ar _) a
def jY(e:Ex):Bool:=bif ej e then bL e.name else bif iE e then(bif bL e.name then fA (kM e 0)else false)else false
def ahO(e:Ex)(c:rP e):al 331 [oz e] [] [vB (jY e)] []:=by
 apply aht;refine⟨_,Vw e,?_⟩;have b:=((ky e).1 c).2.1;cases h:ej e
 .cases h2:iE e
  .exact .inl ⟨nj e 381 (by simp[h]),.inl ⟨nj e 383 (by simp[h2]),ai (by rw[jY,h,h2];rfl) rfl⟩⟩
  .have d:=nj e 381 (by simp[h])
   obtain⟨n,x,rfl⟩:=wQ h2;have f:=dU c.2.2.2 x (by simp)
   exact .inl ⟨d,.inr ⟨_,_,_,_,_,rfl,_,zT _ b,ad (fun a=>⟨_,Zt x f,ai (by rw[jY,h,h2];simp only[aj,af,a];rfl) rfl⟩) fun a=>ai (by rw[jY,h,h2];simp only[aj,af,a]) rfl⟩⟩
 .obtain⟨n,rfl⟩:=o4 h
  exact .inr ⟨rfl,_,zT _ b,fi⟩
def cu:Ex->Bool
 |.mk k o n m [x,y]=>bif(bif k==1 then true else k==2)then(bif dV (.mk k o n m [x,y])then(bif cu x then cu y else false)else false)else
  bif k==4 then(bif iF (.mk k o n m [x,y])then(bif fW o ops then(bif jY x then gn y else false)else false)else false)else false
 |.mk k o n m [x]=>bif k==3 then(bif fQ (.mk k o n m [x])then cu x else false)else false
 |_=>false
def abX:∀(d:Nat)(e:Ex),bK e<=d->rP e->al 275 [oz e] [] [vB (cu e)] []
 |0,e,h,_=>by rw[cI]at h;omega
 |d+1,e,h,u=>by
  have i:∀x∈e.kids,al 275 [oz x] [] [vB (cu x)] []:=fun x v=>abX d x (by have:=ei x v;rw[cI]at h;omega) (dU ((ky e).1 u).2.2.2 x v)
  have z:=(ky e).1 u;obtain⟨k,o,n,m,l⟩:=e;apply ahr;refine⟨_,Vw _,ad (fun f=>?_) fun f=>ad (fun j=>?_) fun j=>ad (fun p=>?_) fun p=>ad (fun q=>?_) fun q=>ad (fun s=>?_) fun s=>?_⟩
  .refine ai ?_ rfl
   have g:jX (.mk k o n m l)=none:=by simpa using f
   have D:dV (.mk k o n m l)=false:=by
    cases a:dV (.mk k o n m l)
    .rfl
    .obtain⟨w,x,y,b,r⟩:=mK a
     rw[b]at g;rcases r with rfl|rfl|rfl<;>exact absurd g (by rw[show jX _=some _ from rfl];simp)
   have E:iF (.mk k o n m l)=false:=by
    cases a:iF (.mk k o n m l)
    .rfl
    .obtain⟨o',x,y,b⟩:=sO a
     rw[b]at g;exact absurd g (by rw[show jX _=some _ from rfl];simp)
   have G:fQ (.mk k o n m l)=false:=by
    cases a:fQ (.mk k o n m l)
    .rfl
    .obtain⟨x,b⟩:=wR a
     rw[b]at g;exact absurd g (by rw[show jX _=some _ from rfl];simp)
   match l with
   |[]=>rfl
   |[x]=>simp only[cu,G];cases k==3<;>rfl
   |[x,y]=>simp only[cu,D,E];cases(bif k==1 then true else k==2)<;>cases k==4<;>rfl
   |_::_::_::_=>rfl
  .obtain rfl:k=1:=eq_of_beq j
   have a:dV (.mk 1 o n m l)=true:=by
    cases a:dV (.mk 1 o n m l)
    .rw[show jX (.mk 1 o n m l)=bif dV (.mk 1 o n m l)then some _ else none from rfl,a]at f;simp at f
    .rfl
   obtain⟨w,x,y,b,-⟩:=mK a;obtain⟨rfl,rfl,rfl,rfl,rfl⟩:=Ex.mk.inj b;exact⟨_,_,_,_,_,_,_,_,_,_,rfl,_,i x (by simp[Ex.kids]),ad (fun c=>⟨_,i y (by simp[Ex.kids]),ai (by simp only[cu,a,c];rfl) rfl⟩) fun c=>ai (by simp only[cu,a,c];rfl) rfl⟩
  .obtain rfl:k=2:=eq_of_beq p
   have a:dV (.mk 2 o n m l)=true:=by
    cases a:dV (.mk 2 o n m l)
    .rw[show jX (.mk 2 o n m l)=bif dV (.mk 2 o n m l)then some _ else none from rfl,a]at f;simp at f
    .rfl
   obtain⟨w,x,y,b,-⟩:=mK a;obtain⟨rfl,rfl,rfl,rfl,rfl⟩:=Ex.mk.inj b;exact⟨_,_,_,_,_,_,_,_,_,_,rfl,_,i x (by simp[Ex.kids]),ad (fun c=>⟨_,i y (by simp[Ex.kids]),ai (by simp only[cu,a,c];rfl) rfl⟩) fun c=>ai (by simp only[cu,a,c];rfl) rfl⟩
  .obtain rfl:k=3:=eq_of_beq q
   have a:fQ (.mk 3 o n m l)=true:=by
    cases a:fQ (.mk 3 o n m l)
    .rw[show jX (.mk 3 o n m l)=bif fQ (.mk 3 o n m l)then some _ else none from rfl,a]at f;simp at f
    .rfl
   obtain⟨x,b⟩:=wR a;obtain⟨-,rfl,rfl,rfl,rfl⟩:=Ex.mk.inj b;exact⟨_,_,_,_,_,rfl,_,i x (by simp[Ex.kids]),ai (by simp only[cu,a];rfl) rfl⟩
  .obtain rfl:k=4:=eq_of_beq s
   have a:iF (.mk 4 o n m l)=true:=by
    cases a:iF (.mk 4 o n m l)
    .rw[show jX (.mk 4 o n m l)=bif iF (.mk 4 o n m l)then some _ else none from rfl,a]at f;simp at f
    .rfl
   obtain⟨o',x,y,b⟩:=sO a;obtain⟨-,rfl,rfl,rfl,rfl⟩:=Ex.mk.inj b;exact⟨_,_,_,_,_,_,_,_,_,_,rfl,_,Vq o ops (by decide),ad (fun c=>⟨_,ahO x (dU z.2.2.2 x (by simp[Ex.kids])),ad (fun t=>⟨_,SG y (dU z.2.2.2 y (by simp[Ex.kids])),ai (by simp only[cu,a,c,t];rfl) rfl⟩) fun t=>ai (by simp only[cu,a,c,t];rfl) rfl⟩) fun c=>ai (by simp only[cu,a,c];rfl) rfl⟩
  .simp only[Ex.kind]at j p q s
   refine ai ?_ rfl;match l with
   |[]=>rfl
   |[x]=>simp only[cu,q];rfl
   |[x,y]=>simp only[cu,j,p,s];rfl
   |_::_::_::_=>rfl
def qh(l:List α):(!decide (idx (fun x => !p x) l>=0))=l.all p:=by
 rw[mB];induction l with
 |nil=>rfl
 |cons x l a=>simp only[il,bG,Bool.not_or,Bool.not_not,a]
abbrev abY(d:cT):AV:=.agg [S d.name,N d.ex.kind,S d.ex.op,S d.ex.name,U d.ex.num,L 5 (br d.ex.kids)]
abbrev Lh(p:cL):AV:=.agg [S p.name,L 4 (p.aT.map cK.row)]
def ahP(l:List cT)(d:l.length<=2^40)(h:∀x∈l,al 143 [abY x] [] [vB (p x)] []):al 142 [vL 6 (l.map cT.row),.fn (.func 143) [] []] [] [vB (l.all p)] []:=by
 apply RW;refine⟨_,QK _ ⟨_,QX _ ?_,fi⟩,ai (by rw[qh]) rfl⟩
 exact eQ (Hd:=fun i=>pN _ _ i) (p:=fun x => !p x) d fun i r e b c=>Kz _ _ _ (eT (l:=l) (by simp[aI]) (fun x a=>⟨x.name,x.ex.kind,x.ex.op,x.ex.name,x.ex.num,br x.ex.kids,by omega,(aQ a).trans (by rw[cT.row,Ex.cp]),_,by apply R5;exact⟨_,h x (aM a),fi⟩,b x a⟩) c)
def ahQ(l:List cL)(d:l.length<=2^40)(h:∀x∈l,al 147 [Lh x] [] [vB (p x)] []):al 146 [vL 2 (l.map cL.row),.fn (.func 147) [] []] [] [vB (l.all p)] []:=by
 apply RY;refine⟨_,QM _ ⟨_,QY _ ?_,fi⟩,ai (by rw[qh]) rfl⟩
 exact eQ (Hd:=fun i=>pO _ _ i) (p:=fun x => !p x) d fun i r e b c=>KA _ _ _ (eT (l:=l) (by simp[aI]) (fun x a=>⟨x.name,x.aT.map cK.row,by omega,aQ a,_,by apply R7;exact⟨_,h x (aM a),fi⟩,b x a⟩) c)
def ahR(l:List cK)(d:l.length<=2^40)(h:∀x∈l,al 149 [OM x] [] [vB (p x)] []):al 148 [vL 4 (l.map cK.row),.fn (.func 149) [] []] [] [vB (l.all p)] []:=by
 apply R1;refine⟨_,QO _ ⟨_,QZ _ ?_,fi⟩,ai (by rw[qh]) rfl⟩
 exact eQ (Hd:=fun i=>pP _ _ i) (p:=fun x => !p x) d fun i r e b c=>KB _ _ _ (eT (l:=l) (by simp[aI]) (fun x a=>⟨x.use,x.act.kind,x.act.data,x.bj.map gu.row,by omega,aQ a,_,by apply R9;exact⟨_,h x (aM a),fi⟩,b x a⟩) c)
def abZ(l:List By)(d:l.length<=2^40)(h:∀x∈l,al 144 [vS x] [] [vB (p x)] []):al 150 [vL 1 (aI l),.fn (.func 144) [] []] [] [vB (l.all p)] []:=by
 apply R3;refine⟨_,QQ _ ⟨_,Q2 _ ?_,fi⟩,ai (by rw[qh]) rfl⟩
 exact eQ (Hd:=fun i=>pQ _ _ i) (p:=fun x => !p x) d fun i r e b c=>KC _ _ _ (eT (l:=l) (by simp[aI]) (fun x a=>⟨x,by omega,aQ a,_,by apply Se;exact⟨_,h x (aM a),fi⟩,b x a⟩) c)
def ahS(l:List gu)(d:l.length<=2^40)(h:∀x∈l,al 211 [qI x] [] [vB (p x)] []):al 210 [vL 3 (l.map gu.row),.fn (.func 211) [] []] [] [vB (l.all p)] []:=by
 apply Sb;refine⟨_,Q1 _ ⟨_,Rh _ ?_,fi⟩,ai (by rw[qh]) rfl⟩
 exact eQ (Hd:=fun i=>pU _ _ i) (p:=fun x => !p x) d fun i r e b c=>KK _ _ _ (eT (l:=l) (by simp[aI]) (fun x a=>⟨x.call,aI x.params,x.cond.map Ex.row,by omega,aQ a,_,by apply Si;exact⟨_,h x (aM a),fi⟩,b x a⟩) c)
def ahT(l:List Ex)(d:l.length<=2^40)(h:∀x∈l,al 274 [oz x] [] [vB (p x)] []):al 273 [vL 5 (l.map Ex.row),.fn (.func 274) [] []] [] [vB (l.all p)] []:=by
 apply Sk;refine⟨_,Rj _ ⟨_,Ro _ ?_,fi⟩,ai (by rw[qh]) rfl⟩
 exact eQ (Hd:=fun i=>pZ _ _ i) (p:=fun x => !p x) d fun i r e b c=>KN _ _ _ (eT (l:=l) (by simp[aI]) (fun x a=>⟨x.kind,x.op,x.name,x.num,br x.kids,by omega,(aQ a).trans (by rw[Ex.cp]),_,by apply Sm;exact⟨_,h x (aM a),fi⟩,b x a⟩) c)
structure Af (r:gu):Prop where
 call:r.call.length<=2^40
 pl:r.params.length<=2^39
 params:∀p∈r.params,p.length<=2^40
 cl:r.cond.length<=2^40
 cond:∀e∈r.cond,rP e/\bK e<=2^40
structure xD (p:cK):Prop where
 use:p.use.length<=2^40
 rl:p.bj.length<=2^20
 bj:∀r∈p.bj,Af r
structure Xf (p:cL):Prop where
 name:p.name.length<=2^40
 pl:p.aT.length<=2^40
 aT:∀x∈p.aT,xD x
structure oe (u:fH):Prop where
 dl:u.aF.length<=2^40
 aF:∀d∈u.aF,d.name.length<=2^40/\rP d.ex
 pl:u.aA.length<=2^40
 aA:∀p∈u.aA,Xf p
 ml:u.main.length<=2^40
 main:∀s∈u.main,s.length<=2^40
def Ag(d:cT):Bool:=bif bL d.name then gn d.ex else false
def xE(e:Ex):Bool:=bif cu e then decide ((bK e:Int)<=30)else false
def lQ(r:gu):Bool:=bif bL r.call then(bif(bif !(r.params.all bL)then true else decide ((r.cond.length:Int)>1))then false else r.cond.all xE)else false
def kR(p:cK):Bool:=bif !(p.use==[])then(bif bL p.use then(bif((true&&(p.act.kind==0))&&(p.act.data==0))then((p.bj.length:Int)==0)else false)else false)else
 (bif(cd p.act).2 then p.bj.all lQ else false)
def wS(p:cL):Bool:=bif bL p.name then p.aT.all kR else false
def ji(u:fH):Bool:=bif u.aF.all Ag then(bif(bif u.aA.all wS then decide ((u.main.length:Int)>0)else false)then(bif u.main.all bL then(cd u.bO).2 else false)else false)else false
def ahU(d:cT)(a:d.name.length<=2^40)(b:rP d.ex):al 143 [abY d] [] [vB (Ag d)] []:=by
 apply ag2;exact⟨_,zT _ a,ad (fun h=>⟨_,SG _ b,ai (by rw[Ag,h];rfl) rfl⟩) fun h=>ai (by rw[Ag,h];rfl) rfl⟩
def ahV(e:Ex)(a:rP e)(b:bK e<=2^40):al 274 [oz e] [] [vB (xE e)] []:=by
 apply ahp;exact⟨_,abX _ e (ar _) a,ad (fun h=>⟨_,Su _ e (ar _) (by omega) (vr e a),ai (by rw[xE,h];rfl) rfl⟩) fun h=>ai (by rw[xE,h];rfl) rfl⟩
def ahW(r:gu)(h:Af r):al 211 [qI r] [] [vB (lQ r)] []:=by
 have d:(r.cond.map Ex.row).length=r.cond.length:=ao ..;apply ahj;rw[d];exact⟨_,zT _ h.call,ad (fun a=>bt rfl (ai (by rw[lQ,show bL r.call=false by simpa using a];rfl) rfl)) fun a=>⟨_,abZ _ (dR h.pl (by omega)) fun p f=>zT p (h.params p f),ad
  (fun b=>ai (by rw[lQ,show bL r.call=true by simpa using a,b];rfl) rfl) fun b=>⟨_,ahT _ h.cl fun e c=>ahV e (h.cond e c).1 (h.cond e c).2,ai (by rw[lQ,show bL r.call=true by simpa using a,b];rfl) rfl⟩⟩⟩
def ahX(p:cK)(h:xD p):al 149 [OM p] [] [vB (kR p)] []:=by
 have c:(p.bj.map gu.row).length=p.bj.length:=ao ..;apply ag9;rw[c];exact ad (fun b=>⟨_,zT _ h.use,ad (fun a=>ai (by rw[kR,b,a];rfl) rfl) fun a=>ai (by rw[kR,b,a];rfl) rfl⟩) fun b=>⟨_,abU p.act,ad (fun a=>⟨_,ahS _ (dR h.rl (by omega)) fun r d=>ahW r (h.bj r d),ai (by rw[kR,b,a];rfl) rfl⟩) fun a=>ai (by rw[kR,b,a];rfl) rfl⟩
def ahY(p:cL)(h:Xf p):al 147 [Lh p] [] [vB (wS p)] []:=by
 apply ag7;exact⟨_,zT _ h.name,ad (fun a=>⟨_,ahR _ h.pl fun x b=>ahX x (h.aT x b),ai (by rw[wS,a];rfl) rfl⟩) fun a=>ai (by rw[wS,a];rfl) rfl⟩
def ahZ(u:fH)(h:oe u):al 102 [qg u] [] [vB (ji u)] []:=by
 have f:(aI u.main).length=u.main.length:=ao ..;apply ag0;rw[f];exact⟨_,ahP _ h.dl fun d e=>ahU d (h.aF d e).1 (h.aF d e).2,ad (fun a=>⟨_,ahQ _ h.pl fun p g=>ahY p (h.aA p g),ad (fun b=>⟨_,abZ _ h.ml fun s i=>zT s (h.main s i),ad (fun c=>⟨_,abU u.bO,ai (by rw[ji,a,b,c];rfl) rfl⟩) fun c=>ai (by rw[ji,a,b,c];rfl) rfl⟩) fun b=>ai (by rw[ji,a,b];rfl) rfl⟩)
  fun a=>aU rfl (ai (by rw[ji,a];rfl) rfl)⟩
def Mx(l:List Ex)(o:l.length<=2^40)(m:∀x∈l,al 218 [vL 5 (br x.kids)] [] [vL 5 (br x.kids)] []):al 218 [vL 5 (br l)] [] [vL 5 (br l)] []:=by
 have key:∀(t:List Ex)(i:Nat)(a:List Ex),l.drop i=t->a=l.take i->Fo (br a) (br l) l.length i [.own 0 0 5 (br l)] []:=by
  intro t;induction t with
  |nil=>
   intro i a b c;have:=drop_nil b;rw[dH this]at c;rw[c];exact Sf _ _ _ _ (aP (l:=l) rfl b fi)
  |cons x t k=>
   intro i a b c;obtain⟨d,g,n⟩:=drop_cons b;have j:=aM d;have e:br a++([[N x.kind,S x.op,S x.name,U x.num,L 5 (br x.kids)]]:Rw)=br (a++[x]):=by
    rw[dq a,dq (a++[x]),bM,<-Ex.cp];rfl
   have p:a.length<=i:=by rw[c];simp;omega
   have f:a++[x]=l.take (i+1):=by rw[c,eO,d];rfl
   refine Sf _ _ _ _ (aK (l:=l) rfl b ⟨x.kind,x.op,x.name,x.num,br x.kids,by omega,?_,br x.kids,?_,?_,aC,?_⟩)
   .rw[dq,<-Ex.cp];exact aQ d
   .exact m x j
   .rw[e,dq];simp;omega
   .rw[e]
    exact k (i+1) (a++[x]) g f
 refine Go.Ac.al.soft (r:=[.own 0 0 5 _]) ?_ rfl;apply ahk;rw[show(br l).length=l.length by rw[dq,ao]]
 exact key l 0 [] rfl rfl
def ab0:∀(d:Nat)(l:List Ex),ct l<=d->ni l->l.length<=2^40->al 218 [vL 5 (br l)] [] [vL 5 (br l)] []
 |0,l,h,_,b=>Mx l b fun x a=>by have:=ei x a;rw[cI]at this;omega
 |d+1,l,h,e,b=>Mx l b fun x a=>by
  have c:=(z1 x).1 (sN e x a);have:=ei x a;rw[cI]at this;exact ab0 d x.kids (by omega) c.2 c.1
def Fw(a b:Rw)(c d:Int)(e:List (PV×AV)):St:=⟨aO 52 [(5,.mp 0),(6,.own 0 0 1 a),(13,vL 6 b),(14,vN c),(15,vN d)],[some 0],[.map 266 e]⟩
def ab1:bu:={an:=[(5,2,ah)],cut:=[(4,{bl:=[5,6,13,14,15],cW:=[(6,1)],owns:=[6]})]}
def ah0(H:Lp f103 0 (Fw [] a (a.length:Int) 0 []) 0 r h):
  al 103 [vL 6 a] [] r h:=.of func103 ab1 H
def SH(c d:Rw)(e a:Int)(b:List (PV×AV))(H:aw (decide (a<e)) (eh d a fun f j k l m n=>((cE b (S f)=none/\Kr 152 [.mp 0,.agg [N j,S k,S l,U m,L 5 n]] [.map 266 b] fun g i=>aw (i !=0) (Fi r h [vL 1 [],vN a,vN i] [])
 ((c++([[U g]]:Rw)).length*8<=2^47/\au (a+1)/\Lp f103 0 (Fw (c++([[U g]]:Rw)) d e (a+1) (cw b (S f) (.agg [U g,N i]))) 0 r h))\/(∃o p,cE b (S f)=some (.agg [U o,N p])/\Kr 152 [.mp 0,.agg [N j,S k,S l,U m,L 5 n]] [.map 266 b] fun q s=>Fi r h [vL 1 [],vN a,vN 8] [])))
 (Fi r h [.own 0 0 1 c,vN (-1),vN 0] [])):
  Lp f103 0 (Fw c d e a b) 0 r h:=.of ab1 H
def ah1:bu:={an:=[(1,1,ah)]}
def ah2(a:List (PV×AV))(H:cc 145 [.agg [N b,S c,S d,U e,L 5 f]] [] fun g=>aw (!g) (Fi r h [.agg [U 0,N 1]] [.map 266 a])
 (Kr 214 [.mp 0,.agg [N b,S c,S d,U e,L 5 f]] [.map 266 a] fun i j=>Fi r h [.agg [U i,N j]] [.map 266 a])):
  al 152 [.mp 0,.agg [N b,S c,S d,U e,L 5 f]] [.map 266 a] r h:=.of func152 ah1 H
def ah3:bu:={an:=[(5,4,ah),(8,4,ah)]}
def ah4(a:List (PV×AV))(H:aw (b==7) (Fi r h [.agg [U e,N 0]] [.map 266 a])
 (aw (b==8) (bq d 0 fun n o p q s=>Kr 214 [.mp 0,.agg [N n,S o,S p,U q,L 5 s]] [.map 266 a] fun i j=>aw (j !=0) (Fi r h [.agg [U i,N j]] [.map 266 a])
 (bq d 1 fun t u v w x=>Kr 214 [.mp 0,.agg [N t,S u,S v,U w,L 5 x]] [.map 266 a] fun k l=>aw (l !=0) (Fi r h [.agg [U k,N l]] [.map 266 a])
 (Fi r h [.agg [U (cH .or .u64 i k),N 0]] [.map 266 a])))
 (((cE a (S c)=none/\Fi r h [.agg [U 0,N 7]] [.map 266 a])\/(∃f g,cE a (S c)=some (.agg [U f,N g])/\Fi r h [.agg [U f,N g]] [.map 266 a]))))):
  al 214 [.mp 0,.agg [N b,S m,S c,U e,L 5 d]] [.map 266 a] r h:=.of func214 ah3 H
def ah5:bu:={an:=[(1,1,fh),(1,2,fg),(1,3,fh),(1,5,iC)]}
def ah6(H:∃g,al 334 [vL 6 a] [] [.mp 0] [.map 266 g]/\Kr 152 [.mp 0,.agg [N b,S c,S d,U e,L 5 f]] [.map 266 g] fun i j=>Fi r h [vU i,vN j] []):
  al 281 [vL 6 a,.agg [N b,S c,S d,U e,L 5 f]] [] r h:=.of func281 ah5 H
def Ah(a:Rw)(b c:Int)(d:List (PV×AV)):St:=⟨aO 33 [(3,.mp 0),(9,vL 6 a),(10,vN b),(11,vN c)],[],[.map 266 d]⟩
def ab2:bu:={an:=[(4,1,ah),(7,2,fh),(7,5,fh),(7,6,fg),(7,7,fg)],cut:=[(3,{bl:=[3,9,10,11]})]}
def ah7(H:Lp f334 0 (Ah a (a.length:Int) 0 []) 0 r h):
  al 334 [vL 6 a] [] r h:=.of func334 ab2 H
def SI(c:Rw)(d a:Int)(b:List (PV×AV))(H:aw (decide (a<d)) (eh c a fun e i j k l m=>((cE b (S e)=none/\Kr 152 [.mp 0,.agg [N i,S j,S k,U l,L 5 m]] [.map 266 b] fun n o=>au (a+1)/\Lp f334 0 (Ah c d (a+1) (cw b (S e) (.agg [U n,N o]))) 0 r h)\/(∃f g,cE b (S e)=some (.agg [U f,N g])/\au (a+1)/\Lp f334 0 (Ah c d (a+1) b) 0 r h)))
 (Fi r h [.mp 0] [.map 266 b])):
  Lp f334 0 (Ah c d a b) 0 r h:=.of ab2 H
end Go.Ac.S4
end
