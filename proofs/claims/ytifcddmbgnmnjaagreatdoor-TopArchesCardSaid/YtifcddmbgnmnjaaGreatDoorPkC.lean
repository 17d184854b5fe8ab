/-
Part 3 of the proof: lemmas; no conditions of their own beyond those that they state.
-/
import Derived.Test.YtifcddmbgnmnjaaGreatDoorPkB
import Derived.Sort.AssemblyPlain
import Derived.Shelf.Sort.So_math_bits_LenIn
import Derived.Sort.EveryDepth
set_option linter.all false
set_option autoImplicit true
section
namespace Go.Ac.S4
open Go Go.Proofs Go.Proofs.Tryz Go.Ac
set_option maxRecDepth 100000
def uE(a:Rw)(b c:Int)(d:By):St:=⟨aM 19 [(0,vL 2 a),(1,.fn (.func 96) [] [.aA 0 0]),(7,vN b),(8,vN c)],[],[.cells [vS d]]⟩
def OY:bq:={an:=[(4,4,ah)],cut:=[(2,{bl:=[0,1,7,8]})]}
def WG(a:Rw)(b:By){r h}(H:Lp f95 0 (uE a (a.length:Int) 0 b) 1 r h):
  ak 95 [vL 2 a,.fn (.func 96) [] [.aA 0 0]] [.cells [vS b]] r h:=.of func95 OY H
def OZ(c:Rw)(d a:Int)(b:By){r h}(H:ay (decide (a<d)) (OK c a fun f g=>∃e,ak 96 [.agg [S f,S g],.aA 0 0] [.cells [vS b]] [vB e] [.cells [vS b]]/\ay e (Fi r h [vN a] [.cells [vS b]])
 (bh .i64 (a+1)/\Lp f95 0 (uE c d (a+1) b) 1 r h))
 (Fi r h [vN (-1)] [.cells [vS b]])):
  Lp f95 0 (uE c d a b) 1 r h:=.of OY H
def acs:bq:={an:=[(0,1,aQ),(1,4,ah)],mod:=[(1,5,[(0,[])])]}
def acu(a:Rw){r h}(H:∃b,ak 233 [vU (IntKind.wrap .u64 (a.length:Int))] [] [vN b] []/\∃c,ak 232 [.bo 0,vN 0,vN (a.length:Int),vN b] [.bc 1 a] [] [.bc 1 c]/\Fi r h [] [.bc 1 c]):
  ak 164 [.bo 0] [.bc 1 a] r h:=.of func164 acs H
def pe(a:Rw)(b c d:Int):St:=⟨aM 19 [(0,vL 2 a),(1,.fn (.func 176) [] [.aA 0 0]),(7,vN b),(8,vN c)],[],[.cells [vN d]]⟩
def Gw:bq:={an:=[(4,4,ah)],cut:=[(2,{bl:=[0,1,7,8]})]}
def O0(a:Rw)(b:Int){r h}(H:Lp f175 0 (pe a (a.length:Int) 0 b) 1 r h):
  ak 175 [vL 2 a,.fn (.func 176) [] [.aA 0 0]] [.cells [vN b]] r h:=.of func175 Gw H
def Jm(c:Rw)(d a b:Int){r h}(H:ay (decide (a<d)) (YK c a fun f g=>∃e,ak 176 [.agg [N f,S g],.aA 0 0] [.cells [vN b]] [vB e] [.cells [vN b]]/\ay e (Fi r h [vN a] [.cells [vN b]])
 (bh .i64 (a+1)/\Lp f175 0 (pe c d (a+1) b) 1 r h))
 (Fi r h [vN (-1)] [.cells [vN b]])):
  Lp f175 0 (pe c d a b) 1 r h:=.of Gw H
def acv:bq:={an:=[(1,2,ah)]}
def acw(a:Rw)(b:Int){r h}(H:∃c,ak 255 [vL 1 a,vN b] [] [vN c] []/\Fi r h [vB (decide (c>=0))] []):
  ak 182 [vL 1 a,vN b] [] r h:=.of func182 acv H
def O1:bq:={}
def O2(a:Rw){r h}(H:∃b,ak 266 [vL 6 a,.fn (.func 201) [] [.aA 0 0]] [.cells [.fn (.func 143) [] []]] [vN b] [.cells [.fn (.func 143) [] []]]/\Fi r h [vB (decide (b>=0))] [.cells [.fn (.func 143) [] []]]):
  ak 200 [vL 6 a,.fn (.func 201) [] [.aA 0 0]] [.cells [.fn (.func 143) [] []]] r h:=.of func200 O1 H
def acx:bq:={an:=[(1,2,ah)]}
def acy(a:Rw)(b:By){r h}(H:∃c,ak 267 [vL 1 a,vS b] [] [vN c] []/\Fi r h [vB (decide (c>=0))] []):
  ak 203 [vL 1 a,vS b] [] r h:=.of func203 acx H
def O3:bq:={}
def O4(a:Rw){r h}(H:∃b,ak 269 [vL 2 a,.fn (.func 207) [] [.aA 0 0]] [.cells [.fn (.func 147) [] []]] [vN b] [.cells [.fn (.func 147) [] []]]/\Fi r h [vB (decide (b>=0))] [.cells [.fn (.func 147) [] []]]):
  ak 206 [vL 2 a,.fn (.func 207) [] [.aA 0 0]] [.cells [.fn (.func 147) [] []]] r h:=.of func206 O3 H
def O5:bq:={}
def O6(a:Rw){r h}(H:∃b,ak 270 [vL 4 a,.fn (.func 209) [] [.aA 0 0]] [.cells [.fn (.func 149) [] []]] [vN b] [.cells [.fn (.func 149) [] []]]/\Fi r h [vB (decide (b>=0))] [.cells [.fn (.func 149) [] []]]):
  ak 208 [vL 4 a,.fn (.func 209) [] [.aA 0 0]] [.cells [.fn (.func 149) [] []]] r h:=.of func208 O5 H
def O7:bq:={}
def O8(a:Rw){r h}(H:∃b,ak 276 [vL 1 a,.fn (.func 213) [] [.aA 0 0]] [.cells [.fn (.func 144) [] []]] [vN b] [.cells [.fn (.func 144) [] []]]/\Fi r h [vB (decide (b>=0))] [.cells [.fn (.func 144) [] []]]):
  ak 212 [vL 1 a,.fn (.func 213) [] [.aA 0 0]] [.cells [.fn (.func 144) [] []]] r h:=.of func212 O7 H
def pf(a:Rw)(b c:Int)(d:By):St:=⟨aM 19 [(0,vL 3 a),(1,.fn (.func 221) [] [.aA 0 0]),(7,vN b),(8,vN c)],[],[.cells [vS d]]⟩
def Gx:bq:={an:=[(4,4,ah)],cut:=[(2,{bl:=[0,1,7,8]})]}
def O9(a:Rw)(b:By){r h}(H:Lp f220 0 (pf a (a.length:Int) 0 b) 1 r h):
  ak 220 [vL 3 a,.fn (.func 221) [] [.aA 0 0]] [.cells [vS b]] r h:=.of func220 Gx H
def Jn(c:Rw)(d a:Int)(b:By){r h}(H:ay (decide (a<d)) (s7 c a fun f g i=>∃e,ak 221 [.agg [S f,W g,L 1 i],.aA 0 0] [.cells [vS b]] [vB e] [.cells [vS b]]/\ay e (Fi r h [vN a] [.cells [vS b]])
 (bh .i64 (a+1)/\Lp f220 0 (pf c d (a+1) b) 1 r h))
 (Fi r h [vN (-1)] [.cells [vS b]])):
  Lp f220 0 (pf c d a b) 1 r h:=.of Gx H
def Pb:bq:={}
def Pd(a:Rw){r h}(H:∃b,ak 295 [vL 1 a,.fn (.func 230) [] []] [] [vN b] []/\Fi r h [vB (decide (b>=0))] []):
  ak 229 [vL 1 a,.fn (.func 230) [] []] [] r h:=.of func229 Pb H
def mH(a b c:Int)(d e:Bool)(f:Rw):St:=⟨aM 134 [(0,.bo 0),(1,vN a),(2,vN b),(3,vN c),(8,vB d),(9,vB e)],[],[.bc 1 f]⟩
def r4(a b c:Int)(d e:Bool)(f:Int)(g:Rw):St:=⟨aM 134 [(0,.bo 0),(1,vN a),(2,vN b),(3,vN c),(8,vB d),(9,vB e),(10,vN f)],[],[.bc 1 g]⟩
def xS(a b c:Int)(d e:Bool)(f g i:Int)(j:Rw):St:=⟨aM 134 [(0,.bo 0),(1,vN a),(2,vN b),(3,vN c),(8,vB d),(9,vB e),(10,vN f),(11,vN g),(12,vN i)],[],[.bc 1 j]⟩
def xT(a b c:Int)(d e:Bool)(f g:Int)(i:Rw):St:=⟨aM 134 [(0,.bo 0),(1,vN a),(2,vN b),(3,vN c),(8,vB d),(9,vB e),(10,vN f),(11,vN g)],[],[.bc 1 i]⟩
def Pe:bq:={an:=[(15,2,aa),(15,5,aa),(15,6,aa),(17,6,aQ),(17,10,aQ),(17,12,ah)],mod:=[(4,3,[(0,[])]),(6,3,[(0,[])]),(8,3,[(0,[])]),(12,3,[(0,[])]),(16,3,[(0,[])]),(18,4,[(0,[])]),(20,4,[(0,[])]),(26,4,[(0,[])]),(29,5,[(0,[])])],cut:=[(2,{bl:=[0,1,2,3,8,9],iu:=[(0,1)]})],join:=[(10,{bl:=[0,1,2,3,8,9,10],iu:=[(0,1)]}),(15,{bl:=[0,1,2,3,8,9,10,11,12],iu:=[(0,1)]}),(17,{bl:=[0,1,2,3,8,9,10,11],iu:=[(0,1)]})]}
def WH(a:Rw)(b c d:Int){r h}(H:Lp f232 0 (mH b c d true true a) 1 r h):
  ak 232 [.bo 0,vN b,vN c,vN d] [.bc 1 a] r h:=.of func232 Pe H
def Pf(a b c:Int)(e f:Bool)(d:Rw){r h}(H:bh .i64 (b-a)/\ay (decide ((b-a)<=12)) (∃g,ak 296 [.bo 0,vN a,vN b] [.bc 1 d] [] [.bc 1 g]/\Fi r h [] [.bc 1 g])
 (ay (c==0) (∃i,ak 297 [.bo 0,vN a,vN b] [.bc 1 d] [] [.bc 1 i]/\Fi r h [] [.bc 1 i])
 (ay (!e) (∃j,ak 298 [.bo 0,vN a,vN b] [.bc 1 d] [] [.bc 1 j]/\bh .i64 (c-1)/\Rp f232 10 (r4 a b (c-1) e f (b-a) j) 1 r h)
 (Rp f232 10 (r4 a b c e f (b-a) d) 1 r h)))):
  Lp f232 0 (mH a b c e f d) 1 r h:=.of Pe H
def KY(a b e:Int)(f g:Bool)(i:Int)(c:Rw){r h}(H:∃d j,ak 299 [.bo 0,vN a,vN b] [.bc 1 c] [vN d,vN j] [.bc 1 c]/\ay (j==2) (∃k,ak 300 [.bo 0,vN a,vN b] [.bc 1 c] [] [.bc 1 k]/\bh .i64 (b-1)/\bh .i64 (d-a)/\bh .i64 ((b-1)-(d-a))/\Rp f232 15 (xS a b e f g i ((b-1)-(d-a)) 1 k) 1 r h)
 (Rp f232 15 (xS a b e f g i d j c) 1 r h)):
  Rp f232 10 (r4 a b e f g i c) 1 r h:=xm.of Pe H
def D1(a b e:Int)(c d:Bool)(f g k:Int)(i:Rw){r h}(H:ay (bif(bif c then d else false)then(k==1)else false) (∃l j,ak 301 [.bo 0,vN a,vN b] [.bc 1 i] [vB l] [.bc 1 j]/\ay l (Fi r h [] [.bc 1 j])
 (Rp f232 17 (xT a b e c d f g j) 1 r h))
 (Rp f232 17 (xT a b e c d f g i) 1 r h)):
  Rp f232 15 (xS a b e c d f g k i) 1 r h:=xm.of Pe H
def D2(a b e:Int)(n o:Bool)(g i:Int)(f:Rw){r h}(H:ay (decide (a>0)) (bh .i64 (a-1)/\(0<=(a-1)/\(a-1)<(f.length:Int))/\∃p,(f[Int.toNat (a-1)]?).bind (·[0]?)=some (W p)/\(0<=i/\i<(f.length:Int))/\∃q,(f[Int.toNat i]?).bind (·[0]?)=some (W q)/\∃s,ak 302 [vW p,vW q] [] [vB s] []/\ay (!s) (∃t u,ak 303 [.bo 0,vN a,vN b,vN i] [.bc 1 f] [vN t] [.bc 1 u]/\Lp f232 0 (mH t b e n o u) 1 r h)
 (∃c j k,ak 304 [.bo 0,vN a,vN b,vN i] [.bc 1 f] [vN c,vB j] [.bc 1 k]/\bh .i64 (c-a)/\bh .i64 (b-c)/\(8:Int)≠0/\ay (decide ((c-a)<(b-c))) (∃v,ak 232 [.bo 0,vN a,vN c,vN e] [.bc 1 k] [] [.bc 1 v]/\bh .i64 (c+1)/\Lp f232 0 (mH (c+1) b e (decide ((c-a)>=(IntKind.wrap .i64 (Int.tdiv g 8)))) j v) 1 r h)
 (bh .i64 (c+1)/\∃w,ak 232 [.bo 0,vN (c+1),vN b,vN e] [.bc 1 k] [] [.bc 1 w]/\Lp f232 0 (mH a c e (decide ((b-c)>=(IntKind.wrap .i64 (Int.tdiv g 8)))) j w) 1 r h))) (∃d l m,ak 304 [.bo 0,vN a,vN b,vN i] [.bc 1 f] [vN d,vB l] [.bc 1 m]/\bh .i64 (d-a)/\bh .i64 (b-d)/\(8:Int)≠0/\ay (decide ((d-a)<(b-d))) (∃x,ak 232 [.bo 0,vN a,vN d,vN e] [.bc 1 m] [] [.bc 1 x]/\bh .i64 (d+1)/\Lp f232 0 (mH (d+1) b e (decide ((d-a)>=(IntKind.wrap .i64 (Int.tdiv g 8)))) l x) 1 r h)
 (bh .i64 (d+1)/\∃y,ak 232 [.bo 0,vN (d+1),vN b,vN e] [.bc 1 m] [] [.bc 1 y]/\Lp f232 0 (mH a d e (decide ((b-d)>=(IntKind.wrap .i64 (Int.tdiv g 8)))) l y) 1 r h))):
  Rp f232 17 (xT a b e n o g i f) 1 r h:=xm.of Pe H
def pg(a b:Rw)(c d:Int):St:=⟨aM 32 [(1,vL 3 a),(2,.fn (.func 238) [] []),(15,vL 3 b),(16,vN c),(17,vN d)],[],[]⟩
def Gy:bq:={an:=[(5,2,ah),(6,3,ah)],cut:=[(4,{bl:=[1,2,15,16,17]})]}
def Pg(a b:Rw){r h}(H:ay ((a.length:Int) !=(b.length:Int)) (Fi r h [vB false] [])
 (Lp f237 0 (pg b a (a.length:Int) 0) 0 r h)):
  ak 237 [vL 3 a,vL 3 b,.fn (.func 238) [] []] [] r h:=.of func237 Gy H
def Jo(b c:Rw)(d a:Int){r h}(H:ay (decide (a<d)) (qQ c a fun f g i=>qQ b a fun j k l=>∃e,ak 238 [.agg [L 1 f,N g,N i],.agg [L 1 j,N k,N l]] [] [vB e] []/\ay (!e) (Fi r h [vB false] [])
 (bh .i64 (a+1)/\Lp f237 0 (pg b c d (a+1)) 0 r h))
 (Fi r h [vB true] [])):
  Lp f237 0 (pg b c d a) 0 r h:=.of Gy H
def D3(a:Rw)(b c d:Int):St:=⟨aM 19 [(0,vL 1 a),(1,vN b),(7,vN c),(8,vN d)],[],[]⟩
def YZ:bq:={an:=[(4,4,ah)],cut:=[(2,{bl:=[0,1,7,8]})]}
def acz(a:Rw)(b:Int){r h}(H:Lp f255 0 (D3 a b (a.length:Int) 0) 0 r h):
  ak 255 [vL 1 a,vN b] [] r h:=.of func255 YZ H
def WI(b:Rw)(c d a:Int){r h}(H:ay (decide (a<d)) (Rdn b a fun e=>ay (c==e) (Fi r h [vN a] [])
 (bh .i64 (a+1)/\Lp f255 0 (D3 b c d (a+1)) 0 r h))
 (Fi r h [vN (-1)] [])):
  Lp f255 0 (D3 b c d a) 0 r h:=.of YZ H
def ph(a:Rw)(b c:Int):St:=⟨aM 19 [(0,vL 6 a),(1,.fn (.func 201) [] [.aA 0 0]),(7,vN b),(8,vN c)],[],[.cells [.fn (.func 143) [] []]]⟩
def Gz:bq:={an:=[(4,4,ah)],cut:=[(2,{bl:=[0,1,7,8]})]}
def Ph(a:Rw){r h}(H:Lp f266 0 (ph a (a.length:Int) 0) 1 r h):
  ak 266 [vL 6 a,.fn (.func 201) [] [.aA 0 0]] [.cells [.fn (.func 143) [] []]] r h:=.of func266 Gz H
def Jp(b:Rw)(c a:Int){r h}(H:ay (decide (a<c)) (gI b a fun e f g i j k=>∃d,ak 201 [.agg [S e,N f,S g,S i,U j,L 5 k],.aA 0 0] [.cells [.fn (.func 143) [] []]] [vB d] [.cells [.fn (.func 143) [] []]]/\ay d (Fi r h [vN a] [.cells [.fn (.func 143) [] []]])
 (bh .i64 (a+1)/\Lp f266 0 (ph b c (a+1)) 1 r h))
 (Fi r h [vN (-1)] [.cells [.fn (.func 143) [] []]])):
  Lp f266 0 (ph b c a) 1 r h:=.of Gz H
def D4(a:Rw)(b:By)(c d:Int):St:=⟨aM 19 [(0,vL 1 a),(1,vS b),(7,vN c),(8,vN d)],[],[]⟩
def Y0:bq:={an:=[(4,4,ah)],cut:=[(2,{bl:=[0,1,7,8]})]}
def acA(a:Rw)(b:By){r h}(H:Lp f267 0 (D4 a b (a.length:Int) 0) 0 r h):
  ak 267 [vL 1 a,vS b] [] r h:=.of func267 Y0 H
def WJ(b:Rw)(c:By)(d a:Int){r h}(H:ay (decide (a<d)) (M7 b a fun e=>ay (c==e) (Fi r h [vN a] [])
 (bh .i64 (a+1)/\Lp f267 0 (D4 b c d (a+1)) 0 r h))
 (Fi r h [vN (-1)] [])):
  Lp f267 0 (D4 b c d a) 0 r h:=.of Y0 H
def pj(a:Rw)(b c:Int):St:=⟨aM 19 [(0,vL 2 a),(1,.fn (.func 207) [] [.aA 0 0]),(7,vN b),(8,vN c)],[],[.cells [.fn (.func 147) [] []]]⟩
def GA:bq:={an:=[(4,4,ah)],cut:=[(2,{bl:=[0,1,7,8]})]}
def Pj(a:Rw){r h}(H:Lp f269 0 (pj a (a.length:Int) 0) 1 r h):
  ak 269 [vL 2 a,.fn (.func 207) [] [.aA 0 0]] [.cells [.fn (.func 147) [] []]] r h:=.of func269 GA H
def Jq(b:Rw)(c a:Int){r h}(H:ay (decide (a<c)) (p8 b a fun e f=>∃d,ak 207 [.agg [S e,L 4 f],.aA 0 0] [.cells [.fn (.func 147) [] []]] [vB d] [.cells [.fn (.func 147) [] []]]/\ay d (Fi r h [vN a] [.cells [.fn (.func 147) [] []]])
 (bh .i64 (a+1)/\Lp f269 0 (pj b c (a+1)) 1 r h))
 (Fi r h [vN (-1)] [.cells [.fn (.func 147) [] []]])):
  Lp f269 0 (pj b c a) 1 r h:=.of GA H
def pn(a:Rw)(b c:Int):St:=⟨aM 19 [(0,vL 4 a),(1,.fn (.func 209) [] [.aA 0 0]),(7,vN b),(8,vN c)],[],[.cells [.fn (.func 149) [] []]]⟩
def GB:bq:={an:=[(4,4,ah)],cut:=[(2,{bl:=[0,1,7,8]})]}
def Pk(a:Rw){r h}(H:Lp f270 0 (pn a (a.length:Int) 0) 1 r h):
  ak 270 [vL 4 a,.fn (.func 209) [] [.aA 0 0]] [.cells [.fn (.func 149) [] []]] r h:=.of func270 GB H
def Jr(b:Rw)(c a:Int){r h}(H:ay (decide (a<c)) (jV b a fun e f g i=>∃d,ak 209 [.agg [S e,N f,N g,L 3 i],.aA 0 0] [.cells [.fn (.func 149) [] []]] [vB d] [.cells [.fn (.func 149) [] []]]/\ay d (Fi r h [vN a] [.cells [.fn (.func 149) [] []]])
 (bh .i64 (a+1)/\Lp f270 0 (pn b c (a+1)) 1 r h))
 (Fi r h [vN (-1)] [.cells [.fn (.func 149) [] []]])):
  Lp f270 0 (pn b c a) 1 r h:=.of GB H
def Pl:bq:={}
def Pm(a:Rw){r h}(H:∃b,ak 328 [vL 3 a,.fn (.func 272) [] [.aA 0 0]] [.cells [.fn (.func 211) [] []]] [vN b] [.cells [.fn (.func 211) [] []]]/\Fi r h [vB (decide (b>=0))] [.cells [.fn (.func 211) [] []]]):
  ak 271 [vL 3 a,.fn (.func 272) [] [.aA 0 0]] [.cells [.fn (.func 211) [] []]] r h:=.of func271 Pl H
def po(a:Rw)(b c:Int):St:=⟨aM 19 [(0,vL 1 a),(1,.fn (.func 213) [] [.aA 0 0]),(7,vN b),(8,vN c)],[],[.cells [.fn (.func 144) [] []]]⟩
def GC:bq:={an:=[(4,4,ah)],cut:=[(2,{bl:=[0,1,7,8]})]}
def Pn(a:Rw){r h}(H:Lp f276 0 (po a (a.length:Int) 0) 1 r h):
  ak 276 [vL 1 a,.fn (.func 213) [] [.aA 0 0]] [.cells [.fn (.func 144) [] []]] r h:=.of func276 GC H
def Js(b:Rw)(c a:Int){r h}(H:ay (decide (a<c)) (M7 b a fun e=>∃d,ak 213 [vS e,.aA 0 0] [.cells [.fn (.func 144) [] []]] [vB d] [.cells [.fn (.func 144) [] []]]/\ay d (Fi r h [vN a] [.cells [.fn (.func 144) [] []]])
 (bh .i64 (a+1)/\Lp f276 0 (po b c (a+1)) 1 r h))
 (Fi r h [vN (-1)] [.cells [.fn (.func 144) [] []]])):
  Lp f276 0 (po b c a) 1 r h:=.of GC H
def Jt(a:Rw)(b:Int)(c:Rw)(d e:Int):St:=⟨aM 36 [(0,vL 1 a),(3,vN b),(9,vL 1 c),(10,vN d),(11,vN e)],[],[]⟩
def Ju(a b:Rw)(c d:Int):St:=⟨aM 36 [(6,.own 0 0 5 a),(25,vL 1 b),(26,vN c),(27,vN d)],[some 0],[]⟩
def WK:bq:={an:=[(4,1,ah),(9,1,{fz:=true,bA:=true,cons:=[99]}),(12,1,ah)],cut:=[(11,{bl:=[6,25,26,27],dw:=[(6,5)],owns:=[6]}),(3,{bl:=[0,3,9,10,11]})]}
def acB(a:Rw){r h}(H:Lp f285 0 (Jt a 0 a (a.length:Int) 0) 0 r h):
  ak 285 [vL 1 a] [] r h:=.of func285 WK H
def Jv(c:Rw)(a:Int)(d:Rw)(e b:Int){r h}(H:ay (decide (b<e)) (vG d b fun f=>bh .i64 (a+(f.length:Int))/\ay (decide ((a+(f.length:Int))<0)) (False)
 (bh .i64 (b+1)/\Lp f285 0 (Jt c (a+(f.length:Int)) d e (b+1)) 0 r h))
 (∃g,ak 341 [.v .nil,vN a] [] [.own 0 0 5 g] []/\Lp f285 1 (Ju g c (c.length:Int) 0) 0 r h)):
  Lp f285 0 (Jt c a d e b) 0 r h:=.of WK H
def Jw(b c:Rw)(d a:Int){r h}(H:ay (decide (a<d)) (vG c a fun e=>(b++e).length*32<=2^47/\bh .i64 (a+1)/\Lp f285 1 (Ju (b++e) c d (a+1)) 0 r h)
 (Fi r h [.own 0 0 5 b] [])):
  Lp f285 1 (Ju b c d a) 0 r h:=.of WK H
def Po:bq:={}
def Pp(f:Rw)(a b:Int)(c:Bool)(d e:Int){r h}(H:∃g,ak 342 [vL 5 f,.fn (.func 290) [] [.aA 0 0]] [.cells [vN a,vN b,vB c,vW d,vW e]] [vN g] [.cells [vN a,vN b,vB c,vW d,vW e]]/\Fi r h [vB (decide (g>=0))] [.cells [vN a,vN b,vB c,vW d,vW e]]):
  ak 289 [vL 5 f,.fn (.func 290) [] [.aA 0 0]] [.cells [vN a,vN b,vB c,vW d,vW e]] r h:=.of func289 Po H
def Pr:bq:={}
def Pt(b a:Rw){r h}(H:∃c,ak 342 [vL 5 b,.fn (.func 294) [] [.aA 0 0]] [.cells [vL 5 a]] [vN c] [.cells [vL 5 a]]/\Fi r h [vB (decide (c>=0))] [.cells [vL 5 a]]):
  ak 289 [vL 5 b,.fn (.func 294) [] [.aA 0 0]] [.cells [vL 5 a]] r h:=.of func289 Pr H
def acC:bq:={an:=[(1,2,ah)]}
def acD(a:Rw)(b c:Int)(d:Bool)(e f:Int){r h}(H:∃g,ak 343 [vL 5 a,.agg [N b,N c,B d,W e,W f]] [] [vN g] []/\Fi r h [vB (decide (g>=0))] []):
  ak 293 [vL 5 a,.agg [N b,N c,B d,W e,W f]] [] r h:=.of func293 acC H
def pq(a:Rw)(b c:Int):St:=⟨aM 19 [(0,vL 1 a),(1,.fn (.func 230) [] []),(7,vN b),(8,vN c)],[],[]⟩
def GD:bq:={an:=[(4,4,ah)],cut:=[(2,{bl:=[0,1,7,8]})]}
def Pu(a:Rw){r h}(H:Lp f295 0 (pq a (a.length:Int) 0) 0 r h):
  ak 295 [vL 1 a,.fn (.func 230) [] []] [] r h:=.of func295 GD H
def Jx(b:Rw)(c a:Int){r h}(H:ay (decide (a<c)) (vG b a fun e=>∃d,ak 230 [vL 5 e] [] [vB d] []/\ay d (Fi r h [vN a] [])
 (bh .i64 (a+1)/\Lp f295 0 (pq b c (a+1)) 0 r h))
 (Fi r h [vN (-1)] [])):
  Lp f295 0 (pq b c a) 0 r h:=.of GD H
def s8(a b c:Int)(d:Rw):St:=⟨aM 49 [(0,.bo 0),(1,vN a),(2,vN b),(6,vN c)],[],[.bc 1 d]⟩
def D5(a b c d:Int)(e:Rw):St:=⟨aM 49 [(0,.bo 0),(1,vN a),(2,vN b),(6,vN c),(7,vN d)],[],[.bc 1 e]⟩
def WL:bq:={an:=[(4,6,aQ),(4,11,aQ),(4,13,ah),(6,8,aQ),(6,12,aQ),(6,14,aQ),(6,16,aQ)],cut:=[(1,{bl:=[0,1,2,6],iu:=[(0,1)]}),(4,{bl:=[0,1,2,6,7],iu:=[(0,1)]})]}
def acE(b:Rw)(a c:Int){r h}(H:bh .i64 (a+1)/\Lp f296 0 (s8 a c (a+1) b) 1 r h):
  ak 296 [.bo 0,vN a,vN c] [.bc 1 b] r h:=.of func296 WL H
def Pv(d b a:Int)(c:Rw){r h}(H:ay (decide (a<b)) (Lp f296 1 (D5 d b a a c) 1 r h)
 (Fi r h [] [.bc 1 c])):
  Lp f296 0 (s8 d b a c) 1 r h:=.of WL H
def Pw(d e c a:Int)(b:Rw){r h}(H:ay (decide (a>d)) ((0<=a/\a<(b.length:Int))/\∃g,(b[Int.toNat a]?).bind (·[0]?)=some (W g)/\bh .i64 (a-1)/\(0<=(a-1)/\(a-1)<(b.length:Int))/\∃i,(b[Int.toNat (a-1)]?).bind (·[0]?)=some (W i)/\∃j,ak 302 [vW g,vW i] [] [vB j] []/\ay j (bh .i64 (a-1)/\bh .i64 (a-1)/\(0<=(a-1)/\(a-1)<(b.length:Int))/\∃f,(b[Int.toNat (a-1)]?).bind (·[0]?)=some (W f)/\(0<=a/\a<(b.length:Int))/\∃k,(b[Int.toNat a]?).bind (·[0]?)=some (W k)/\(0<=a/\a<(b.length:Int))/\0+1<=1/\(0<=(a-1)/\(a-1)<((setRow b (Int.toNat a) 0 [W f]).length:Int))/\0+1<=1/\bh .i64 (a-1)/\Lp f296 1 (D5 d e c (a-1) (setRow (setRow b (Int.toNat a) 0 [W f]) (Int.toNat (a-1)) 0 [W k])) 1 r h)
 (bh .i64 (c+1)/\Lp f296 0 (s8 d e (c+1) b) 1 r h)) (bh .i64 (c+1)/\Lp f296 0 (s8 d e (c+1) b) 1 r h)):
  Lp f296 1 (D5 d e c a b) 1 r h:=.of WL H
def D6(a b c d:Int)(e:Rw):St:=⟨aM 56 [(0,.bo 0),(6,vN a),(7,vN b),(8,vN c),(9,vN d)],[],[.bc 1 e]⟩
def D7(a b c:Int)(d:Rw):St:=⟨aM 56 [(0,.bo 0),(6,vN a),(7,vN b),(10,vN c)],[],[.bc 1 d]⟩
def WM:bq:={an:=[(10,10,aQ),(10,14,aQ),(10,16,aQ),(10,18,aQ)],mod:=[(6,4,[(0,[])]),(11,4,[(0,[])])],cut:=[(4,{bl:=[0,6,7,8,9],iu:=[(0,1)]}),(8,{bl:=[0,6,7,10],iu:=[(0,1)]})]}
def acF(c:Rw)(a b:Int){r h}(H:bh .i64 (b-a)/\bh .i64 ((b-a)-1)/\(2:Int)≠0/\Lp f297 0 (D6 a 0 (b-a) (IntKind.wrap .i64 (Int.tdiv ((b-a)-1) 2)) c) 1 r h):
  ak 297 [.bo 0,vN a,vN b] [.bc 1 c] r h:=.of func297 WM H
def Px(c d a b:Int)(e:Rw){r h}(H:ay (decide (b>=0)) (∃f,ak 344 [.bo 0,vN b,vN a,vN c] [.bc 1 e] [] [.bc 1 f]/\bh .i64 (b-1)/\Lp f297 0 (D6 c d a (b-1) f) 1 r h)
 (bh .i64 (a-1)/\Lp f297 1 (D7 c d (a-1) e) 1 r h)):
  Lp f297 0 (D6 c d a b e) 1 r h:=.of WM H
def Py(a d b:Int)(c:Rw){r h}(H:ay (decide (b>=0)) (bh .i64 (a+b)/\bh .i64 (a+b)/\(0<=(a+b)/\(a+b)<(c.length:Int))/\∃e,(c[Int.toNat (a+b)]?).bind (·[0]?)=some (W e)/\(0<=a/\a<(c.length:Int))/\∃f,(c[Int.toNat a]?).bind (·[0]?)=some (W f)/\(0<=a/\a<(c.length:Int))/\0+1<=1/\(0<=(a+b)/\(a+b)<((setRow c (Int.toNat a) 0 [W e]).length:Int))/\0+1<=1/\∃g,ak 344 [.bo 0,vN d,vN b,vN a] [.bc 1 (setRow (setRow c (Int.toNat a) 0 [W e]) (Int.toNat (a+b)) 0 [W f])] [] [.bc 1 g]/\bh .i64 (b-1)/\Lp f297 1 (D7 a d (b-1) g) 1 r h)
 (Fi r h [] [.bc 1 c])):
  Lp f297 1 (D7 a d b c) 1 r h:=.of WM H
def yX(a b c d:Int)(e:Rw)(f:Int):St:=⟨aM 65 [(0,.bo 0),(1,vN a),(6,vN b),(7,.aA 1 0),(8,vU c),(9,vN d)],[],[.bc 1 e,.cells [vU f]]⟩
def r5(a b c d e:Int)(f:Rw)(g:Int):St:=⟨aM 65 [(0,.bo 0),(1,vN a),(6,vN b),(7,.aA 1 0),(8,vU c),(9,vN d),(10,vN e)],[],[.bc 1 f,.cells [vU g]]⟩
def WN:bq:={an:=[(3,1,ah),(10,10,aQ),(10,14,aQ),(10,16,aQ),(10,18,aQ)],mod:=[(7,0,[(0,[0])])],cut:=[(5,{bl:=[0,1,6,7,8,9],iu:=[(0,1)]})],join:=[(10,{bl:=[0,1,6,7,8,9,10],iu:=[(0,1)]})]}
def acG(c:Rw)(a b:Int){r h}(H:bh .i64 (b-a)/\ay (decide ((b-a)>=8)) (∃d,ak 345 [vN (b-a)] [] [vU d] []/\(4:Int)≠0/\bh .i64 ((IntKind.wrap .i64 (Int.tdiv (b-a) 4))*2)/\bh .i64 (a+((IntKind.wrap .i64 (Int.tdiv (b-a) 4))*2))/\bh .i64 ((a+((IntKind.wrap .i64 (Int.tdiv (b-a) 4))*2))-1)/\Lp f298 0 (yX a (b-a) d ((a+((IntKind.wrap .i64 (Int.tdiv (b-a) 4))*2))-1) c (IntKind.wrap .u64 (b-a))) 1 r h)
 (Fi r h [] [.bc 1 c])):
  ak 298 [.bo 0,vN a,vN b] [.bc 1 c] r h:=.of func298 WN H
def Pz(c a b e:Int)(f:Rw)(i:Int){r h}(H:(4:Int)≠0/\bh .i64 ((IntKind.wrap .i64 (Int.tdiv a 4))*2)/\bh .i64 (c+((IntKind.wrap .i64 (Int.tdiv a 4))*2))/\bh .i64 ((c+((IntKind.wrap .i64 (Int.tdiv a 4))*2))+1)/\ay (decide (e<=((c+((IntKind.wrap .i64 (Int.tdiv a 4))*2))+1))) (∃d g,ak 346 [.aA 0 0] [.cells [vU i]] [vU d] [.cells [vU g]]/\ay (decide ((IntKind.wrap .i64 (cF .and .u64 d (IntKind.wrap .u64 (b-1))))>=a)) (bh .i64 ((IntKind.wrap .i64 (cF .and .u64 d (IntKind.wrap .u64 (b-1))))-a)/\Rp f298 10 (r5 c a b e ((IntKind.wrap .i64 (cF .and .u64 d (IntKind.wrap .u64 (b-1))))-a) f g) 1 r h)
 (Rp f298 10 (r5 c a b e (IntKind.wrap .i64 (cF .and .u64 d (IntKind.wrap .u64 (b-1)))) f g) 1 r h))
 (Fi r h [] [.bc 1 f])):
  Lp f298 0 (yX c a b e f i) 1 r h:=.of WN H
def TE(a e g b c:Int)(d:Rw)(i:Int){r h}(H:bh .i64 (a+c)/\bh .i64 (a+c)/\(0<=(a+c)/\(a+c)<(d.length:Int))/\∃f,(d[Int.toNat (a+c)]?).bind (·[0]?)=some (W f)/\(0<=b/\b<(d.length:Int))/\∃j,(d[Int.toNat b]?).bind (·[0]?)=some (W j)/\(0<=b/\b<(d.length:Int))/\0+1<=1/\(0<=(a+c)/\(a+c)<((setRow d (Int.toNat b) 0 [W f]).length:Int))/\0+1<=1/\bh .i64 (b+1)/\Lp f298 0 (yX a e g (b+1) (setRow (setRow d (Int.toNat b) 0 [W f]) (Int.toNat (a+c)) 0 [W j]) i) 1 r h):
  Rp f298 10 (r5 a e g b c d i) 1 r h:=xm.of WN H
def acH:bq:={mod:=[(8,2,[(1,[0])]),(9,2,[(1,[0])]),(10,2,[(1,[0])]),(11,4,[(1,[0])])]}
def Y1(b:Rw)(a c:Int){r h}(H:bh .i64 (c-a)/\(4:Int)≠0/\bh .i64 ((IntKind.wrap .i64 (Int.tdiv (c-a) 4))*1)/\bh .i64 (a+((IntKind.wrap .i64 (Int.tdiv (c-a) 4))*1))/\(4:Int)≠0/\bh .i64 ((IntKind.wrap .i64 (Int.tdiv (c-a) 4))*2)/\bh .i64 (a+((IntKind.wrap .i64 (Int.tdiv (c-a) 4))*2))/\(4:Int)≠0/\bh .i64 ((IntKind.wrap .i64 (Int.tdiv (c-a) 4))*3)/\bh .i64 (a+((IntKind.wrap .i64 (Int.tdiv (c-a) 4))*3))/\ay (decide ((c-a)>=8)) (ay (decide ((c-a)>=50)) (∃i j,ak 347 [.bo 0,vN (a+((IntKind.wrap .i64 (Int.tdiv (c-a) 4))*1)),.aA 1 0] [.bc 1 b,.cells [vN 0]] [vN i] [.bc 1 b,.cells [vN j]]/\∃k l,ak 347 [.bo 0,vN (a+((IntKind.wrap .i64 (Int.tdiv (c-a) 4))*2)),.aA 1 0] [.bc 1 b,.cells [vN j]] [vN k] [.bc 1 b,.cells [vN l]]/\∃m n,ak 347 [.bo 0,vN (a+((IntKind.wrap .i64 (Int.tdiv (c-a) 4))*3)),.aA 1 0] [.bc 1 b,.cells [vN l]] [vN m] [.bc 1 b,.cells [vN n]]/\∃d f,ak 348 [.bo 0,vN i,vN k,vN m,.aA 1 0] [.bc 1 b,.cells [vN n]] [vN d] [.bc 1 b,.cells [vN f]]/\ay (f==0) (Fi r h [vN d,vN 1] [.bc 1 b])
 (ay (f==12) (Fi r h [vN d,vN 2] [.bc 1 b])
 (Fi r h [vN d,vN 0] [.bc 1 b])))
 (∃e g,ak 348 [.bo 0,vN (a+((IntKind.wrap .i64 (Int.tdiv (c-a) 4))*1)),vN (a+((IntKind.wrap .i64 (Int.tdiv (c-a) 4))*2)),vN (a+((IntKind.wrap .i64 (Int.tdiv (c-a) 4))*3)),.aA 1 0] [.bc 1 b,.cells [vN 0]] [vN e] [.bc 1 b,.cells [vN g]]/\ay (g==0) (Fi r h [vN e,vN 1] [.bc 1 b])
 (ay (g==12) (Fi r h [vN e,vN 2] [.bc 1 b])
 (Fi r h [vN e,vN 0] [.bc 1 b]))))
 (ay ((0:Int)==0) (Fi r h [vN (a+((IntKind.wrap .i64 (Int.tdiv (c-a) 4))*2)),vN 1] [.bc 1 b])
 (ay ((0:Int)==12) (Fi r h [vN (a+((IntKind.wrap .i64 (Int.tdiv (c-a) 4))*2)),vN 2] [.bc 1 b])
 (Fi r h [vN (a+((IntKind.wrap .i64 (Int.tdiv (c-a) 4))*2)),vN 0] [.bc 1 b])))):
  ak 299 [.bo 0,vN a,vN c] [.bc 1 b] r h:=.of func299 acH H
def D8(a b:Int)(c:Rw):St:=⟨aM 32 [(0,.bo 0),(6,vN a),(7,vN b)],[],[.bc 1 c]⟩
def Y2:bq:={an:=[(3,6,aQ),(3,10,aQ),(3,12,aQ),(3,14,aQ)],cut:=[(2,{bl:=[0,6,7],iu:=[(0,1)]})]}
def acI(b:Rw)(c a:Int){r h}(H:bh .i64 (a-1)/\Lp f300 0 (D8 c (a-1) b) 1 r h):
  ak 300 [.bo 0,vN c,vN a] [.bc 1 b] r h:=.of func300 Y2 H
def PA(a b:Int)(c:Rw){r h}(H:ay (decide (a<b)) ((0<=b/\b<(c.length:Int))/\∃d,(c[Int.toNat b]?).bind (·[0]?)=some (W d)/\(0<=a/\a<(c.length:Int))/\∃e,(c[Int.toNat a]?).bind (·[0]?)=some (W e)/\(0<=a/\a<(c.length:Int))/\0+1<=1/\(0<=b/\b<((setRow c (Int.toNat a) 0 [W d]).length:Int))/\0+1<=1/\bh .i64 (a+1)/\bh .i64 (b-1)/\Lp f300 0 (D8 (a+1) (b-1) (setRow (setRow c (Int.toNat a) 0 [W d]) (Int.toNat b) 0 [W e])) 1 r h)
 (Fi r h [] [.bc 1 c])):
  Lp f300 0 (D8 a b c) 1 r h:=.of Y2 H
def mI(a b c d:Int)(e:Rw):St:=⟨aM 133 [(0,.bo 0),(1,vN a),(2,vN b),(7,vN c),(8,vN d)],[],[.bc 1 e]⟩
def D9(a b c d:Int)(e:Rw):St:=⟨aM 133 [(0,.bo 0),(1,vN a),(2,vN b),(7,vN c),(8,vN d)],[],[.bc 1 e]⟩
def Ea(a b c d:Int)(e:Rw):St:=⟨aM 133 [(0,.bo 0),(1,vN a),(2,vN b),(7,vN c),(8,vN d)],[],[.bc 1 e]⟩
def Eb(a b c d e:Int)(f:Rw):St:=⟨aM 133 [(0,.bo 0),(1,vN a),(2,vN b),(7,vN c),(8,vN d),(9,vN e)],[],[.bc 1 f]⟩
def qR(a b c d e:Int)(f:Rw):St:=⟨aM 133 [(0,.bo 0),(1,vN a),(2,vN b),(7,vN c),(8,vN d),(10,vN e)],[],[.bc 1 f]⟩
def Na:bq:={an:=[(5,6,aQ),(5,11,aQ),(5,13,ah),(11,8,aQ),(11,12,aQ),(11,14,aQ),(11,16,aQ),(16,2,aQ),(16,7,aQ),(16,9,ah),(17,8,aQ),(17,12,aQ),(17,14,aQ),(17,16,aQ),(22,2,aQ),(22,7,aQ),(22,9,ah),(23,8,aQ),(23,12,aQ),(23,14,aQ),(23,16,aQ)],cut:=[(14,{bl:=[0,1,2,7,8,9],iu:=[(0,1)]}),(20,{bl:=[0,1,2,7,8,10],iu:=[(0,1)]}),(3,{bl:=[0,1,2,7,8],iu:=[(0,1)]}),(5,{bl:=[0,1,2,7,8],iu:=[(0,1)]})],join:=[(7,{bl:=[0,1,2,7,8],iu:=[(0,1)]})]}
def acJ(b:Rw)(a c:Int){r h}(H:bh .i64 (a+1)/\Lp f301 0 (mI a c (a+1) 0 b) 1 r h):
  ak 301 [.bo 0,vN a,vN c] [.bc 1 b] r h:=.of func301 Na H
def PC(c d e a:Int)(b:Rw){r h}(H:ay (decide (a<5)) (Lp f301 1 (D9 c d e a b) 1 r h)
 (Fi r h [vB false] [.bc 1 b])):
  Lp f301 0 (mI c d e a b) 1 r h:=.of Na H
def WO(d c a e:Int)(b:Rw){r h}(H:ay (decide (a<c)) ((0<=a/\a<(b.length:Int))/\∃f,(b[Int.toNat a]?).bind (·[0]?)=some (W f)/\bh .i64 (a-1)/\(0<=(a-1)/\(a-1)<(b.length:Int))/\∃g,(b[Int.toNat (a-1)]?).bind (·[0]?)=some (W g)/\∃i,ak 302 [vW f,vW g] [] [vB i] []/\ay (!i) (bh .i64 (a+1)/\Lp f301 1 (D9 d c (a+1) e b) 1 r h)
 (Rp f301 7 (Ea d c a e b) 1 r h)) (Rp f301 7 (Ea d c a e b) 1 r h)):
  Lp f301 1 (D9 d c a e b) 1 r h:=.of Na H
def WQ(d c a e:Int)(b:Rw){r h}(H:ay (a==c) (Fi r h [vB true] [.bc 1 b])
 (bh .i64 (c-d)/\ay (decide ((c-d)<50)) (Fi r h [vB false] [.bc 1 b])
 (bh .i64 (a-1)/\bh .i64 (a-1)/\(0<=(a-1)/\(a-1)<(b.length:Int))/\∃f,(b[Int.toNat (a-1)]?).bind (·[0]?)=some (W f)/\(0<=a/\a<(b.length:Int))/\∃g,(b[Int.toNat a]?).bind (·[0]?)=some (W g)/\(0<=a/\a<(b.length:Int))/\0+1<=1/\(0<=(a-1)/\(a-1)<((setRow b (Int.toNat a) 0 [W f]).length:Int))/\0+1<=1/\bh .i64 (a-d)/\ay (decide ((a-d)>=2)) (bh .i64 (a-1)/\Lp f301 2 (Eb d c a e (a-1) (setRow (setRow b (Int.toNat a) 0 [W f]) (Int.toNat (a-1)) 0 [W g])) 1 r h)
 (bh .i64 (c-a)/\ay (decide ((c-a)>=2)) (bh .i64 (a+1)/\Lp f301 3 (qR d c a e (a+1) (setRow (setRow b (Int.toNat a) 0 [W f]) (Int.toNat (a-1)) 0 [W g])) 1 r h)
 (bh .i64 (e+1)/\Lp f301 0 (mI d c a (e+1) (setRow (setRow b (Int.toNat a) 0 [W f]) (Int.toNat (a-1)) 0 [W g])) 1 r h))))):
  Rp f301 7 (Ea d c a e b) 1 r h:=xm.of Na H
def PD(f d c e a:Int)(b:Rw){r h}(H:ay (decide (a>=1)) ((0<=a/\a<(b.length:Int))/\∃i,(b[Int.toNat a]?).bind (·[0]?)=some (W i)/\bh .i64 (a-1)/\(0<=(a-1)/\(a-1)<(b.length:Int))/\∃j,(b[Int.toNat (a-1)]?).bind (·[0]?)=some (W j)/\∃k,ak 302 [vW i,vW j] [] [vB k] []/\ay (!k) (bh .i64 (d-c)/\ay (decide ((d-c)>=2)) (bh .i64 (c+1)/\Lp f301 3 (qR f d c e (c+1) b) 1 r h)
 (bh .i64 (e+1)/\Lp f301 0 (mI f d c (e+1) b) 1 r h))
 (bh .i64 (a-1)/\bh .i64 (a-1)/\(0<=(a-1)/\(a-1)<(b.length:Int))/\∃g,(b[Int.toNat (a-1)]?).bind (·[0]?)=some (W g)/\(0<=a/\a<(b.length:Int))/\∃l,(b[Int.toNat a]?).bind (·[0]?)=some (W l)/\(0<=a/\a<(b.length:Int))/\0+1<=1/\(0<=(a-1)/\(a-1)<((setRow b (Int.toNat a) 0 [W g]).length:Int))/\0+1<=1/\bh .i64 (a-1)/\Lp f301 2 (Eb f d c e (a-1) (setRow (setRow b (Int.toNat a) 0 [W g]) (Int.toNat (a-1)) 0 [W l])) 1 r h))
 (bh .i64 (d-c)/\ay (decide ((d-c)>=2)) (bh .i64 (c+1)/\Lp f301 3 (qR f d c e (c+1) b) 1 r h)
 (bh .i64 (e+1)/\Lp f301 0 (mI f d c (e+1) b) 1 r h))):
  Lp f301 2 (Eb f d c e a b) 1 r h:=.of Na H
def WR(e d f c a:Int)(b:Rw){r h}(H:ay (decide (a<d)) ((0<=a/\a<(b.length:Int))/\∃i,(b[Int.toNat a]?).bind (·[0]?)=some (W i)/\bh .i64 (a-1)/\(0<=(a-1)/\(a-1)<(b.length:Int))/\∃j,(b[Int.toNat (a-1)]?).bind (·[0]?)=some (W j)/\∃k,ak 302 [vW i,vW j] [] [vB k] []/\ay (!k) (bh .i64 (c+1)/\Lp f301 0 (mI e d f (c+1) b) 1 r h)
 (bh .i64 (a-1)/\bh .i64 (a-1)/\(0<=(a-1)/\(a-1)<(b.length:Int))/\∃g,(b[Int.toNat (a-1)]?).bind (·[0]?)=some (W g)/\(0<=a/\a<(b.length:Int))/\∃l,(b[Int.toNat a]?).bind (·[0]?)=some (W l)/\(0<=a/\a<(b.length:Int))/\0+1<=1/\(0<=(a-1)/\(a-1)<((setRow b (Int.toNat a) 0 [W g]).length:Int))/\0+1<=1/\bh .i64 (a+1)/\Lp f301 3 (qR e d f c (a+1) (setRow (setRow b (Int.toNat a) 0 [W g]) (Int.toNat (a-1)) 0 [W l])) 1 r h))
 (bh .i64 (c+1)/\Lp f301 0 (mI e d f (c+1) b) 1 r h)):
  Lp f301 3 (qR e d f c a b) 1 r h:=.of Na H
def s9(a b c:Int)(d:Rw):St:=⟨aM 84 [(0,.bo 0),(1,vN a),(9,vN b),(10,vN c)],[],[.bc 1 d]⟩
def vM(a b c:Int)(d:Rw):St:=⟨aM 84 [(0,.bo 0),(1,vN a),(9,vN b),(10,vN c)],[],[.bc 1 d]⟩
def yY(a b c:Int)(d:Rw):St:=⟨aM 84 [(0,.bo 0),(1,vN a),(9,vN b),(10,vN c)],[],[.bc 1 d]⟩
def TF:bq:={an:=[(1,6,aQ),(1,10,aQ),(1,12,aQ),(1,14,aQ),(3,6,aQ),(3,10,aQ),(3,12,ah),(5,6,aQ),(5,10,aQ),(5,12,ah),(8,6,aQ),(8,10,aQ),(8,12,aQ),(8,14,aQ)],cut:=[(5,{bl:=[0,1,9,10],iu:=[(0,1)]})],join:=[(3,{bl:=[0,1,9,10],iu:=[(0,1)]}),(7,{bl:=[0,1,9,10],iu:=[(0,1)]})]}
def acK(b:Rw)(a d c:Int){r h}(H:(0<=c/\c<(b.length:Int))/\∃e,(b[Int.toNat c]?).bind (·[0]?)=some (W e)/\(0<=a/\a<(b.length:Int))/\∃f,(b[Int.toNat a]?).bind (·[0]?)=some (W f)/\(0<=a/\a<(b.length:Int))/\0+1<=1/\(0<=c/\c<((setRow b (Int.toNat a) 0 [W e]).length:Int))/\0+1<=1/\bh .i64 (a+1)/\bh .i64 (d-1)/\Rp f303 3 (s9 a (a+1) (d-1) (setRow (setRow b (Int.toNat a) 0 [W e]) (Int.toNat c) 0 [W f])) 1 r h):
  ak 303 [.bo 0,vN a,vN d,vN c] [.bc 1 b] r h:=.of func303 TF H
def WS(c a d:Int)(b:Rw){r h}(H:ay (decide (a<=d)) ((0<=c/\c<(b.length:Int))/\∃e,(b[Int.toNat c]?).bind (·[0]?)=some (W e)/\(0<=a/\a<(b.length:Int))/\∃f,(b[Int.toNat a]?).bind (·[0]?)=some (W f)/\∃g,ak 302 [vW e,vW f] [] [vB g] []/\ay (!g) (bh .i64 (a+1)/\Rp f303 3 (s9 c (a+1) d b) 1 r h)
 (Lp f303 2 (vM c a d b) 1 r h)) (Lp f303 2 (vM c a d b) 1 r h)):
  Rp f303 3 (s9 c a d b) 1 r h:=xm.of TF H
def WT(c d a:Int)(b:Rw){r h}(H:ay (decide (d<=a)) ((0<=c/\c<(b.length:Int))/\∃e,(b[Int.toNat c]?).bind (·[0]?)=some (W e)/\(0<=a/\a<(b.length:Int))/\∃f,(b[Int.toNat a]?).bind (·[0]?)=some (W f)/\∃g,ak 302 [vW e,vW f] [] [vB g] []/\ay g (bh .i64 (a-1)/\Lp f303 2 (vM c d (a-1) b) 1 r h)
 (Rp f303 7 (yY c d a b) 1 r h)) (Rp f303 7 (yY c d a b) 1 r h)):
  Lp f303 2 (vM c d a b) 1 r h:=.of TF H
def WU(e a b:Int)(c:Rw){r h}(H:ay (decide (a>b)) (Fi r h [vN a] [.bc 1 c])
 ((0<=b/\b<(c.length:Int))/\∃d,(c[Int.toNat b]?).bind (·[0]?)=some (W d)/\(0<=a/\a<(c.length:Int))/\∃f,(c[Int.toNat a]?).bind (·[0]?)=some (W f)/\(0<=a/\a<(c.length:Int))/\0+1<=1/\(0<=b/\b<((setRow c (Int.toNat a) 0 [W d]).length:Int))/\0+1<=1/\bh .i64 (a+1)/\bh .i64 (b-1)/\Rp f303 3 (s9 e (a+1) (b-1) (setRow (setRow c (Int.toNat a) 0 [W d]) (Int.toNat b) 0 [W f])) 1 r h)):
  Rp f303 7 (yY e a b c) 1 r h:=xm.of TF H
def yZ(a b c:Int)(d:Rw):St:=⟨aM 168 [(0,.bo 0),(1,vN a),(10,vN b),(11,vN c)],[],[.bc 1 d]⟩
def vO(a b c:Int)(d:Rw):St:=⟨aM 168 [(0,.bo 0),(1,vN a),(10,vN b),(11,vN c)],[],[.bc 1 d]⟩
def y5(a b c:Int)(d:Rw):St:=⟨aM 168 [(0,.bo 0),(1,vN a),(10,vN b),(11,vN c)],[],[.bc 1 d]⟩
def pt(a b c:Int)(d:Rw):St:=⟨aM 168 [(0,.bo 0),(1,vN a),(10,vN b),(11,vN c)],[],[.bc 1 d]⟩
def vP(a b c:Int)(d:Rw):St:=⟨aM 168 [(0,.bo 0),(1,vN a),(10,vN b),(11,vN c)],[],[.bc 1 d]⟩
def uF(a b c:Int)(d:Rw):St:=⟨aM 168 [(0,.bo 0),(1,vN a),(10,vN b),(11,vN c)],[],[.bc 1 d]⟩
def Jy:bq:={an:=[(1,6,aQ),(1,10,aQ),(1,12,aQ),(1,14,aQ),(3,6,aQ),(3,10,aQ),(3,12,ah),(5,6,aQ),(5,10,aQ),(5,12,ah),(8,6,aQ),(8,10,aQ),(8,12,aQ),(8,14,aQ),(10,6,aQ),(10,10,aQ),(10,12,aQ),(10,14,aQ),(13,6,aQ),(13,10,aQ),(13,12,ah),(15,6,aQ),(15,10,aQ),(15,12,ah),(18,6,aQ),(18,10,aQ),(18,12,aQ),(18,14,aQ),(21,6,aQ),(21,10,aQ),(21,12,aQ),(21,14,aQ)],cut:=[(15,{bl:=[0,1,10,11],iu:=[(0,1)]}),(3,{bl:=[0,1,10,11],iu:=[(0,1)]}),(5,{bl:=[0,1,10,11],iu:=[(0,1)]})],join:=[(13,{bl:=[0,1,10,11],iu:=[(0,1)]}),(17,{bl:=[0,1,10,11],iu:=[(0,1)]}),(7,{bl:=[0,1,10,11],iu:=[(0,1)]})]}
def acL(b:Rw)(a d c:Int){r h}(H:(0<=c/\c<(b.length:Int))/\∃e,(b[Int.toNat c]?).bind (·[0]?)=some (W e)/\(0<=a/\a<(b.length:Int))/\∃f,(b[Int.toNat a]?).bind (·[0]?)=some (W f)/\(0<=a/\a<(b.length:Int))/\0+1<=1/\(0<=c/\c<((setRow b (Int.toNat a) 0 [W e]).length:Int))/\0+1<=1/\bh .i64 (a+1)/\bh .i64 (d-1)/\Lp f304 0 (yZ a (a+1) (d-1) (setRow (setRow b (Int.toNat a) 0 [W e]) (Int.toNat c) 0 [W f])) 1 r h):
  ak 304 [.bo 0,vN a,vN d,vN c] [.bc 1 b] r h:=.of func304 Jy H
def WV(c a d:Int)(b:Rw){r h}(H:ay (decide (a<=d)) ((0<=a/\a<(b.length:Int))/\∃e,(b[Int.toNat a]?).bind (·[0]?)=some (W e)/\(0<=c/\c<(b.length:Int))/\∃f,(b[Int.toNat c]?).bind (·[0]?)=some (W f)/\∃g,ak 302 [vW e,vW f] [] [vB g] []/\ay g (bh .i64 (a+1)/\Lp f304 0 (yZ c (a+1) d b) 1 r h)
 (Lp f304 1 (vO c a d b) 1 r h)) (Lp f304 1 (vO c a d b) 1 r h)):
  Lp f304 0 (yZ c a d b) 1 r h:=.of Jy H
def WX(c d a:Int)(b:Rw){r h}(H:ay (decide (d<=a)) ((0<=a/\a<(b.length:Int))/\∃e,(b[Int.toNat a]?).bind (·[0]?)=some (W e)/\(0<=c/\c<(b.length:Int))/\∃f,(b[Int.toNat c]?).bind (·[0]?)=some (W f)/\∃g,ak 302 [vW e,vW f] [] [vB g] []/\ay (!g) (bh .i64 (a-1)/\Lp f304 1 (vO c d (a-1) b) 1 r h)
 (Rp f304 7 (y5 c d a b) 1 r h)) (Rp f304 7 (y5 c d a b) 1 r h)):
  Lp f304 1 (vO c d a b) 1 r h:=.of Jy H
def WY(d c a:Int)(b:Rw){r h}(H:ay (decide (c>a)) ((0<=d/\d<(b.length:Int))/\∃e,(b[Int.toNat d]?).bind (·[0]?)=some (W e)/\(0<=a/\a<(b.length:Int))/\∃g,(b[Int.toNat a]?).bind (·[0]?)=some (W g)/\(0<=a/\a<(b.length:Int))/\0+1<=1/\(0<=d/\d<((setRow b (Int.toNat a) 0 [W e]).length:Int))/\0+1<=1/\Fi r h [vN a,vB true] [.bc 1 (setRow (setRow b (Int.toNat a) 0 [W e]) (Int.toNat d) 0 [W g])])
 ((0<=a/\a<(b.length:Int))/\∃f,(b[Int.toNat a]?).bind (·[0]?)=some (W f)/\(0<=c/\c<(b.length:Int))/\∃i,(b[Int.toNat c]?).bind (·[0]?)=some (W i)/\(0<=c/\c<(b.length:Int))/\0+1<=1/\(0<=a/\a<((setRow b (Int.toNat c) 0 [W f]).length:Int))/\0+1<=1/\bh .i64 (c+1)/\bh .i64 (a-1)/\Rp f304 13 (pt d (c+1) (a-1) (setRow (setRow b (Int.toNat c) 0 [W f]) (Int.toNat a) 0 [W i])) 1 r h)):
  Rp f304 7 (y5 d c a b) 1 r h:=xm.of Jy H
def TG(c a d:Int)(b:Rw){r h}(H:ay (decide (a<=d)) ((0<=a/\a<(b.length:Int))/\∃e,(b[Int.toNat a]?).bind (·[0]?)=some (W e)/\(0<=c/\c<(b.length:Int))/\∃f,(b[Int.toNat c]?).bind (·[0]?)=some (W f)/\∃g,ak 302 [vW e,vW f] [] [vB g] []/\ay g (bh .i64 (a+1)/\Rp f304 13 (pt c (a+1) d b) 1 r h)
 (Lp f304 4 (vP c a d b) 1 r h)) (Lp f304 4 (vP c a d b) 1 r h)):
  Rp f304 13 (pt c a d b) 1 r h:=xm.of Jy H
def WZ(c d a:Int)(b:Rw){r h}(H:ay (decide (d<=a)) ((0<=a/\a<(b.length:Int))/\∃e,(b[Int.toNat a]?).bind (·[0]?)=some (W e)/\(0<=c/\c<(b.length:Int))/\∃f,(b[Int.toNat c]?).bind (·[0]?)=some (W f)/\∃g,ak 302 [vW e,vW f] [] [vB g] []/\ay (!g) (bh .i64 (a-1)/\Lp f304 4 (vP c d (a-1) b) 1 r h)
 (Rp f304 17 (uF c d a b) 1 r h)) (Rp f304 17 (uF c d a b) 1 r h)):
  Lp f304 4 (vP c d a b) 1 r h:=.of Jy H
def TH(d c a:Int)(b:Rw){r h}(H:ay (decide (c>a)) ((0<=d/\d<(b.length:Int))/\∃e,(b[Int.toNat d]?).bind (·[0]?)=some (W e)/\(0<=a/\a<(b.length:Int))/\∃g,(b[Int.toNat a]?).bind (·[0]?)=some (W g)/\(0<=a/\a<(b.length:Int))/\0+1<=1/\(0<=d/\d<((setRow b (Int.toNat a) 0 [W e]).length:Int))/\0+1<=1/\Fi r h [vN a,vB false] [.bc 1 (setRow (setRow b (Int.toNat a) 0 [W e]) (Int.toNat d) 0 [W g])])
 ((0<=a/\a<(b.length:Int))/\∃f,(b[Int.toNat a]?).bind (·[0]?)=some (W f)/\(0<=c/\c<(b.length:Int))/\∃i,(b[Int.toNat c]?).bind (·[0]?)=some (W i)/\(0<=c/\c<(b.length:Int))/\0+1<=1/\(0<=a/\a<((setRow b (Int.toNat c) 0 [W f]).length:Int))/\0+1<=1/\bh .i64 (c+1)/\bh .i64 (a-1)/\Rp f304 13 (pt d (c+1) (a-1) (setRow (setRow b (Int.toNat c) 0 [W f]) (Int.toNat a) 0 [W i])) 1 r h)):
  Rp f304 17 (uF d c a b) 1 r h:=xm.of Jy H
def pw(a b:Rw)(c d:Int):St:=⟨aM 32 [(1,vL 1 a),(2,.fn (.func 310) [] []),(15,vL 1 b),(16,vN c),(17,vN d)],[],[]⟩
def GF:bq:={an:=[(5,2,ah),(6,3,ah)],cut:=[(4,{bl:=[1,2,15,16,17]})]}
def PF(a b:Rw){r h}(H:ay ((a.length:Int) !=(b.length:Int)) (Fi r h [vB false] [])
 (Lp f309 0 (pw b a (a.length:Int) 0) 0 r h)):
  ak 309 [vL 1 a,vL 1 b,.fn (.func 310) [] []] [] r h:=.of func309 GF H
def Jz(b c:Rw)(d a:Int){r h}(H:ay (decide (a<d)) (vG c a fun f=>vG b a fun g=>∃e,ak 310 [vL 5 f,vL 5 g] [] [vB e] []/\ay (!e) (Fi r h [vB false] [])
 (bh .i64 (a+1)/\Lp f309 0 (pw b c d (a+1)) 0 r h))
 (Fi r h [vB true] [])):
  Lp f309 0 (pw b c d a) 0 r h:=.of GF H
def Ec(a b:Rw)(c d:Int):St:=⟨aM 26 [(0,vL 5 a),(1,vL 5 b),(12,vN c),(13,vN d)],[],[]⟩
def Y3:bq:={an:=[(6,3,ah),(6,7,ah)],cut:=[(4,{bl:=[0,1,12,13]})]}
def acM(a b:Rw){r h}(H:ay ((a.length:Int) !=(b.length:Int)) (Fi r h [vB false] [])
 (Lp f311 0 (Ec a b (a.length:Int) 0) 0 r h)):
  ak 311 [vL 5 a,vL 5 b] [] r h:=.of func311 Y3 H
def W4(b c:Rw)(d a:Int){r h}(H:ay (decide (a<d)) (ny b a fun e f g i j=>ny c a fun k l m n o=>ay (!(((((true&&(e==k))&&(f==l))&&(g==m))&&(i==n))&&(j==o))) (Fi r h [vB false] [])
 (bh .i64 (a+1)/\Lp f311 0 (Ec b c d (a+1)) 0 r h))
 (Fi r h [vB true] [])):
  Lp f311 0 (Ec b c d a) 0 r h:=.of Y3 H
def px(a:Rw)(b c:Int):St:=⟨aM 19 [(0,vL 3 a),(1,.fn (.func 272) [] [.aA 0 0]),(7,vN b),(8,vN c)],[],[.cells [.fn (.func 211) [] []]]⟩
def GG:bq:={an:=[(4,4,ah)],cut:=[(2,{bl:=[0,1,7,8]})]}
def PG(a:Rw){r h}(H:Lp f328 0 (px a (a.length:Int) 0) 1 r h):
  ak 328 [vL 3 a,.fn (.func 272) [] [.aA 0 0]] [.cells [.fn (.func 211) [] []]] r h:=.of func328 GG H
def JA(b:Rw)(c a:Int){r h}(H:ay (decide (a<c)) (rU b a fun e f g=>∃d,ak 272 [.agg [S e,L 1 f,L 5 g],.aA 0 0] [.cells [.fn (.func 211) [] []]] [vB d] [.cells [.fn (.func 211) [] []]]/\ay d (Fi r h [vN a] [.cells [.fn (.func 211) [] []]])
 (bh .i64 (a+1)/\Lp f328 0 (px b c (a+1)) 1 r h))
 (Fi r h [vN (-1)] [.cells [.fn (.func 211) [] []]])):
  Lp f328 0 (px b c a) 1 r h:=.of GG H
def PH:bq:={}
def PI(a:Rw){r h}(H:∃b,ak 356 [vL 5 a,.fn (.func 330) [] [.aA 0 0]] [.cells [.fn (.func 274) [] []]] [vN b] [.cells [.fn (.func 274) [] []]]/\Fi r h [vB (decide (b>=0))] [.cells [.fn (.func 274) [] []]]):
  ak 329 [vL 5 a,.fn (.func 330) [] [.aA 0 0]] [.cells [.fn (.func 274) [] []]] r h:=.of func329 PH H
def PJ:bq:={}
def PL(a:Rw){r h}(H:∃b,ak 359 [vL 6 a,.fn (.func 338) [] []] [] [vN b] []/\Fi r h [vB (decide (b>=0))] []):
  ak 337 [vL 6 a,.fn (.func 338) [] []] [] r h:=.of func337 PJ H
def py(a:Rw)(b c d e:Int)(f:Bool)(g i:Int):St:=⟨aM 19 [(0,vL 5 a),(1,.fn (.func 290) [] [.aA 0 0]),(7,vN b),(8,vN c)],[],[.cells [vN d,vN e,vB f,vW g,vW i]]⟩
def GH:bq:={an:=[(4,4,ah)],cut:=[(2,{bl:=[0,1,7,8]})]}
def PM(a:Rw)(b c:Int)(d:Bool)(e f:Int){r h}(H:Lp f342 0 (py a (a.length:Int) 0 b c d e f) 1 r h):
  ak 342 [vL 5 a,.fn (.func 290) [] [.aA 0 0]] [.cells [vN b,vN c,vB d,vW e,vW f]] r h:=.of func342 GH H
def JB(g:Rw)(i a b c:Int)(d:Bool)(e f:Int){r h}(H:ay (decide (a<i)) (ny g a fun k l m n o=>∃j,ak 290 [.agg [N k,N l,B m,W n,W o],.aA 0 0] [.cells [vN b,vN c,vB d,vW e,vW f]] [vB j] [.cells [vN b,vN c,vB d,vW e,vW f]]/\ay j (Fi r h [vN a] [.cells [vN b,vN c,vB d,vW e,vW f]])
 (bh .i64 (a+1)/\Lp f342 0 (py g i (a+1) b c d e f) 1 r h))
 (Fi r h [vN (-1)] [.cells [vN b,vN c,vB d,vW e,vW f]])):
  Lp f342 0 (py g i a b c d e f) 1 r h:=.of GH H
def pz(a:Rw)(b c:Int)(d:Rw):St:=⟨aM 19 [(0,vL 5 a),(1,.fn (.func 294) [] [.aA 0 0]),(7,vN b),(8,vN c)],[],[.cells [vL 5 d]]⟩
def GI:bq:={an:=[(4,4,ah)],cut:=[(2,{bl:=[0,1,7,8]})]}
def PN(a b:Rw){r h}(H:Lp f342 0 (pz a (a.length:Int) 0 b) 1 r h):
  ak 342 [vL 5 a,.fn (.func 294) [] [.aA 0 0]] [.cells [vL 5 b]] r h:=.of func342 GI H
def JC(c:Rw)(d a:Int)(b:Rw){r h}(H:ay (decide (a<d)) (ny c a fun f g i j k=>∃e,ak 294 [.agg [N f,N g,B i,W j,W k],.aA 0 0] [.cells [vL 5 b]] [vB e] [.cells [vL 5 b]]/\ay e (Fi r h [vN a] [.cells [vL 5 b]])
 (bh .i64 (a+1)/\Lp f342 0 (pz c d (a+1) b) 1 r h))
 (Fi r h [vN (-1)] [.cells [vL 5 b]])):
  Lp f342 0 (pz c d a b) 1 r h:=.of GI H
def Ed(a:Rw)(b c d e:Int)(f:Bool)(g i:Int):St:=⟨aM 19 [(0,vL 5 a),(3,.aA 0 0),(7,vN b),(8,vN c)],[],[.cells [vN d,vN e,vB f,vW g,vW i]]⟩
def Y4:bq:={an:=[(4,4,ah)],cut:=[(2,{bl:=[0,3,7,8]})]}
def acN(a:Rw)(b c:Int)(d:Bool)(e f:Int){r h}(H:Lp f343 0 (Ed a (a.length:Int) 0 b c d e f) 0 r h):
  ak 343 [vL 5 a,.agg [N b,N c,B d,W e,W f]] [] r h:=.of func343 Y4 H
def W5(b:Rw)(c a d e:Int)(f:Bool)(g i:Int){r h}(H:ay (decide (a<c)) (ny b a fun j k l m n=>ay (((((true&&(d==j))&&(e==k))&&(f==l))&&(g==m))&&(i==n)) (Fi r h [vN a] [])
 (bh .i64 (a+1)/\Lp f343 0 (Ed b c (a+1) d e f g i) 0 r h))
 (Fi r h [vN (-1)] [])):
  Lp f343 0 (Ed b c a d e f g i) 0 r h:=.of Y4 H
def Ee(a b c:Int)(d:Rw):St:=⟨aM 76 [(0,.bo 0),(2,vN a),(3,vN b),(8,vN c)],[],[.bc 1 d]⟩
def y6(a b c d:Int)(e:Rw):St:=⟨aM 76 [(0,.bo 0),(2,vN a),(3,vN b),(8,vN c),(9,vN d)],[],[.bc 1 e]⟩
def Xa:bq:={an:=[(3,9,aQ),(3,16,aQ),(3,18,ah),(5,4,aQ),(5,10,aQ),(5,12,ah),(6,12,aQ),(6,18,aQ),(6,20,aQ),(6,22,aQ)],cut:=[(1,{bl:=[0,2,3,8],iu:=[(0,1)]})],join:=[(5,{bl:=[0,2,3,8,9],iu:=[(0,1)]})]}
def acO(a:Rw)(b c d:Int){r h}(H:Lp f344 0 (Ee c d b a) 1 r h):
  ak 344 [.bo 0,vN b,vN c,vN d] [.bc 1 a] r h:=.of func344 Xa H
def Xb(d b a:Int)(c:Rw){r h}(H:bh .i64 ((2:Int)*a)/\bh .i64 (((2:Int)*a)+1)/\ay (decide ((((2:Int)*a)+1)>=d)) (Fi r h [] [.bc 1 c])
 (bh .i64 ((((2:Int)*a)+1)+1)/\ay (decide (((((2:Int)*a)+1)+1)<d)) (bh .i64 (b+(((2:Int)*a)+1))/\(0<=(b+(((2:Int)*a)+1))/\(b+(((2:Int)*a)+1))<(c.length:Int))/\∃e,(c[Int.toNat (b+(((2:Int)*a)+1))]?).bind (·[0]?)=some (W e)/\bh .i64 (b+(((2:Int)*a)+1))/\bh .i64 ((b+(((2:Int)*a)+1))+1)/\(0<=((b+(((2:Int)*a)+1))+1)/\((b+(((2:Int)*a)+1))+1)<(c.length:Int))/\∃f,(c[Int.toNat ((b+(((2:Int)*a)+1))+1)]?).bind (·[0]?)=some (W f)/\∃g,ak 302 [vW e,vW f] [] [vB g] []/\ay g (bh .i64 ((((2:Int)*a)+1)+1)/\Rp f344 5 (y6 d b a ((((2:Int)*a)+1)+1) c) 1 r h)
 (Rp f344 5 (y6 d b a (((2:Int)*a)+1) c) 1 r h)) (Rp f344 5 (y6 d b a (((2:Int)*a)+1) c) 1 r h))):
  Lp f344 0 (Ee d b a c) 1 r h:=.of Xa H
def Xc(f a b c:Int)(d:Rw){r h}(H:bh .i64 (a+b)/\(0<=(a+b)/\(a+b)<(d.length:Int))/\∃g,(d[Int.toNat (a+b)]?).bind (·[0]?)=some (W g)/\bh .i64 (a+c)/\(0<=(a+c)/\(a+c)<(d.length:Int))/\∃i,(d[Int.toNat (a+c)]?).bind (·[0]?)=some (W i)/\∃j,ak 302 [vW g,vW i] [] [vB j] []/\ay (!j) (Fi r h [] [.bc 1 d])
 (bh .i64 (a+b)/\bh .i64 (a+c)/\bh .i64 (a+c)/\(0<=(a+c)/\(a+c)<(d.length:Int))/\∃e,(d[Int.toNat (a+c)]?).bind (·[0]?)=some (W e)/\bh .i64 (a+b)/\(0<=(a+b)/\(a+b)<(d.length:Int))/\∃k,(d[Int.toNat (a+b)]?).bind (·[0]?)=some (W k)/\(0<=(a+b)/\(a+b)<(d.length:Int))/\0+1<=1/\(0<=(a+c)/\(a+c)<((setRow d (Int.toNat (a+b)) 0 [W e]).length:Int))/\0+1<=1/\Lp f344 0 (Ee f a c (setRow (setRow d (Int.toNat (a+b)) 0 [W e]) (Int.toNat (a+c)) 0 [W k])) 1 r h)):
  Rp f344 5 (y6 f a b c d) 1 r h:=xm.of Xa H
def acP:bq:={an:=[(1,2,ah)]}
def acQ(b:Int){r h}(H:∃a,ak 233 [vU (IntKind.wrap .u64 b)] [] [vN a] []/\0<=a/\Fi r h [vU (IntKind.wrap .u64 ((1:Int)*2^(min (Int.toNat a) (IntKind.bits .u64))))] []):
  ak 345 [vN b] [] r h:=.of func345 acP H
def acR:bq:={}
def acS(a:Int){r h}(H:0<=(13:Int)/\0<=(7:Int)/\0<=(17:Int)/\Fi r h [vU (cF .xor .u64 (cF .xor .u64 (cF .xor .u64 a (IntKind.wrap .u64 (a*2^(min (Int.toNat 13) (IntKind.bits .u64))))) (Int.fdiv (cF .xor .u64 a (IntKind.wrap .u64 (a*2^(min (Int.toNat 13) (IntKind.bits .u64))))) (2^(min (Int.toNat 7) (IntKind.bits .u64))))) (IntKind.wrap .u64 ((cF .xor .u64 (cF .xor .u64 a (IntKind.wrap .u64 (a*2^(min (Int.toNat 13) (IntKind.bits .u64))))) (Int.fdiv (cF .xor .u64 a (IntKind.wrap .u64 (a*2^(min (Int.toNat 13) (IntKind.bits .u64))))) (2^(min (Int.toNat 7) (IntKind.bits .u64)))))*2^(min (Int.toNat 17) (IntKind.bits .u64)))))] [.cells [vU (cF .xor .u64 (cF .xor .u64 (cF .xor .u64 a (IntKind.wrap .u64 (a*2^(min (Int.toNat 13) (IntKind.bits .u64))))) (Int.fdiv (cF .xor .u64 a (IntKind.wrap .u64 (a*2^(min (Int.toNat 13) (IntKind.bits .u64))))) (2^(min (Int.toNat 7) (IntKind.bits .u64))))) (IntKind.wrap .u64 ((cF .xor .u64 (cF .xor .u64 a (IntKind.wrap .u64 (a*2^(min (Int.toNat 13) (IntKind.bits .u64))))) (Int.fdiv (cF .xor .u64 a (IntKind.wrap .u64 (a*2^(min (Int.toNat 13) (IntKind.bits .u64))))) (2^(min (Int.toNat 7) (IntKind.bits .u64)))))*2^(min (Int.toNat 17) (IntKind.bits .u64)))))]]):
  ak 346 [.aA 0 0] [.cells [vU a]] r h:=.of func346 acR H
def acT:bq:={mod:=[(1,7,[(1,[0])])]}
def acU(b:Rw)(a c:Int){r h}(H:bh .i64 (a-1)/\bh .i64 (a+1)/\∃d e,ak 348 [.bo 0,vN (a-1),vN a,vN (a+1),.aA 1 0] [.bc 1 b,.cells [vN c]] [vN d] [.bc 1 b,.cells [vN e]]/\Fi r h [vN d] [.bc 1 b,.cells [vN e]]):
  ak 347 [.bo 0,vN a,.aA 1 0] [.bc 1 b,.cells [vN c]] r h:=.of func347 acT H
def acV:bq:={mod:=[(1,4,[(1,[0])]),(2,4,[(1,[0])]),(3,4,[(1,[0])])]}
def acW(a:Rw)(b c d e:Int){r h}(H:∃f g i,ak 360 [.bo 0,vN b,vN c,.aA 1 0] [.bc 1 a,.cells [vN e]] [vN f,vN g] [.bc 1 a,.cells [vN i]]/\∃j n k,ak 360 [.bo 0,vN g,vN d,.aA 1 0] [.bc 1 a,.cells [vN i]] [vN j,vN n] [.bc 1 a,.cells [vN k]]/\∃o l m,ak 360 [.bo 0,vN f,vN j,.aA 1 0] [.bc 1 a,.cells [vN k]] [vN o,vN l] [.bc 1 a,.cells [vN m]]/\Fi r h [vN l] [.bc 1 a,.cells [vN m]]):
  ak 348 [.bo 0,vN b,vN c,vN d,.aA 1 0] [.bc 1 a,.cells [vN e]] r h:=.of func348 acV H
def pA(a:Rw)(b c:Int):St:=⟨aM 19 [(0,vL 5 a),(1,.fn (.func 330) [] [.aA 0 0]),(7,vN b),(8,vN c)],[],[.cells [.fn (.func 274) [] []]]⟩
def GJ:bq:={an:=[(4,4,ah)],cut:=[(2,{bl:=[0,1,7,8]})]}
def PO(a:Rw){r h}(H:Lp f356 0 (pA a (a.length:Int) 0) 1 r h):
  ak 356 [vL 5 a,.fn (.func 330) [] [.aA 0 0]] [.cells [.fn (.func 274) [] []]] r h:=.of func356 GJ H
def JD(b:Rw)(c a:Int){r h}(H:ay (decide (a<c)) (bu b a fun e f g i j=>∃d,ak 330 [.agg [N e,S f,S g,U i,L 5 j],.aA 0 0] [.cells [.fn (.func 274) [] []]] [vB d] [.cells [.fn (.func 274) [] []]]/\ay d (Fi r h [vN a] [.cells [.fn (.func 274) [] []]])
 (bh .i64 (a+1)/\Lp f356 0 (pA b c (a+1)) 1 r h))
 (Fi r h [vN (-1)] [.cells [.fn (.func 274) [] []]])):
  Lp f356 0 (pA b c a) 1 r h:=.of GJ H
def JE(a:Rw)(b:Int)(c:Rw)(d e:Int):St:=⟨aM 36 [(0,vL 1 a),(3,vN b),(9,vL 1 c),(10,vN d),(11,vN e)],[],[]⟩
def JF(a b:Rw)(c d:Int):St:=⟨aM 36 [(6,.own 0 0 4 a),(25,vL 1 b),(26,vN c),(27,vN d)],[some 0],[]⟩
def Xd:bq:={an:=[(4,1,ah),(9,1,{fz:=true,bA:=true,cons:=[99]}),(12,1,ah)],cut:=[(11,{bl:=[6,25,26,27],dw:=[(6,4)],owns:=[6]}),(3,{bl:=[0,3,9,10,11]})]}
def acX(a:Rw){r h}(H:Lp f358 0 (JE a 0 a (a.length:Int) 0) 0 r h):
  ak 358 [vL 1 a] [] r h:=.of func358 Xd H
def JG(c:Rw)(a:Int)(d:Rw)(e b:Int){r h}(H:ay (decide (b<e)) (OL d b fun f=>bh .i64 (a+(f.length:Int))/\ay (decide ((a+(f.length:Int))<0)) (False)
 (bh .i64 (b+1)/\Lp f358 0 (JE c (a+(f.length:Int)) d e (b+1)) 0 r h))
 (∃g,ak 364 [.v .nil,vN a] [] [.own 0 0 4 g] []/\Lp f358 1 (JF g c (c.length:Int) 0) 0 r h)):
  Lp f358 0 (JE c a d e b) 0 r h:=.of Xd H
def JH(b c:Rw)(d a:Int){r h}(H:ay (decide (a<d)) (OL c a fun e=>(b++e).length*32<=2^47/\bh .i64 (a+1)/\Lp f358 1 (JF (b++e) c d (a+1)) 0 r h)
 (Fi r h [.own 0 0 4 b] [])):
  Lp f358 1 (JF b c d a) 0 r h:=.of Xd H
def pB(a:Rw)(b c:Int):St:=⟨aM 19 [(0,vL 6 a),(1,.fn (.func 338) [] []),(7,vN b),(8,vN c)],[],[]⟩
def GK:bq:={an:=[(4,4,ah)],cut:=[(2,{bl:=[0,1,7,8]})]}
def PQ(a:Rw){r h}(H:Lp f359 0 (pB a (a.length:Int) 0) 0 r h):
  ak 359 [vL 6 a,.fn (.func 338) [] []] [] r h:=.of func359 GK H
def JI(b:Rw)(c a:Int){r h}(H:ay (decide (a<c)) (rV b a fun e f g i j k=>∃d,ak 338 [.agg [N e,N f,N g,U i,U j,L 6 k]] [] [vB d] []/\ay d (Fi r h [vN a] [])
 (bh .i64 (a+1)/\Lp f359 0 (pB b c (a+1)) 0 r h))
 (Fi r h [vN (-1)] [])):
  Lp f359 0 (pB b c a) 0 r h:=.of GK H
def acY:bq:={an:=[(1,2,aQ),(1,6,aQ),(1,8,ah)]}
def Y5(a:Rw)(b c d:Int){r h}(H:(0<=c/\c<(a.length:Int))/\∃e,(a[Int.toNat c]?).bind (·[0]?)=some (W e)/\(0<=b/\b<(a.length:Int))/\∃f,(a[Int.toNat b]?).bind (·[0]?)=some (W f)/\∃g,ak 302 [vW e,vW f] [] [vB g] []/\ay g (bh .i64 (d+1)/\Fi r h [vN c,vN b] [.bc 1 a,.cells [vN (d+1)]])
 (Fi r h [vN b,vN c] [.bc 1 a,.cells [vN d]])):
  ak 360 [.bo 0,vN b,vN c,.aA 1 0] [.bc 1 a,.cells [vN d]] r h:=.of func360 acY H
def acZ:bq:={an:=[(1,1,ah),(1,4,ah),(1,8,aa),(1,9,aa),(1,10,aa)]}
def ac0(a b:Int){r h}(H:∃c,ak 349 [vW a] [] [vB c] []/\ay c (∃d,ak 349 [vW b] [] [vB d] []/\Fi r h [vB (bif(!d)then true else(decide (a<b)))] []) (Fi r h [vB (bif false then true else(decide (a<b)))] [])):
  ak 302 [vW a,vW b] [] r h:=.of func302 acZ H
def ac1:bq:={}
def ac2(a:Int){r h}(H:Fi r h [vB (a !=a)] []):
  ak 349 [vW a] [] r h:=.of func349 ac1 H
section
open Go.Sort (ltInt swp swp_size PermIn SortedIn)
def rA(d:Array Int):Rw:=d.toList.map fun x=>[W x]
def PR(d:Array Int):((rA d).length:Int)=d.size:=by simp[rA]
def Xe{d:Array Int}{i:Nat}(h:i<d.size):((rA d)[i]?).bind (·[0]?)=some (W d[i]!):=by
 simp[rA,h]
def TI(l:Rw)(i:Nat)(p:List PV):((setRow l i 0 p).length:Int)=l.length:=by simp[setRow]
def PS(d:Array Int)(i:Nat)(x:Int):setRow (rA d) i 0 [W x]=rA (d.setIfInBounds i x):=by
 unfold setRow rA;apply eR;intro j;rw[Df];simp only[bp,gR,Array.getElem?_setIfInBounds];by_cases h:i=j
 .subst h
  by_cases a:i<d.size
  .simp[a,putAt]
  .simp[a]
 .simp[h]
def dB{d:Array Int}{n:Int}{i:Nat}(b:n=i)(a:i<d.size){P:Int->Prop}(c:P d[i]!):
  (0<=n/\n<((rA d).length:Int))/\∃x,((rA d)[Int.toNat n]?).bind (·[0]?)=some (W x)/\P x:=by
 subst b;exact⟨by rw[PR];omega,_,Xe a,c⟩
def jo{d:Array Int}{n m:Int}{i j:Nat}(b:n=i)(a:m=j):setRow (setRow (rA d) (Int.toNat n) 0 [W d[j]!]) (Int.toNat m) 0 [W d[i]!]=rA (swp d i j):=by
 subst b a;rw[PS,PS];rfl
def ta{d:Array Int}{n m:Int}{i j k:Nat}{y:PV}(e:n=i)(c:m=j)(a:i<d.size)(b:j<d.size){R:Prop}(h:R):
  (0<=n/\n<((rA d).length:Int))/\0+1<=1/\(0<=m/\m<((setRow (rA d) k 0 [y]).length:Int))/\0+1<=1/\R:=by
 rw[TI,PR];exact⟨by omega,by omega,by omega,by omega,h⟩
def Y6(x y:Int):ak 302 [vW x,vW y] [] [vB (ltInt x y)] []:=
 ac0 x y ⟨_,ac2 x fi,ae (fun h=>by simp at h) fun _=>fi⟩
def JJ{x y:Int}{A B:Prop}(a:ltInt x y=true->A)(b:ltInt x y=false->B):∃less,ak 302 [vW x,vW y] [] [vB less] []/\ay less A B:=
 ⟨_,Y6 x y,ae a b⟩
def Ef{x y:Int}{A B:Prop}(a:ltInt x y=false->A)(b:ltInt x y=true->B):∃less,ak 302 [vW x,vW y] [] [vB less] []/\ay (!less) A B:=
 ⟨_,Y6 x y,ae (fun h=>a (by simpa using h)) fun h=>b (by simpa using h)⟩
def nS(a:Nat):∀j(d:Array Int),(Sort.insInner ltInt a j d).size=d.size
 |0,_=>rfl
 |j+1,d=>by
  unfold Sort.insInner;split
  .rw[nS,swp_size]
  .rfl
def PT{a b i:Nat}{r:List AV}{h:List Bx}:∀(j:Nat)(d:Array Int),j<d.size->d.size<=2^40->i<2^40 ->
  Lp f296 0 (s8 a b ((i+1:Nat):Int) (rA (Sort.insInner ltInt a j d))) 1 r h->Lp f296 1 (D5 a b i j (rA d)) 1 r h
 |0,d,_,_,g,H=>Pw _ _ _ _ _ (ae (fun h=>by simp at h;omega) fun _=>⟨aB,H⟩)
 |j+1,d,e,l,g,H=>by
  have c:bh .i64 ((i:Int)+1)/\Lp f296 0 (s8 a b ((i:Int)+1) (rA (Sort.insInner ltInt a (j+1) d))) 1 r h:=⟨aB,H⟩;unfold Sort.insInner at c;refine Pw _ _ _ _ _ (ae (fun h=>?_) fun h=>?_)
  .have k:j+1>a:=by simp at h;omega
   refine dB (i:=j+1) rfl e ⟨aB,dB (i:=j) (by omega) (by omega) (JJ (fun f=>?_) fun f=>?_)⟩
   .rw[aF (by simp[k,f])]at c
    refine⟨aB,aB,dB (i:=j) (by omega) (by omega) (dB (i:=j+1) rfl e (ta (i:=j+1) (j:=j) rfl (by omega) e (by omega) ⟨aB,?_⟩))⟩
    rw[jo (i:=j+1) (j:=j) rfl (by omega),show((j+1:Nat):Int)-1=j by omega]
    exact PT j _ (by rw[swp_size];omega) (by rw[swp_size];omega) g c.2
   .rw[aI (by simp[f])]at c
    exact c
  .rw[aI (by simp at h;simp;omega)]at c
   exact c
def KZ{a b:Nat}:∀(n i:Nat)(d:Array Int),b-i<=n->0<i->b<=d.size->d.size<=2^40->i<=2^40+1 ->
  Lp f296 0 (s8 a b i (rA d)) 1 [] [.bc 1 (rA (Sort.insOuter ltInt a b i d))]
 |n,i,d,e,j,g,f,k=>by
  unfold Sort.insOuter;by_cases h:i<b
  .rw[aF h]
   refine Pv _ _ _ _ (ae (fun _=>PT i d (by omega) f (by omega) ?_) fun c=>by simp at c;omega)
   match n,e with
   |0,e=>omega
   |n+1,e=>exact KZ n (i+1) _ (by omega) (by omega) (by rw[nS];exact g) (by rw[nS];exact f) (by omega)
  .rw[aI h]
   exact Pv _ _ _ _ (ae (fun c=>by simp at c;omega) fun _=>fi)
def ac3{a b:Nat}{d:Array Int}(c:b<=d.size)(e:d.size<=2^40)(f:a<=b):ak 296 [.bo 0,vN a,vN b] [.bc 1 (rA d)] [] [.bc 1 (rA (Sort.insertionSort ltInt d a b))]:=
 acE _ _ _ ⟨aB,KZ _ (a+1) d (ar _) (by omega) c e (by omega)⟩
def PU{b:Nat}:∀(n i j:Nat)(d:Array Int),j-i<=n->j<d.size->i<=d.size->d.size<=2^40 ->
  Lp f300 0 (D8 i j (rA d)) 1 [] [.bc 1 (rA (Sort.reverseLoop i j d))]
 |n,i,j,d,c,e,g,f=>by
  unfold Sort.reverseLoop;by_cases h:i<j
  .rw[aF h]
   refine PA _ _ _ (ae (fun _=>dB (i:=j) rfl e (dB (i:=i) rfl (by omega) (ta (i:=i) (j:=j) rfl rfl (by omega) e ⟨aB,aB,?_⟩))) fun a=>by simp at a;omega)
   rw[jo (i:=i) (j:=j) rfl rfl,show(j:Int)-1=((j-1:Nat):Int) by omega]
   match n,c with
   |0,c=>omega
   |n+1,c=>exact PU (b:=b) n (i+1) (j-1) _ (by omega) (by rw[swp_size];omega) (by rw[swp_size];omega) (by rw[swp_size];exact f)
  .rw[aI h]
   exact PA _ _ _ (ae (fun a=>by simp at a;omega) fun _=>fi)
def ac4{a b:Nat}{d:Array Int}(f:b<=d.size)(c:d.size<=2^40)(e:a<b):ak 300 [.bo 0,vN a,vN b] [.bc 1 (rA d)] [] [.bc 1 (rA (Sort.reverseRange d a b))]:=
 acI _ _ _ ⟨aB,by
  rw[show(b:Int)-1=((b-1:Nat):Int) by omega]
  exact PU (b:=b) _ _ _ d (ar _) (by omega) (by omega) c⟩
def nT(a first:Nat):∀(n root:Nat)(d:Array Int),a-root<=n->(Sort.siftDown ltInt a first root d).size=d.size
 |n,root,d,b=>by
  unfold Sort.siftDown;split
  .rfl
  .match n,b with
   |0,b=>omega
   |n+1,b=>
    split
    .split
     .rfl
     .split
      .rw[nT a first n _ _ (by omega),swp_size]
      .rfl
    .split
     .rfl
     .rw[nT a first n _ _ (by omega),swp_size]
def K0{a first:Nat}:∀(n root:Nat)(d:Array Int),a-root<=n->first+a<=d.size->root<=d.size->d.size<=2^40 ->
  Lp f344 0 (Ee a first root (rA d)) 1 [] [.bc 1 (rA (Sort.siftDown ltInt a first root d))]
 |n,root,d,f,s,v,q=>by
  have key:∀(c:Nat),c<a->root<c->first+root<d.size ->
    Rp f344 5 (y6 a first root c (rA d)) 1 [] [.bc 1 (rA (if !ltInt d[first+root]! d[first+c]! then d else Sort.siftDown ltInt a first c (swp d (first+root) (first+c))))]:=by
   intro c u w k;refine Xc _ _ _ _ _ ⟨aB,dB (i:=first+root) (by omega) k ⟨aB,dB (i:=first+c) (by omega) (by omega) (Ef (fun b=>?_) fun b=>?_)⟩⟩
   .rw[b];exact fi
   .rw[b]
    refine⟨aB,aB,aB,dB (i:=first+c) (by omega) (by omega) ⟨aB,dB (i:=first+root) (by omega) k (ta (i:=first+root) (j:=first+c) (by omega) (by omega) k (by omega) ?_)⟩⟩
    rw[jo (i:=first+root) (j:=first+c) (by omega) (by omega)]
    match n,f with
    |0,f=>omega
    |n+1,f=>exact K0 n c _ (by omega) (by rw[swp_size];exact s) (by rw[swp_size];omega) (by rw[swp_size];exact q)
  unfold Sort.siftDown;refine Xb _ _ _ _ ⟨aB,aB,ae (fun h=>?_) fun h=>⟨aB,?_⟩⟩
  .rw[dif_pos (by simp at h;omega)];exact fi
  .have p:¬2*root+1>=a:=by simp at h;omega
   rw[dif_neg p];have g:=key (2*root+1) (by omega) (by omega) (by omega)
   have m:((2*root+1:Nat):Int)=(2:Int)*root+1:=by omega
   rw[m]at g;refine ae (fun e=>?_) fun e=>?_
   .have t:2*root+2<a:=by simp at e;omega
    have l:=key (2*root+2) (by omega) (by omega) (by omega)
    have o:((2*root+2:Nat):Int)=(2:Int)*root+1+1:=by omega
    rw[o]at l;refine⟨aB,dB (i:=first+(2*root+1)) (by omega) (by omega) ⟨aB,aB,dB (i:=first+(2*root+1)+1) (by omega) (by omega) (JJ (fun b=>⟨aB,?_⟩) fun b=>?_)⟩⟩
    .rw[aF (by simp[b];omega),dif_pos t]
     exact l
    .rw[aI (by simp[b])]
     exact g
   .rw[aI (by simp at e;simp;omega)]
    exact g
def Y7{lo a first:Nat}{d:Array Int}(e:first+a<=d.size)(c:lo<=d.size)(b:d.size<=2^40):ak 344 [.bo 0,vN lo,vN a,vN first] [.bc 1 (rA d)] [] [.bc 1 (rA (Sort.siftDown ltInt a first lo d))]:=
 acO _ _ _ _ (K0 _ _ _ (ar _) e c b)
def uG(a first root:Nat)(d:Array Int):(Sort.siftDown ltInt a first root d).size=d.size:=nT a first _ root d (ar _)
def GL{a:Nat}:∀(k:Nat)(d:Array Int),a+k<=d.size->d.size<=2^40 ->
  Lp f297 1 (D7 a 0 ((k:Int)-1) (rA d)) 1 [] [.bc 1 (rA (Sort.heapPop ltInt a k d))]
 |0,d,_,_=>Py _ _ _ _ (ae (fun h=>by simp at h) fun _=>fi)
 |k+1,d,c,b=>by
  have e:((k+1:Nat):Int)-1=k:=by omega
  rw[e];refine Py _ _ _ _ (ae (fun _=>⟨aB,aB,dB (i:=a+k) (by omega) (by omega) (dB (i:=a) rfl (by omega) (ta (i:=a) (j:=a+k) rfl (by omega) (by omega) (by omega) ⟨rA (Sort.siftDown ltInt k a 0 (swp d a (a+k))),?_,aB,?_⟩))⟩) fun h=>absurd h (by simp))
  .rw[jo (i:=a) (j:=a+k) rfl (by omega)]
   exact Y7 (lo:=0) (by rw[swp_size];omega) (by omega) (by rw[swp_size];exact b)
  .exact GL k _ (by rw[uG,swp_size];omega) (by rw[uG,swp_size];exact b)
def y7{a n:Nat}:∀(k:Nat)(d:Array Int),a+n<=d.size->d.size<=2^40->k<=d.size ->
  Lp f297 0 (D6 a 0 n ((k:Int)-1) (rA d)) 1 [] [.bc 1 (rA (Sort.heapPop ltInt a n (Sort.heapBuild ltInt n a k d)))]
 |0,d,c,b,_=>Px _ _ _ _ _ (ae (fun h=>by simp at h) fun _=>⟨aB,GL n d c b⟩)
 |k+1,d,c,b,f=>by
  have e:((k+1:Nat):Int)-1=k:=by omega
  rw[e];exact Px _ _ _ _ _ (ae (fun _=>⟨_,Y7 (lo:=k) c (by omega) b,aB,y7 k _ (by rw[uG];exact c) (by rw[uG];exact b) (by rw[uG];omega)⟩) fun h=>absurd h (by simp))
def ac5{a b:Nat}{d:Array Int}(g:b<=d.size)(c:d.size<=2^40)(f:a<b):ak 297 [.bo 0,vN a,vN b] [.bc 1 (rA d)] [] [.bc 1 (rA (Sort.heapSort ltInt d a b))]:=by
 refine acF _ _ _ ⟨aB,aB,by decide,?_⟩
 have e:IntKind.wrap .i64 (Int.tdiv ((b:Int)-a-1) 2)=(((b-a-1)/2+1:Nat):Int)-1:=by
  rw[xN (by omega),qu aB]
  omega
 rw[e,show(b:Int)-a=((b-a:Nat):Int) by omega]
 exact y7 _ d (by omega) c (by omega)
end
section
open Go.Sort (ltInt swp swp_size PermIn SortedIn scanUp scanDown scanUp_ge scanDown_le)
def r6{a i:Nat}{d:Array Int}{q:Int->Bool}{Go At:Nat->Prop}(g:1<=i)(f:d.size<=2^40)
  (step:∀j:Nat,j<d.size->ay (decide ((i:Int)<=j)) ((q d[j]! = true->bh .i64 ((j:Int)-1)/\(1<=j->Go (j-1)))/\(q d[j]! = false->At j)) (At j)->Go j):∀(j:Nat),j<d.size->At (scanDown q d i j)->Go j
 |0,c,H=>step 0 c (ae (fun b=>by simp at b;omega) fun _=>H)
 |j+1,c,H=>by
  unfold scanDown at H;refine step _ c (ae (fun b=>⟨fun e=>⟨aB,fun _=>?_⟩,fun e=>?_⟩) fun b=>?_)
  .have b:i<=j+1:=by simp at b;omega
   rw[aF (by simp[b,e])]at H
   exact r6 (a:=a) g f step j (by omega) H
  .rw[aI (by simp[e])]at H
   exact H
  .rw[aI (by simp at b;simp;omega)]at H
   exact H
def xU{j:Nat}{d:Array Int}{p:Int->Bool}{Go At:Nat->Prop}(f:j<d.size)(e:d.size<=2^40)
  (step:∀i:Nat,ay (decide ((i:Int)<=j)) ((p d[i]! = true->bh .i64 ((i:Int)+1)/\Go (i+1))/\(p d[i]! = false->At i)) (At i)->Go i):∀(n i:Nat),j+1-i<=n->At (scanUp p d j i)->Go i
 |n,i,b,H=>by
  unfold scanUp at H;refine step i (ae (fun a=>?_) fun a=>?_)
  .have a:i<=j:=by simp at a;omega
   refine⟨fun c=>⟨aB,?_⟩,fun c=>?_⟩
   .rw[aF (by simp[a,c])]at H
    match n,b with
    |0,b=>omega
    |n+1,b=>exact xU f e step n (i+1) (by omega) H
   .rw[aI (by simp[c])]at H
    exact H
  .rw[aI (by simp at a;simp;omega)]at H
   exact H
def r7{b:Bool}{x y a c:Prop}(h:ay b x y)(d:b=true->x->a)(e:b=false->y->c):ay b a c:=by cases b;exact e rfl h;exact d rfl h
def PW{a i j:Nat}{d:Array Int}{r:List AV}{h:List Bx}(g:a<d.size)(t:1<=i)(c:j<d.size)(k:d.size<=2^40)
  (H:∀f l,f=scanUp (fun x => !ltInt d[a]! x) d j i->l=scanDown (fun x=>ltInt d[a]! x) d f j->Rp f303 7 (yY a f l (rA d)) 1 r h):
  Rp f303 3 (s9 a i j (rA d)) 1 r h:=by
 have s:=scanUp_ge (fun x => !ltInt d[a]! x) d j i
 refine xU (p:=fun x => !ltInt d[a]! x) (Go:=fun i=>Rp f303 3 (s9 a i j (rA d)) 1 r h) (At:=fun i=>Lp f303 2 (vM a i j (rA d)) 1 r h) c k
  (fun i H=>WS _ _ _ _ (r7 H (fun e H=>dB (i:=a) rfl g (dB (i:=i) rfl (by simp at e;omega) (Ef (fun b=>H.1 (by simp[b])) fun b=>H.2 (by simp[b])))) fun _ H=>H)) _ i (ar _) ?_
 refine r6 (a:=a) (q:=fun x=>ltInt d[a]! x) (Go:=fun j=>Lp f303 2 (vM a (scanUp (fun x => !ltInt d[a]! x) d _ i:Nat) j (rA d)) 1 r h) (At:=fun j=>Rp f303 7 (yY a _ j (rA d)) 1 r h) (by omega) k
  (fun j c H=>WT _ _ _ _ (r7 H (fun e H=>dB (i:=a) rfl g (dB (i:=j) rfl c (JJ (fun b=>?_) fun b=>H.2 (by simp[b])))) fun _ H=>H)) j c (H _ _ rfl rfl)
 obtain⟨m,n⟩:=H.1 b;refine⟨m,?_⟩;have o:1<=j:=by simp at e;omega
 rw[show(j:Int)-1=((j-1:Nat):Int) by omega]
 exact n o
def K2{a:Nat}:∀(n i j:Nat)(d:Array Int),j+1-i<=n->a<i->a<d.size->j<d.size->d.size<=2^40 ->
  Rp f303 3 (s9 a i j (rA d)) 1 [vN (Sort.partEqLoop ltInt a i j d).1] [.bc 1 (rA (Sort.partEqLoop ltInt a i j d).2)]
 |n,i,j,d,e,q,o,p,k=>by
  refine PW o (by omega) p k fun c b f g=>?_
  have l:=scanUp_ge (fun x => !ltInt d[a]! x) d j i
  have m:=scanDown_le (fun x=>ltInt d[a]! x) d c j
  rw[Sort.partEqLoop_eq,<-f,<-g];rw[<-f]at l;rw[<-g]at m;refine WU _ _ _ _ (ae (fun h=>?_) fun h=>?_)
  .rw[aF (by simp at h;omega)]
   exact fi
  .have h:c<=b:=by simp at h;omega
   rw[aI (by omega)]
   refine dB (i:=b) rfl (by omega) (dB (i:=c) rfl (by omega) (ta (i:=c) (j:=b) rfl rfl (by omega) (by omega) ⟨aB,aB,?_⟩))
   rw[jo (i:=c) (j:=b) rfl rfl,show(b:Int)-1=((b-1:Nat):Int) by omega]
   match n,e with
   |0,e=>omega
   |n+1,e=>exact K2 n (c+1) (b-1) _ (by omega) (by omega) (by rw[swp_size];omega) (by rw[swp_size];omega) (by rw[swp_size];exact k)
def ac6{a b p:Nat}{d:Array Int}(f:b<=d.size)(c:d.size<=2^40)(e:a<=p)(g:p<b):
  ak 303 [.bo 0,vN a,vN b,vN p] [.bc 1 (rA d)] [vN (Sort.partitionEqual ltInt d a b p).1] [.bc 1 (rA (Sort.partitionEqual ltInt d a b p).2)]:=by
 refine acK _ _ _ _ (dB (i:=p) rfl (by omega) (dB (i:=a) rfl (by omega) (ta (i:=a) (j:=p) rfl rfl (by omega) (by omega) ⟨aB,aB,?_⟩)))
 rw[jo (i:=a) (j:=p) rfl rfl,show(b:Int)-1=((b-1:Nat):Int) by omega]
 exact K2 _ (a+1) (b-1) _ (ar _) (by omega) (by rw[swp_size];omega) (by rw[swp_size];omega) (by rw[swp_size];exact c)
def Nb{a i j:Nat}{d:Array Int}{r:List AV}{h:List Bx}(g:a<d.size)(t:1<=i)(c:j<d.size)(k:d.size<=2^40)
  (H:∀f l,f=scanUp (fun x=>ltInt x d[a]!) d j i->l=scanDown (fun x => !ltInt x d[a]!) d f j->Rp f304 7 (y5 a f l (rA d)) 1 r h):
  Lp f304 0 (yZ a i j (rA d)) 1 r h:=by
 have s:=scanUp_ge (fun x=>ltInt x d[a]!) d j i
 refine xU (p:=fun x=>ltInt x d[a]!) (Go:=fun i=>Lp f304 0 (yZ a i j (rA d)) 1 r h) (At:=fun i=>Lp f304 1 (vO a i j (rA d)) 1 r h) c k
  (fun i H=>WV _ _ _ _ (r7 H (fun e H=>dB (i:=i) rfl (by simp at e;omega) (dB (i:=a) rfl g (JJ (fun b=>H.1 (by simp[b])) fun b=>H.2 (by simp[b])))) fun _ H=>H)) _ i (ar _) ?_
 refine r6 (a:=a) (q:=fun x => !ltInt x d[a]!) (Go:=fun j=>Lp f304 1 (vO a (scanUp (fun x=>ltInt x d[a]!) d _ i:Nat) j (rA d)) 1 r h) (At:=fun j=>Rp f304 7 (y5 a _ j (rA d)) 1 r h) (by omega) k
  (fun j c H=>WX _ _ _ _ (r7 H (fun e H=>dB (i:=j) rfl c (dB (i:=a) rfl g (Ef (fun b=>?_) fun b=>H.2 (by simp[b])))) fun _ H=>H)) j c (H _ _ rfl rfl)
 obtain⟨m,n⟩:=H.1 (by simp[b])
 refine⟨m,?_⟩;have o:1<=j:=by simp at e;omega
 rw[show(j:Int)-1=((j-1:Nat):Int) by omega]
 exact n o
def Nc{a i j:Nat}{d:Array Int}{r:List AV}{h:List Bx}(g:a<d.size)(t:1<=i)(c:j<d.size)(k:d.size<=2^40)
  (H:∀f l,f=scanUp (fun x=>ltInt x d[a]!) d j i->l=scanDown (fun x => !ltInt x d[a]!) d f j->Rp f304 17 (uF a f l (rA d)) 1 r h):
  Rp f304 13 (pt a i j (rA d)) 1 r h:=by
 have s:=scanUp_ge (fun x=>ltInt x d[a]!) d j i
 refine xU (p:=fun x=>ltInt x d[a]!) (Go:=fun i=>Rp f304 13 (pt a i j (rA d)) 1 r h) (At:=fun i=>Lp f304 4 (vP a i j (rA d)) 1 r h) c k
  (fun i H=>TG _ _ _ _ (r7 H (fun e H=>dB (i:=i) rfl (by simp at e;omega) (dB (i:=a) rfl g (JJ (fun b=>H.1 (by simp[b])) fun b=>H.2 (by simp[b])))) fun _ H=>H)) _ i (ar _) ?_
 refine r6 (a:=a) (q:=fun x => !ltInt x d[a]!) (Go:=fun j=>Lp f304 4 (vP a (scanUp (fun x=>ltInt x d[a]!) d _ i:Nat) j (rA d)) 1 r h) (At:=fun j=>Rp f304 17 (uF a _ j (rA d)) 1 r h) (by omega) k
  (fun j c H=>WZ _ _ _ _ (r7 H (fun e H=>dB (i:=j) rfl c (dB (i:=a) rfl g (Ef (fun b=>?_) fun b=>H.2 (by simp[b])))) fun _ H=>H)) j c (H _ _ rfl rfl)
 obtain⟨m,n⟩:=H.1 (by simp[b])
 refine⟨m,?_⟩;have o:1<=j:=by simp at e;omega
 rw[show(j:Int)-1=((j-1:Nat):Int) by omega]
 exact n o
def K3{a:Nat}:∀(n i j:Nat)(d:Array Int),j+1-i<=n->a<i->a<d.size->j<d.size->d.size<=2^40 ->
  Rp f304 13 (pt a i j (rA d)) 1 [vN (Sort.partLoop ltInt a i j d).1,vB false] [.bc 1 (rA (swp (Sort.partLoop ltInt a i j d).2 (Sort.partLoop ltInt a i j d).1 a))]
 |n,i,j,d,f,q,e,p,l=>by
  refine Nc e (by omega) p l fun c b g k=>?_
  have m:=scanUp_ge (fun x=>ltInt x d[a]!) d j i
  have o:=scanDown_le (fun x => !ltInt x d[a]!) d c j
  rw[Sort.partLoop_eq,<-g,<-k];rw[<-g]at m;rw[<-k]at o;refine TH _ _ _ _ (ae (fun h=>?_) fun h=>?_)
  .rw[aF (by simp at h;omega)]
   refine dB (i:=a) rfl e (dB (i:=b) rfl (by omega) (ta (i:=b) (j:=a) rfl rfl (by omega) e (ai rfl ?_)))
   rw[jo (i:=b) (j:=a) rfl rfl]
  .have h:c<=b:=by simp at h;omega
   rw[aI (by omega)]
   refine dB (i:=b) rfl (by omega) (dB (i:=c) rfl (by omega) (ta (i:=c) (j:=b) rfl rfl (by omega) (by omega) ⟨aB,aB,?_⟩))
   rw[jo (i:=c) (j:=b) rfl rfl,show(b:Int)-1=((b-1:Nat):Int) by omega]
   match n,f with
   |0,f=>omega
   |n+1,f=>exact K3 n (c+1) (b-1) _ (by omega) (by omega) (by rw[swp_size];omega) (by rw[swp_size];omega) (by rw[swp_size];exact l)
def ac7{a b p:Nat}{d:Array Int}(o:b<=d.size)(q:d.size<=2^40)(n:a<=p)(s:p<b):
  ak 304 [.bo 0,vN a,vN b,vN p] [.bc 1 (rA d)] [vN (Sort.partition ltInt d a b p).1,vB (Sort.partition ltInt d a b p).2.1] [.bc 1 (rA (Sort.partition ltInt d a b p).2.2)]:=by
 refine acL _ _ _ _ (dB (i:=p) rfl (by omega) (dB (i:=a) rfl (by omega) (ta (i:=a) (j:=p) rfl rfl (by omega) (by omega) ⟨aB,aB,?_⟩)))
 rw[jo (i:=a) (j:=p) rfl rfl,show(b:Int)-1=((b-1:Nat):Int) by omega]
 unfold Sort.partition;generalize m:swp d a p=D;have t:D.size=d.size:=by rw[<-m,swp_size]
 refine Nb (i:=a+1) (j:=b-1) (by omega) (by omega) (by omega) (by omega) fun e c f g=>?_
 simp only[<-f,<-g];have k:=scanUp_ge (fun x=>ltInt x D[a]!) D (b-1) (a+1)
 have l:=scanDown_le (fun x => !ltInt x D[a]!) D e (b-1)
 rw[<-f]at k;rw[<-g]at l;refine WY _ _ _ _ (ae (fun h=>?_) fun h=>?_)
 .simp only[aF (show e>c by simp at h;omega)]
  refine dB (i:=a) rfl (by omega) (dB (i:=c) rfl (by omega) (ta (i:=c) (j:=a) rfl rfl (by omega) (by omega) (ai rfl ?_)))
  rw[jo (i:=c) (j:=a) rfl rfl]
 .have h:e<=c:=by simp at h;omega
  simp only[aI (show¬e>c by omega)]
  refine dB (i:=c) rfl (by omega) (dB (i:=e) rfl (by omega) (ta (i:=e) (j:=c) rfl rfl (by omega) (by omega) ⟨aB,aB,?_⟩))
  rw[jo (i:=e) (j:=c) rfl rfl,show(c:Int)-1=((c-1:Nat):Int) by omega]
  exact K3 _ (e+1) (c-1) _ (ar _) (by omega) (by rw[swp_size];omega) (by rw[swp_size];omega) (by rw[swp_size];omega)
def qS:∀j(d:Array Int),(Sort.shiftDown ltInt j d).size=d.size
 |0,_=>rfl
 |j+1,d=>by
  unfold Sort.shiftDown;split
  .rfl
  .rw[qS,swp_size]
def uH(b:Nat):∀n j(d:Array Int),b-j<=n->(Sort.shiftUp ltInt b j d).size=d.size
 |n,j,d,a=>by
  unfold Sort.shiftUp;split
  .match n,a with
   |0,a=>omega
   |n+1,a=>
    split
    .rfl
    .rw[uH b n _ _ (by omega),swp_size]
  .rfl
def sM(b:Nat)(d:Array Int):∀n i,b-i<=n->i<=b->i<=Sort.scanSorted ltInt d b i/\Sort.scanSorted ltInt d b i<=b
 |n,i,a,c=>by
  unfold Sort.scanSorted;split
  .rename_i h
   simp at h;match n,a with
   |0,a=>omega
   |n+1,a=>have:=sM b d n (i+1) (by omega) (by omega);omega
  .omega
def Vb{a b i:Nat}{j:Int}{r:List AV}{h:List Bx}(e:bh .i64 (j+1)):∀(n k:Nat)(d:Array Int),b-k<=n->1<=k->b<=d.size->d.size<=2^40 ->
  Lp f301 0 (mI a b i (j+1) (rA (Sort.shiftUp ltInt b k d))) 1 r h->Lp f301 3 (qR a b i j k (rA d)) 1 r h
 |n,k,d,g,o,l,m,H=>by
  unfold Sort.shiftUp at H;refine WR _ _ _ _ _ _ (ae (fun c=>?_) fun c=>?_)
  .have c:k<b:=by simp at c;omega
   rw[aF c]at H;refine dB (i:=k) rfl (by omega) ⟨aB,dB (i:=k-1) (by omega) (by omega) (Ef (fun f=>⟨e,?_⟩) fun f=>?_)⟩
   .rw[aF (by simp[f])]at H
    exact H
   .rw[aI (by simp[f])]at H
    refine⟨aB,aB,dB (i:=k-1) (by omega) (by omega) (dB (i:=k) rfl (by omega) (ta (i:=k) (j:=k-1) rfl (by omega) (by omega) (by omega) ⟨aB,?_⟩))⟩
    rw[jo (i:=k) (j:=k-1) rfl (by omega)]
    match n,g with
    |0,g=>omega
    |n+1,g=>exact Vb e n (k+1) _ (by omega) (by omega) (by rw[swp_size];exact l) (by rw[swp_size];exact m) H
  .rw[aI (by simp at c;omega)]at H
   exact⟨e,H⟩
def La{a b i:Nat}{j:Int}{r:List AV}{h:List Bx}:∀(k:Nat)(d:Array Int),k<d.size->d.size<=2^40 ->
  (bh .i64 ((b:Int)-i)/\ay (decide (((b:Int)-i)>=2)) (bh .i64 ((i:Int)+1)/\Lp f301 3 (qR a b i j ((i:Int)+1) (rA (Sort.shiftDown ltInt k d))) 1 r h)
   (bh .i64 (j+1)/\Lp f301 0 (mI a b i (j+1) (rA (Sort.shiftDown ltInt k d))) 1 r h))->Lp f301 2 (Eb a b i j k (rA d)) 1 r h
 |0,d,e,g,H=>PD _ _ _ _ _ _ (ae (fun c=>by simp at c) fun _=>H)
 |k+1,d,e,g,H=>by
  unfold Sort.shiftDown at H;refine PD _ _ _ _ _ _ (ae (fun c=>?_) fun c=>by simp at c;omega)
  refine dB (i:=k+1) rfl e ⟨aB,dB (i:=k) (by omega) (by omega) (Ef (fun f=>?_) fun f=>?_)⟩
  .rw[aF (by simp[f])]at H
   exact H
  .rw[aI (by simp[f])]at H
   refine⟨aB,aB,dB (i:=k) (by omega) (by omega) (dB (i:=k+1) rfl e (ta (i:=k+1) (j:=k) rfl (by omega) e (by omega) ⟨aB,?_⟩))⟩
   rw[jo (i:=k+1) (j:=k) rfl (by omega),show((k+1:Nat):Int)-1=k by omega]
   exact La k _ (by rw[swp_size];omega) (by rw[swp_size];exact g) H
def Lc{a b:Nat}{j:Int}{d:Array Int}{r:List AV}{h:List Bx}(g:b<=d.size)(k:d.size<=2^40):∀(n i:Nat),b-i<=n->1<=i ->
  Rp f301 7 (Ea a b (Sort.scanSorted ltInt d b i:Nat) j (rA d)) 1 r h->Lp f301 1 (D9 a b i j (rA d)) 1 r h
 |n,i,f,l,H=>by
  unfold Sort.scanSorted at H;refine WO _ _ _ _ _ (ae (fun c=>?_) fun c=>?_)
  .have c:i<b:=by simp at c;omega
   refine dB (i:=i) rfl (by omega) ⟨aB,dB (i:=i-1) (by omega) (by omega) (Ef (fun e=>?_) fun e=>?_)⟩
   .rw[aF (by simp[c,e])]at H
    match n,f with
    |0,f=>omega
    |n+1,f=>exact⟨aB,Lc g k n (i+1) (by omega) (by omega) H⟩
   .rw[aI (by simp[e])]at H
    exact H
  .rw[aI (by simp at c;simp;omega)]at H
   exact H
def Eg{a b:Nat}:∀(s i:Nat)(d:Array Int),a<i->i<=b->b<=d.size->d.size<=2^40->s<=5 ->
  Lp f301 0 (mI a b i (5-(s:Int)) (rA d)) 1 [vB (Sort.partialIns ltInt a b s i d).2] [.bc 1 (rA (Sort.partialIns ltInt a b s i d).1)]
 |0,i,d,p,n,l,m,q=>PC _ _ _ _ _ (ae (fun h=>by simp at h) fun _=>fi)
 |s+1,i,d,p,n,l,m,q=>by
  refine PC _ _ _ _ _ (ae (fun _=>Lc l m _ i (ar _) (by omega) ?_) fun h=>by simp at h;omega)
  rw[Sort.partialIns_succ];obtain⟨u,v⟩:=sM b d _ i (ar _) n;generalize Sort.scanSorted ltInt d b i=k at*;have g:(5-((s+1:Nat):Int))+1=5-(s:Int):=by omega
  refine WQ _ _ _ _ _ (ae (fun h=>?_) fun h=>⟨aB,ae (fun f=>?_) fun f=>?_⟩)
  .rw[aF (by simp at h;omega)]
   exact fi
  .rw[aI (by simp at h;omega),aF (by simp at f;omega)]
   exact fi
  .rw[aI (by simp at h;omega),aI (by simp at f;omega)]
   have w:k<b:=by simp at h;omega
   refine⟨aB,aB,dB (i:=k-1) (by omega) (by omega) (dB (i:=k) rfl (by omega) (ta (i:=k) (j:=k-1) rfl (by omega) (by omega) (by omega) ?_))⟩
   rw[jo (i:=k) (j:=k-1) rfl (by omega)]
   have o:(swp d k (k-1)).size=d.size:=swp_size ..;generalize swp d k (k-1)=d1 at*;have tail:∀c:Array Int,c.size=d.size->bh .i64 ((b:Int)-k)/\ay (decide (((b:Int)-k)>=2)) (bh .i64 ((k:Int)+1)/\Lp f301 3 (qR a b k (5-((s+1:Nat):Int)) ((k:Int)+1) (rA c)) 1
      [vB (Sort.partialIns ltInt a b s k (Sort.fixUp ltInt b k c)).2] [.bc 1 (rA (Sort.partialIns ltInt a b s k (Sort.fixUp ltInt b k c)).1)])
     (bh .i64 ((5-((s+1:Nat):Int))+1)/\Lp f301 0 (mI a b k ((5-((s+1:Nat):Int))+1) (rA c)) 1
      [vB (Sort.partialIns ltInt a b s k (Sort.fixUp ltInt b k c)).2] [.bc 1 (rA (Sort.partialIns ltInt a b s k (Sort.fixUp ltInt b k c)).1)]):=by
    intro c t;unfold Sort.fixUp;refine⟨aB,ae (fun e=>⟨aB,?_⟩) fun e=>⟨aB,?_⟩⟩
    .rw[aF (by simp at e;omega)]
     refine Vb aB _ (k+1) c (ar _) (by omega) (by omega) (by omega) ?_
     rw[g];have x:=uH b _ (k+1) c (ar _);exact Eg s k _ (by omega) (by omega) (by omega) (by omega) (by omega)
    .rw[aI (by simp at e;omega),g]
     exact Eg s k _ (by omega) (by omega) (by omega) (by omega) (by omega)
   unfold Sort.fixDown;refine⟨aB,ae (fun e=>⟨aB,?_⟩) fun e=>?_⟩
   .rw[aF (by simp at e;omega),show(k:Int)-1=((k-1:Nat):Int) by omega]
    refine La (k-1) d1 (by omega) (by omega) (tail _ (by rw[qS];exact o))
   .rw[aI (by simp at e;omega)]
    exact tail d1 o
def ac8{a b:Nat}{d:Array Int}(c:b<=d.size)(e:d.size<=2^40)(f:a<b):
  ak 301 [.bo 0,vN a,vN b] [.bc 1 (rA d)] [vB (Sort.partialInsertionSort ltInt d a b).2] [.bc 1 (rA (Sort.partialInsertionSort ltInt d a b).1)]:=
 acJ _ _ _ ⟨aB,Eg 5 (a+1) d (by omega) (by omega) c e (by omega)⟩
end
end Go.Ac.S4
end
section
namespace Go.Proofs
def Tryz.PX:Go.Shelf.Ren:=⟨fun|125=>233|128=>305|129=>306|n=>n,fun|46=>61|3=>3|51=>29|53=>30|4=>4|5=>5|9=>9|n=>n,fun|n=>n⟩
def Tryz.ac9:Go.Proofs.Lays.n125 Tryz.prog Tryz.PX:={
 mixed:=by kernel_rfl
 f125:=Tryz.func233.trans (congrArg some (by kernel_rfl))
 f128:=Tryz.func305.trans (congrArg some (by kernel_rfl))
 f129:=Tryz.func306.trans (congrArg some (by kernel_rfl))
 t3:=Tryz.underlying3
 a3:=Tryz.isAgg3
 z3:=Tryz.sizeOf3
 v3:=Tryz.zeroValue3
 t4:=Tryz.underlying4
 a4:=Tryz.isAgg4
 z4:=Tryz.sizeOf4
 v4:=Tryz.zeroValue4
 t5:=Tryz.underlying5
 a5:=Tryz.isAgg5
 z5:=Tryz.sizeOf5
 v5:=Tryz.zeroValue5
 t9:=Tryz.underlying9
 a9:=Tryz.isAgg9
 z9:=Tryz.sizeOf9
 v9:=Tryz.zeroValue9
 t46:=Tryz.underlying61
 a46:=Tryz.isAgg61
 z46:=Tryz.sizeOf61
 v46:=Tryz.zeroValue61
 t51:=Tryz.underlying29
 a51:=Tryz.isAgg29
 z51:=Tryz.sizeOf29
 v51:=Tryz.zeroValue29
 t53:=Tryz.underlying30
 a53:=Tryz.isAgg30
 z53:=Tryz.sizeOf30
 v53:=Tryz.zeroValue30}
end Go.Proofs
namespace Go.Ac.S4
open Go Go.Proofs Go.Proofs.Tryz Go.Ac
open Go.Sort (ltInt swp swp_size PermIn SortedIn swp_permIn permIn_refl permIn_trans bitsLen)
set_option maxRecDepth 100000
def TJ(x:Nat)(h:x<2^64):Lib.bitLen x=bitsLen x:=by
 induction x using Nat.strongRecOn with
 |_ x c=>
  by_cases a:x=0
  .subst a;rfl
  .rw[Lib.bitLen_half x a h,c (x/2) (by omega) (by omega),bitsLen,bitsLen,aI a,Nat.log2_def x]
   by_cases b:2<=x
   .rw[aF b,aI (by omega)];omega
   .obtain rfl:x=1:=by omega
    simp
def Y8(n:Nat)(h:n<2^41):ak 233 [vU n] [] [vN (bitsLen n:Nat)] []:=
 ev1 (enters_of func233 rfl rfl) (r:=[N (bitsLen n:Nat)]) fun v w b _ a=>by
  have k:Calls Tryz.prog 233 #[.int .u64 n] w fun e w'=>e = .returned (.int .i64 (Lib.bitLen (n:Int).toNat))/\w'=w:=calls_of_every_depth fun D=>AnyS.bits_LenIn Tryz.ac9 D n w (by omega) (by omega)
  rw[vH a];rw[tR,TJ n (by omega)]at k
  exact⟨[.int .i64 (bitsLen n:Nat)],rfl,rW (.int _ _),k⟩
def ada(n:Nat)(h:n<2^41):ak 345 [vN n] [] [vU ((2^bitsLen n:Nat):Int)] []:=by
 have a:=(Sort.bitsLen_le_iff n 41).2 h;have b:2^bitsLen n<=2^41:=Db (by omega) a
 have e:IntKind.wrap .u64 (n:Int)=n:=by simp[IntKind.wrap,IntKind.signed,IntKind.bits];omega
 refine acQ n ⟨(bitsLen n:Nat),by rw[e];exact Y8 n h,by omega,ai ?_ rfl⟩
 rw[tR,show min (bitsLen n) (IntKind.bits .u64)=bitsLen n by simp[IntKind.bits];omega,show(1:Int)*2^bitsLen n=((2^bitsLen n:Nat):Int) by simp]
 generalize 2^bitsLen n=m at*;have:IntKind.wrap .u64 (m:Int)=m:=by simp[IntKind.wrap,IntKind.signed,IntKind.bits];omega
 rw[this]
def adb(c:Int):∃n,ak 346 [.aA 0 0] [.cells [vU c]] [vU n] [.cells [vU n]]:=⟨_,acS c ⟨by decide,by decide,by decide,fi⟩⟩
def Xf(y:Int){M:Nat}(c:1<=M)(d:M<=2^42):∃o:Nat,o<M/\IntKind.wrap .i64 (cF .and .u64 y (IntKind.wrap .u64 ((M:Int)-1)))=o:=by
 have e:IntKind.wrap .u64 ((M:Int)-1)=((M-1:Nat):Int):=by simp[IntKind.wrap,IntKind.signed,IntKind.bits];omega
 have a:cF .and .u64 y ((M-1:Nat):Int)=IntKind.wrap .u64 ((BitVec.ofInt 64 y &&& BitVec.ofInt 64 ((M-1:Nat):Int)).toNat:Int):=rfl;have b:(BitVec.ofInt 64 y &&& BitVec.ofInt 64 ((M-1:Nat):Int)).toNat<=M-1:=by
  rw[BitVec.toNat_and];refine dF Nat.and_le_right ?_;rw[BitVec.toNat_ofInt];omega
 rw[e,a];generalize(BitVec.ofInt 64 y &&& BitVec.ofInt 64 ((M-1:Nat):Int)).toNat=o at*;exact⟨o,by omega,by simp[IntKind.wrap,IntKind.signed,IntKind.bits];omega⟩
def quarter{n:Nat}(h:n<2^62):IntKind.wrap .i64 (Int.tdiv (n:Int) 4)=((n/4:Nat):Int):=by
 rw[xN (by omega),qu aB]
 omega
def Ld{a n b M:Nat}(v:a+n=b)(u:8<=n)(p:1<=M)(D:M<=2*n):∀(k idx:Nat)(d:Array Int)(c:Int),a+n/4*2+2<=idx+k->a<=idx->b<=d.size->d.size<=2^40 ->
  ∃e,PermIn a b d e/\Lp f298 0 (yX a n M idx (rA d) c) 1 [] [.bc 1 (rA e)]
 |k,idx,d,c,m,x,s,w=>by
  have q:=quarter (n:=n) (by omega)
  by_cases h:idx<=a+n/4*2+1
  .obtain⟨y,r⟩:=adb c
   obtain⟨o,E,t⟩:=Xf y p (by omega)
   have key:∀o':Nat,o'<n->∃e,PermIn a b d e/\Rp f298 10 (r5 a n M idx o' (rA d) y) 1 [] [.bc 1 (rA e)]:=by
    intro o' G;match k,m with
    |0,m=>omega
    |k+1,m=>
     obtain⟨e,l,g⟩:=Ld v u p D k (idx+1) (swp d idx (a+o')) y (by omega) (by omega) (by rw[swp_size];exact s) (by rw[swp_size];exact w)
     refine⟨e,permIn_trans _ _ _ _ _ (swp_permIn d a b idx (a+o') x (by omega) (by omega) (by omega) s) l,TE _ _ _ _ _ _ _ ⟨aB,aB,dB (i:=a+o') (by omega) (by omega) (dB (i:=idx) rfl (by omega) (ta (i:=idx) (j:=a+o') rfl (by omega) (by omega) (by omega) ⟨aB,?_⟩))⟩⟩
     rw[jo (i:=idx) (j:=a+o') rfl (by omega)]
     exact g
   have fin:∀e:Array Int,(ay (decide ((o:Int)>=n)) (bh .i64 ((o:Int)-n)/\Rp f298 10 (r5 a n M idx ((o:Int)-n) (rA d) y) 1 [] [.bc 1 (rA e)])
     (Rp f298 10 (r5 a n M idx o (rA d) y) 1 [] [.bc 1 (rA e)]))->Lp f298 0 (yX a n M idx (rA d) c) 1 [] [.bc 1 (rA e)]:=fun e H=>
    Pz _ _ _ _ _ _ (by
     rw[q];exact⟨by decide,aB,aB,aB,ae (fun _=>⟨_,_,r,by rw[t];exact H⟩) fun f=>by simp at f;omega⟩)
   by_cases z:o<n
   .obtain⟨e,l,g⟩:=key o z
    exact⟨e,l,fin e (ae (fun f=>by simp at f;omega) fun _=>g)⟩
   .obtain⟨e,l,g⟩:=key (o-n) (by omega)
    exact⟨e,l,fin e (ae (fun _=>⟨aB,by rw[show(o:Int)-n=((o-n:Nat):Int) by omega];exact g⟩) fun f=>by simp at f;omega)⟩
  .exact⟨d,permIn_refl _ _ _,Pz _ _ _ _ _ _ (by
    rw[q];exact⟨by decide,aB,aB,aB,ae (fun f=>by simp at f;omega) fun _=>fi⟩)⟩
def ade{a b:Nat}{d:Array Int}(k:b<=d.size)(l:d.size<=2^40)(o:a+8<=b):∃c,PermIn a b d c/\ak 298 [.bo 0,vN a,vN b] [.bc 1 (rA d)] [] [.bc 1 (rA c)]:=by
 have q:=quarter (n:=b-a) (by omega)
 have e:(b:Int)-a=((b-a:Nat):Int):=by omega
 have i:=Sort.two_pow_bitsLen_le (n:=b-a) (by omega)
 have g:1<=2^bitsLen (b-a):=Nat.one_le_two_pow;obtain⟨c,m,j⟩:=Ld (a:=a) (n:=b-a) (b:=b) (by omega) (by omega) g i 4 (a+(b-a)/4*2-1) d (IntKind.wrap .u64 ((b-a:Nat):Int)) (by omega) (by omega) k l
 refine⟨c,m,acG _ _ _ ?_⟩;rw[e,q];refine⟨aB,ae (fun _=>⟨_,ada (b-a) (by omega),by decide,aB,aB,aB,?_⟩) fun f=>by simp at f;omega⟩
 rw[show(a:Int)+((b-a)/4:Nat)*2-1=((a+(b-a)/4*2-1:Nat):Int) by omega]
 exact j
def Xg{a b s:Nat}{d:Array Int}(c:a<d.size)(e:b<d.size)(f:d.size<=2^40)(g:s<=100):
  ∃x y t:Nat,(x=a/\y=b\/x=b/\y=a)/\t<=s+1/\ak 360 [.bo 0,vN a,vN b,.aA 1 0] [.bc 1 (rA d),.cells [vN s]] [vN x,vN y] [.bc 1 (rA d),.cells [vN t]]:=by
 cases hl:ltInt d[b]! d[a]!
 .exact⟨a,b,s,.inl ⟨rfl,rfl⟩,by omega,Y5 _ _ _ _ (dB (i:=b) rfl e (dB (i:=a) rfl c (JJ (fun h=>by rw[hl]at h;simp at h) fun _=>fi)))⟩
 .exact⟨b,a,s+1,.inr ⟨rfl,rfl⟩,by omega,Y5 _ _ _ _ (dB (i:=b) rfl e (dB (i:=a) rfl c (JJ (fun _=>⟨aB,fi⟩) fun h=>by rw[hl]at h;simp at h)))⟩
def Xh{a b c s:Nat}{d:Array Int}(f:a<d.size)(g:b<d.size)(i:c<d.size)(e:d.size<=2^40)(D:s<=50):
  ∃m t:Nat,(m=a\/m=b\/m=c)/\t<=s+3/\ak 348 [.bo 0,vN a,vN b,vN c,.aA 1 0] [.bc 1 (rA d),.cells [vN s]] [vN m] [.bc 1 (rA d),.cells [vN t]]:=by
 obtain⟨p,u,n,z,w,j⟩:=Xg f g e (s:=s) (by omega)
 obtain⟨q,G,t2,h,x,k⟩:=Xg (a:=u) (b:=c) (d:=d) (by omega) i e (s:=n) (by omega)
 obtain⟨E,v,o,r,y,l⟩:=Xg (a:=p) (b:=q) (d:=d) (by omega) (by omega) e (s:=t2) (by omega)
 exact⟨v,o,by omega,by omega,acW _ _ _ _ _ ⟨_,_,_,j,_,_,_,k,_,_,_,l,fi⟩⟩
def Xi{a s:Nat}{d:Array Int}(l:1<=a)(f:a+1<d.size)(g:d.size<=2^40)(i:s<=50):
  ∃m t:Nat,a<=m+1/\m<=a+1/\t<=s+3/\ak 347 [.bo 0,vN a,.aA 1 0] [.bc 1 (rA d),.cells [vN s]] [vN m] [.bc 1 (rA d),.cells [vN t]]:=by
 obtain⟨m,t,j,e,k⟩:=Xh (a:=a-1) (b:=a) (c:=a+1) (d:=d) (s:=s) (by omega) (by omega) f g i
 refine⟨m,t,by omega,by omega,e,acU _ _ _ ⟨aB,aB,_,_,?_,fi⟩⟩
 rw[show(a:Int)-1=((a-1:Nat):Int) by omega]
 exact k
def BR(s:Int):Int:=bif s==0 then 1 else bif s==12 then 2 else 0
def Lf{s:Int}{m:Int}{h:List Bx}:ay (s==0) (Fi [vN m,vN (BR s)] h [vN m,vN 1] h) (ay (s==12) (Fi [vN m,vN (BR s)] h [vN m,vN 2] h) (Fi [vN m,vN (BR s)] h [vN m,vN 0] h)):=by
 unfold BR;exact ae (fun h=>ai (by rw[h];rfl) rfl) fun h=>ae (fun a=>ai (by rw[h,a];rfl) rfl) fun a=>ai (by rw[h,a];rfl) rfl
def adf{a b:Nat}{d:Array Int}(J:b<=d.size)(i:d.size<=2^40)(I:a+8<=b):∃(p:Nat)(h:Int),a<=p/\p<b/\ak 299 [.bo 0,vN a,vN b] [.bc 1 (rA d)] [vN p,vN h] [.bc 1 (rA d)]:=by
 have q:=quarter (n:=b-a) (by omega)
 have e:(b:Int)-a=((b-a:Nat):Int):=by omega
 have j:(a:Int)+((b-a)/4:Nat)*1=((a+(b-a)/4*1:Nat):Int):=by omega
 have l:(a:Int)+((b-a)/4:Nat)*2=((a+(b-a)/4*2:Nat):Int):=by omega
 have o:(a:Int)+((b-a)/4:Nat)*3=((a+(b-a)/4*3:Nat):Int):=by omega
 by_cases T:50<=b-a
 .obtain⟨x,r,E,K,f1,u⟩:=Xi (a:=a+(b-a)/4*1) (d:=d) (s:=0) (by omega) (by omega) i (by omega)
  obtain⟨y,t2,G,M,f2,v⟩:=Xi (a:=a+(b-a)/4*2) (d:=d) (s:=r) (by omega) (by omega) i (by omega)
  obtain⟨z,D,H,Q,f3,w⟩:=Xi (a:=a+(b-a)/4*3) (d:=d) (s:=t2) (by omega) (by omega) i (by omega)
  obtain⟨m,t,g,f,k⟩:=Xh (a:=x) (b:=y) (c:=z) (d:=d) (s:=D) (by omega) (by omega) (by omega) i (by omega)
  refine⟨m,BR t,by omega,by omega,Y1 _ _ _ ?_⟩
  rw[e,q,j,l,o];exact⟨aB,by decide,aB,aB,by decide,aB,aB,by decide,aB,aB,
   ae (fun _=>ae (fun _=>⟨_,_,u,_,_,v,_,_,w,_,_,k,Lf⟩) fun h=>by simp at h;omega) fun h=>by simp at h;omega⟩
 .obtain⟨m,t,g,f,k⟩:=Xh (a:=a+(b-a)/4*1) (b:=a+(b-a)/4*2) (c:=a+(b-a)/4*3) (d:=d) (s:=0) (by omega) (by omega) (by omega) i (by omega)
  refine⟨m,BR t,by omega,by omega,Y1 _ _ _ ?_⟩
  rw[e,q,j,l,o];exact⟨aB,by decide,aB,aB,by decide,aB,aB,by decide,aB,aB,
   ae (fun _=>ae (fun h=>by simp at h;omega) fun _=>⟨_,_,k,Lf⟩) fun h=>by simp at h;omega⟩
end Go.Ac.S4
end
section
namespace Go.Ac.S4
open Go Go.Proofs Go.Proofs.Tryz Go.Ac
set_option maxRecDepth 100000
section
open Go.Sort (ltInt swp swp_size PermIn SortedIn permIn_refl permIn_trans bitsLen swo_ltInt)
def Sd(a b:Nat)(d:Array Int)(K:List AV->List Bx->Prop):Prop:=∃c,PermIn a b d c/\SortedIn ltInt a b c/\K [] [.bc 1 (rA c)]
def Sd.mono{a b:Nat}{d:Array Int}{K c:List AV->List Bx->Prop}(h:Sd a b d K)(e:∀r h,K r h->c r h):Sd a b d c:=
 let ⟨d',h1,h2,h3⟩:=h;⟨d',h1,h2,e _ _ h3⟩
def Sd.perm{a b:Nat}{d c:Array Int}{K:List AV->List Bx->Prop}(e:PermIn a b d c)(h:Sd a b c K):Sd a b d K:=
 let ⟨d',h1,h2,h3⟩:=h;⟨d',permIn_trans _ _ _ _ _ e h1,h2,h3⟩
structure Pq (a b:Nat) (d:Array Int) (dJ:Nat):Prop where
 B:Sort.Below ltInt a b d
 ab:a<=b
 l:dJ<=2^40
 b:b<=d.size
 d:d.size<=2^40
def Pq.perm{a b:Nat}{d e:Array Int}{l:Nat}(h:Pq a b d l)(c:PermIn a b d e):Pq a b e l:=
 ⟨h.B.perm h.b c,h.ab,h.l,by rw[c.1];exact h.b,by rw[c.1];exact h.d⟩
def PY(n:Nat):Prop:=∀(d:Array Int)(a b dJ:Nat)(wb wp:Bool),b-a<n->Pq a b d dJ->Sd a b d (Lp f232 0 (mH a b dJ wb wp (rA d)) 1)
def adg(a b dJ length d:Int)(l:Rw)(r:List AV)(h:List Bx):Prop:=
 ∃p q c,ak 304 [.bo 0,vN a,vN b,vN d] [.bc 1 l] [vN p,vB q] [.bc 1 c]/\bh .i64 (p-a)/\bh .i64 (b-p)/\(8:Int)≠0/\ay (decide ((p-a)<(b-p))) (∃y,ak 232 [.bo 0,vN a,vN p,vN dJ] [.bc 1 c] [] [.bc 1 y]/\bh .i64 (p+1)/\Lp f232 0 (mH (p+1) b dJ (decide ((p-a)>=(IntKind.wrap .i64 (Int.tdiv length 8)))) q y) 1 r h)
  (bh .i64 (p+1)/\∃y,ak 232 [.bo 0,vN (p+1),vN b,vN dJ] [.bc 1 c] [] [.bc 1 y]/\Lp f232 0 (mH a p dJ (decide ((b-p)>=(IntKind.wrap .i64 (Int.tdiv length 8)))) q y) 1 r h)
def TL{n a b dJ p:Nat}{length:Int}{d:Array Int}(f:PY n)(J:b-a<=n)(c:Pq a b d dJ)(v:a<=p)(w:p<b):Sd a b d (adg a b dJ length p (rA d)):=by
 have k:=ac7 c.b c.d v w;have g:Sort.partition ltInt d a b p=((Sort.partition ltInt d a b p).1,(Sort.partition ltInt d a b p).2.1,(Sort.partition ltInt d a b p).2.2):=rfl;generalize(Sort.partition ltInt d a b p).1=mid at g k;generalize(Sort.partition ltInt d a b p).2.1=ap at g k;generalize(Sort.partition ltInt d a b p).2.2=d4 at g k;obtain⟨x,E,K,y,z,r,D⟩:=Sort.round_part swo_ltInt (Sort.partition_holds ltInt) v w c.b c.B g;have G:=c.b;have H:=c.d;by_cases I:mid-a<b-mid
 .obtain⟨L,e,i,j⟩:=f d4 a mid dJ true true (by omega) ⟨y,x,c.l,by omega,by omega⟩
  obtain⟨t,u⟩:=r L e i;obtain⟨R,o,q,s⟩:=f L (mid+1) b dJ (decide ((mid:Int)-a>=(IntKind.wrap .i64 (Int.tdiv length 8)))) ap (by omega) ⟨t,by omega,c.l,by rw[e.1];omega,by rw[e.1];omega⟩
  obtain⟨l,m⟩:=u R o q;exact⟨R,l,m,_,_,_,k,aB,aB,by decide,ae (fun _=>⟨_,WH _ _ _ _ j,aB,s⟩) fun h=>by simp at h;omega⟩
 .obtain⟨L,e,i,j⟩:=f d4 (mid+1) b dJ true true (by omega) ⟨z,by omega,c.l,by omega,by omega⟩
  obtain⟨t,u⟩:=D L e i;obtain⟨R,o,q,s⟩:=f L a mid dJ (decide ((b:Int)-mid>=(IntKind.wrap .i64 (Int.tdiv length 8)))) ap (by omega) ⟨t,by omega,c.l,by rw[e.1];omega,by rw[e.1];omega⟩
  obtain⟨l,m⟩:=u R o q;exact⟨R,l,m,_,_,_,k,aB,aB,by decide,ae (fun h=>by simp at h;omega) fun _=>⟨aB,_,WH _ _ _ _ j,s⟩⟩
def Vc{n a b dJ p:Nat}{wb wp:Bool}{length:Int}{d:Array Int}(j:PY n)(q:b-a<=n)(c:Pq a b d dJ)(e:a<=p)(f:p<b):
  Sd a b d (Rp f232 17 (xT a b dJ wb wp length p (rA d)) 1):=by
 have D:=c.b;have E:=c.d;have l:=TL (length:=length) j q c e f;by_cases o:0<a
 .cases hl:ltInt d[a-1]! d[p]!
  .have k:=ac6 c.b c.d e f
   have g:Sort.partitionEqual ltInt d a b p=((Sort.partitionEqual ltInt d a b p).1,(Sort.partitionEqual ltInt d a b p).2):=rfl;generalize(Sort.partitionEqual ltInt d a b p).1=mid at g k;generalize(Sort.partitionEqual ltInt d a b p).2=d4 at g k;obtain⟨z,m,G,x,y⟩:=Sort.round_eq swo_ltInt (Sort.partitionEqual_holds ltInt) o e f c.b c.B hl g;obtain⟨R,u,v,w⟩:=j d4 mid b dJ wb wp (by omega) ⟨x,m,c.l,by omega,by omega⟩
   obtain⟨s,t⟩:=y R u v;exact⟨R,s,t,D2 _ _ _ _ _ _ _ _ (ae (fun _=>⟨aB,dB (i:=a-1) (by omega) (by omega) (dB (i:=p) rfl (by omega) (Ef (fun _=>⟨_,_,k,w⟩) fun h=>by rw[hl]at h;simp at h))⟩) fun h=>by simp at h;omega)⟩
  .exact l.mono fun r h H=>D2 _ _ _ _ _ _ _ _ (ae (fun _=>⟨aB,dB (i:=a-1) (by omega) (by omega) (dB (i:=p) rfl (by omega) (Ef (fun h=>by rw[hl]at h;simp at h) fun _=>H))⟩) fun h=>by simp at h;omega)
 .exact l.mono fun r h H=>D2 _ _ _ _ _ _ _ _ (ae (fun h=>by simp at h;omega) fun _=>H)
def Vd{n a b dJ p:Nat}{wb wp:Bool}{length hint:Int}{d:Array Int}(f:PY n)(j:b-a<=n)(c:Pq a b d dJ)(g:a<=p)(i:p<b):
  Sd a b d (Rp f232 15 (xS a b dJ wb wp length p hint (rA d)) 1):=by
 cases hc:(bif(bif wb then wp else false)then(hint==1)else false)
 .exact(Vc (wb:=wb) (wp:=wp) (length:=length) f j c g i).mono fun r h H=>D1 _ _ _ _ _ _ _ _ _ (ae (fun h=>by rw[hc]at h;simp at h) fun _=>H)
 .have k:=ac8 c.b c.d (show a<b by omega)
  obtain⟨e,l⟩:=Sort.partialInsertionSort_holds swo_ltInt d a b (by omega) c.b c.B
  generalize(Sort.partialInsertionSort ltInt d a b).1=d1 at*;generalize(Sort.partialInsertionSort ltInt d a b).2=res at*;cases res
  .exact((Vc (wb:=wb) (wp:=wp) (length:=length) f j (c.perm e) g i).perm e).mono fun r h H=>D1 _ _ _ _ _ _ _ _ _ (ae (fun _=>⟨_,_,k,ae (fun h=>by simp at h) fun _=>H⟩) fun h=>by rw[hc]at h;simp at h)
  .exact⟨d1,e,l rfl,D1 _ _ _ _ _ _ _ _ _ (ae (fun _=>⟨_,_,k,ae (fun _=>fi) fun h=>by simp at h⟩) fun h=>by rw[hc]at h;simp at h)⟩
def Ve{n a b dJ:Nat}{wb wp:Bool}{length:Int}{d:Array Int}(e:PY n)(g:b-a<=n)(c:Pq a b d dJ)(l:a+8<=b):
  Sd a b d (Rp f232 10 (r4 a b dJ wb wp length (rA d)) 1):=by
 obtain⟨p,hint,i,j,k⟩:=adf c.b c.d l;have m:=c.b;have o:=c.d;cases hc:hint==2
 .exact(Vd (wb:=wb) (wp:=wp) (length:=length) (hint:=hint) e g c i j).mono fun r h H=>KY _ _ _ _ _ _ _ ⟨_,_,k,ae (fun h=>by rw[hc]at h;simp at h) fun _=>H⟩
 .have f:=Sort.reverseRange_holds d a b c.ab c.b
  refine((Vd (p:=b-1-(p-a)) (wb:=wb) (wp:=wp) (length:=length) (hint:=1) e g (c.perm f) (by omega) (by omega)).perm f).mono fun r h H=>KY _ _ _ _ _ _ _ ⟨_,_,k,ae (fun _=>⟨_,ac4 c.b c.d (by omega),aB,aB,aB,?_⟩) fun h=>by rw[hc]at h;simp at h⟩
  rw[show(b:Int)-1-((p:Int)-a)=((b-1-(p-a):Nat):Int) by omega]
  exact H
def PZ:∀n,PY n
 |0=>fun d a b dJ wb wp q=>absurd q (by omega)
 |n+1=>fun d a b dJ wb wp q c=>by
  have p:=PZ n;have u:=c.b;have v:=c.d;have w:=c.l;have z:=c.ab;by_cases x:b-a<=12
  .obtain⟨f,i⟩:=Sort.insertionSort_holds swo_ltInt d a b c.ab c.b
   exact⟨_,f,i,Pf _ _ _ _ _ _ ⟨aB,ae (fun _=>⟨_,ac3 c.b c.d c.ab,fi⟩) fun h=>by simp at h;omega⟩⟩
  .have j:∀{e:Array Int},(ay ((dJ:Int)==0) (∃y,ak 297 [.bo 0,vN a,vN b] [.bc 1 (rA d)] [] [.bc 1 y]/\Fi [] [.bc 1 (rA e)] [] [.bc 1 y])
     (ay (!wb) (∃y,ak 298 [.bo 0,vN a,vN b] [.bc 1 (rA d)] [] [.bc 1 y]/\bh .i64 ((dJ:Int)-1)/\Rp f232 10 (r4 a b ((dJ:Int)-1) wb wp ((b:Int)-a) y) 1 [] [.bc 1 (rA e)])
     (Rp f232 10 (r4 a b dJ wb wp ((b:Int)-a) (rA d)) 1 [] [.bc 1 (rA e)])))->Lp f232 0 (mH a b dJ wb wp (rA d)) 1 [] [.bc 1 (rA e)]:=fun H=>
    Pf _ _ _ _ _ _ ⟨aB,ae (fun h=>by simp at h;omega) fun _=>H⟩
   by_cases t:dJ=0
   .obtain⟨f,i⟩:=Sort.heapSort_holds swo_ltInt d a b c.ab c.b
    exact⟨_,f,i,j (ae (fun _=>⟨_,ac5 c.b c.d (by omega),fi⟩) fun h=>by simp at h;omega)⟩
   .cases wb
    .obtain⟨s,f,k⟩:=ade c.b c.d (show a+8<=b by omega)
     have g:=c.perm f;obtain⟨e,l,m,o⟩:=(Ve (dJ:=dJ-1) (wb:=false) (wp:=wp) (length:=(b:Int)-a) p (by omega) ⟨g.B,g.ab,by omega,g.b,g.d⟩ (by omega)).perm f
     refine⟨e,l,m,j (ae (fun h=>by simp at h;omega) fun _=>ae (fun _=>⟨_,k,aB,?_⟩) fun h=>by simp at h)⟩
     rw[show(dJ:Int)-1=((dJ-1:Nat):Int) by omega]
     exact o
    .obtain⟨e,l,m,o⟩:=Ve (wb:=true) (wp:=wp) (length:=(b:Int)-a) p (by omega) c (by omega)
     exact⟨e,l,m,j (ae (fun h=>by simp at h;omega) fun _=>ae (fun h=>by simp at h) fun _=>o)⟩
def adh(z:List Int)(n:z.length<=2^40):ak 164 [.bo 0] [.bc 1 (z.map fun x=>[W x])] [] [.bc 1 ((z.mergeSort fun x y=>decide (x<=y)).map fun x=>[W x])]:=by
 have d:z.toArray.size=z.length:=by simp
 have m:bitsLen z.length<=41:=(Sort.bitsLen_le_iff z.length 41).2 (by omega)
 obtain⟨a,k,l,f⟩:=PZ (z.length+1) z.toArray 0 z.length (bitsLen z.length) true true (by omega) ⟨.inl rfl,dD _,by omega,by omega,by omega⟩
 have g:rA z.toArray=z.map fun x=>[W x]:=by simp[rA]
 have i:a.toList=z.mergeSort fun x y=>decide (x<=y):=by
  have h:=Sort.sorted_unique_holds (lt:=ltInt) swo_ltInt (fun x y b c=>by unfold ltInt at b c;simp at b c;omega) z.toArray a (by rw[d];exact k) (by rw[d];exact l)
  rw[h];simp only[List.toList_toArray];congr 1
  funext x y
  unfold ltInt;by_cases h:x<=y
  .simp[h]
  .simp[h];omega
 have j:rA a=(z.mergeSort fun x y=>decide (x<=y)).map fun x=>[W x]:=by rw[rA,i]
 rw[g,j]at f;refine acu _ ⟨(bitsLen z.length:Nat),?_,_,WH _ _ _ _ ?_,fi⟩
 .have e:IntKind.wrap .u64 (((z.map fun x=>[W x]).length:Nat):Int)=z.length:=by simp[IntKind.wrap,IntKind.signed,IntKind.bits];omega
  rw[e];exact Y8 z.length (by omega)
 .simpa using f
end
section
open Go.RowKit Go.Maps
def vQ(w:World)(base:Nat)(v:Value)(l:List Int):Prop:=
 (l=[]/\∃A,v = .slice A 0 0)\/∃g cap X e,v = .slice (some ⟨g,0,none⟩) l.length cap/\base<=g/\w.heap[g]?=some (.cells X e (0,0))/\l.length<=cap/\cap<=X.size/\∀(i:Nat)x,l[i]?=some x->X[i]?=some (jW x)
def Xj{w:World}{base e:Nat}{v:Value}{l:List Int}(h:w.ownsRow base e 1 v l.length (l.map jW)):vQ w base v l:=by
 obtain⟨-,⟨a,d⟩|⟨g,cap,c,a,f,m,j,o,p,k⟩⟩:=h
 .exact .inl ⟨gS.1 d,none,a⟩
 .refine .inr ⟨g,cap,c,e,a,f,m,j,by omega,fun i x b=>?_⟩
  have n:i<l.length:=(aE.1 b).1;have:(c.toList.take (l.length*1))[i]?=some (jW x):=by rw[k,bp,b];rfl
  rw[eS,aF (by omega)]at this
  simpa using this
def P0(w:World)(g b:Nat):Nat:=if b=g then 0 else ox w b
def TM{w:World}{b o:Nat}{v:Value}(h:w.cell? ⟨b,o,none⟩=some v):b<w.heap.size:=by
 rcases bR b w.heap.size with a|a
 .exact a
 .simp[World.cell?,rN a]at h
def Vf{l:Nat->Nat}{w a:World}{g:Nat}(d:Laid l w)(e:Below w.heap.size w a)(n:w.heap.size<=g):Laid (P0 a g) a:=by
 have key:∀(b o:Nat)(v:Value),w.cell? ⟨b,o,none⟩=some v->a.cell? ⟨b,o,none⟩=some v/\o<P0 a g b:=fun b o v h=>by
  have k:=TM h;have c:a.cell? ⟨b,o,none⟩=some v:=(World.cell?_of_block (e.block b k)).trans h;exact⟨c,by unfold P0;rw[aI (by omega)];exact(mb c).1⟩
 exact⟨fun i f=>key _ _ _ (d.YF i f).1,d.num.elim fun m j=>⟨m,key _ _ _ j.1⟩⟩
def JK{w d e:World}{g:Nat}{i:Nat->Nat}{G:Gh}{f:List Bx}(a:Below w.heap.size w d)(j:w.heap.size<=g)(b:Inv Tryz.prog d i (· = g) G f e):Below w.heap.size w e:=
 ⟨b.frame.os.trans a.os,b.frame.tape.trans a.tape,b.frame.output.trans a.output,dF a.size b.frame.size,fun k c=>(b.frame.DC k (gg c a.size) (by show¬k=g;omega)).1.trans (a.block k c)⟩
def Nd{a4:Nat->Nat}{w a:World}{v:Value}{l:List Int}(Y:Laid a4 w)(k:Below w.heap.size w a)(hv:vQ a w.heap.size v l)(hz:l.length<=2^40):
  Calls Tryz.prog 164 #[v] a fun e d=>e = .returned (.tuple #[])/\Below w.heap.size w d/\vQ d w.heap.size v (l.mergeSort fun x y=>decide (x<=y)):=by
 have M:=adh l hz;have fin:∀{Q:Value->World->Prop},dj Tryz.prog (callFunc 164 #[v]) a Q->(∀u d,Q u d->u = .tuple #[]/\Below w.heap.size w d/\vQ d w.heap.size v (l.mergeSort fun x y=>decide (x<=y)))->
   Calls Tryz.prog 164 #[v] a fun e d=>e = .returned (.tuple #[])/\Below w.heap.size w d/\vQ d w.heap.size v (l.mergeSort fun x y=>decide (x<=y)):=fun{Q}E hq=>by
  unfold dj at E;rw[(enters_of func164 rfl rfl:Yq 164)]at E;refine Calls.mono E fun e w'⟨u,he,h⟩=>?_
  obtain⟨f,c⟩:=hq u w' h;exact⟨by rw[he,f],c⟩
 have hlen:(l.mergeSort fun x y=>decide (x<=y)).length=l.length:=List.length_mergeSort _
 rcases hv with⟨rfl,A,rfl⟩|⟨g,cap,X,e,rfl,t,T,a3,a7,a5⟩
 .have J:=Vf (g:=w.heap.size) Y k (ar _)
  let G:Gh:=⟨P0 a w.heap.size,fun _=>none,fun _=>.slice A 0 0,fun b=>b=0⟩
  have m:∀x n,G.h x≠some n:=fun x n h=>by simp[G]at h
  have H:Inv Tryz.prog a G.bQ (· = w.heap.size) G [.bc 1 []] a:=by
   refine⟨my.refl _ _ _ (fun b k=>by show(if b=w.heap.size then 0 else ox a b)=0;split<;>simp[ox,rN k]) J,fun b h=>?_,fun b bx h=>?_,fun x y n h=>absurd h (m _ _),fun x n h=>absurd h (m _ _),fun b n _=>m _ _⟩
   .show b<1
    have:b=0:=h;omega
   .match b with
    |0=>simp at h;subst h;exact⟨rfl,by simp,.inr ⟨rfl,A,rfl⟩⟩
    |b+1=>simp at h
  refine fin (M.F7 a G (· = w.heap.size) [.slice A 0 0] H (dO (.bo (G:=G) (b:=0) rfl rfl))) fun u d⟨K,I,s,⟨f,_⟩,z,_⟩=>?_
  obtain rfl:I=[]:=gS.1 f;exact⟨z,JK k (ar _) s,.inl ⟨by simp,A,rfl⟩⟩
 .have J:=Vf (g:=g) Y k t
  have a1:g<a.heap.size:=(gK.1 T).1;let G:Gh:=⟨P0 a g,fun|.box 0=>some g|_=>none,fun _=>.slice (some ⟨g,0,none⟩) l.length cap,fun b=>b=0⟩
  have m:∀x n,G.h x=some n->x = .box 0/\n=g:=fun x n h=>by
   cases x with
   |box b=>
    cases b with
    |zero=>exact⟨rfl,(au h).symm⟩
    |succ b=>cases h
   |_=>cases h
  have H:Inv Tryz.prog a G.bQ (· = g) G [.bc 1 (l.map fun x=>[W x])] a:=by
   refine⟨my.refl _ _ _ (fun b k=>by show(if b=g then 0 else ox a b)=0;split<;>simp[ox,rN k]) J,fun b h=>?_,fun b bx h=>?_,fun x y n f c=>by rw[(m x n f).1,(m y n c).1],fun x n h=>by rw[(m x n h).2];exact⟨a1,fun _=>rfl⟩,fun b n h=>?_⟩
   .show b<1
    have:b=0:=h;omega
   .match b with
    |b+1=>simp at h
    |0=>
     simp at h;subst h;refine⟨rfl,fun r hr=>?_,.inl ⟨g,X,e,cap,rfl,by simp[G],by simpa using a3,T,by omega,aF rfl,fun i j v p f c=>?_⟩⟩
     .obtain⟨x,-,rfl⟩:=bg.1 hr;rfl
     .simp only[jI,bp]at c
      cases q:l[i]? with
      |none=>rw[q]at c;simp at c
      |some x=>
       rw[q]at c;match j,c with
       |0,c=>
        simp at c;subst c;rw[show i*1+0=i by omega,a5 i x q]at f
        obtain rfl:=au f;exact .int _ _
   .match b with
    |0=>simp at h
    |b+1=>simp at h
  refine fin (M.F7 a G (· = g) [.slice (some ⟨g,0,none⟩) l.length cap] H (dO (.bo (G:=G) (b:=0) rfl rfl))) fun u d⟨K,I,s,⟨f,_⟩,z,a0⟩=>?_
  obtain rfl:I=[]:=gS.1 f;have R:K.val 0 = .slice (some ⟨g,0,none⟩) l.length cap:=(a0 0 rfl).2;obtain⟨-,-,⟨a6,D,e',a9,-,o,k3,k4,k5,-,k7⟩|⟨k1,A,o⟩⟩:=s.box 0 _ rfl
  .rw[R]at o
   simp only[Value.slice.injEq,aw,Addr.mk.injEq]at o;obtain⟨⟨rfl,-,-⟩,-,rfl⟩:=o;refine⟨z,JK k t s,.inr ⟨g,cap,D,e',by rw[hlen],t,k4,by omega,by omega,fun i x q=>?_⟩⟩
   have a8:=(aE.1 q).1;have Z:i<D.size:=by omega
   have hp:=k7 i 0 D[i] (W x) (by rw[show i*1+0=i by omega];exact cK Z) (by simp[jI,q])
   rw[cK Z,vH hp]
  .have F:(l.mergeSort fun x y=>decide (x<=y))=[]:=by simpa using k1
   have a2:l.length=0:=by rw[<-hlen,F];rfl
   rw[R]at o;simp only[Value.slice.injEq]at o;obtain⟨-,-,rfl⟩:=o;exact⟨z,JK k t s,.inl ⟨F,some ⟨g,0,none⟩,by rw[a2]⟩⟩
end
def adi:bq:={}
def adj(a:List (PV×AV)){r h}(H:Fi r h [.fn (.func 165) [] [.aA 1 0]] [.map 209 a,.cells [.mp 0]]):
  ak 110 [.mp 0] [.map 209 a] r h:=.of func110 adi H
section
open Go.RowKit Go.Maps
open Go.WideElems (Fit rd rg rd_key rg_of)
def adk(c:List (PV×AV)):ak 110 [.mp 0] [.map 209 c] [.fn (.func 165) [] [.aA 1 0]] [.map 209 c,.cells [.mp 0]]:=adj c fi
def vR(n:Int):∀l:List Int,(ni n l).Perm (n::l)
 |[]=>.refl _
 |m::l=>by
  unfold ni;cases decide (n<=m)
  .exact((vR n l).cons m).trans (.swap _ _ _)
  .exact .refl _
def tb:∀l:List Int,(gD l).Perm l
 |[]=>.refl _
 |n::l=>(vR n _).trans ((tb l).cons n)
def Lg(n:Int):∀{l:List Int},l.Pairwise (· <= ·)->(ni n l).Pairwise (· <= ·)
 |[],_=>by simp[ni]
 |m::l,h=>by
  obtain⟨c,d⟩:=kR.1 h;unfold ni;cases b:decide (n<=m)
  .refine kR.2 ⟨fun x a=>?_,Lg n d⟩
   have b:m<n:=by simpa using b
   rcases aU.1 ((vR n l).mem_iff.1 a)with rfl|a
   .omega
   .exact c x a
  .refine kR.2 ⟨fun x a=>?_,h⟩
   have b:n<=m:=by simpa using b
   rcases aU.1 a with rfl|a
   .exact b
   .exact Int.le_trans b (c x a)
def GM:∀l:List Int,(gD l).Pairwise (· <= ·)
 |[]=>.nil
 |n::l=>Lg n (GM l)
def TN{l k:List Int}(h:l.Perm k):(l.mergeSort fun x y=>decide (x<=y))=gD k:=by
 refine List.Perm.eq_of_pairwise (le:=(· <= ·)) (fun a b _ _ d e=>Int.le_antisymm d e) ?_ (GM k) (((List.mergeSort_perm l _).trans h).trans (tb k).symm)
 have:=List.pairwise_mergeSort (le:=fun x y:Int=>decide (x<=y)) (fun a b c d e=>by simp at*; omega) (fun a b=>by simp;omega) l
 exact this.imp fun h=>by simpa using h
def Eh:Value->Option (DataW Unit×List MemPlace):=fun _=>some (.nil,[])
def P1{w:World}{b clock:Nat}{c:Array MapEntry}{a:List Int}(J:w.heap[b]?=some (.map c clock))(d:xh c clock a.length)(l:∀(i:Nat)e k,c[i]?=some e->a[i]?=some k->e.key=jW k)
  (u:a.Nodup)(M:∀k∈a,0<=k/\k<4294967296)(Z:a.length<=2^20):∃t,rZ t a/\w.ownsMap Tryz.prog 29 Eh b a.length t:=by
 have v:∀x∈c.toList,∃(i:Nat)(k:Int),c[i]?=some x/\a[i]?=some k/\x.key=jW k/\rg Tryz.prog 29 Eh x=(Lit.int .u32 k,(.nil:DataW Unit))/\∃y,rd Tryz.prog 29 Eh x=some y:=by
  intro x m;obtain⟨i,f⟩:=rM.1 m;have q:c[i]?=some x:=by simpa using f
  have s:i<a.length:=by rw[<-d.1];exact(gK.1 q).1
  have g:=l i x a[i] q (bk s);obtain⟨A,R⟩:=M _ (gv s);have r:rd Tryz.prog 29 Eh x=some (Lit.int .u32 a[i],(.nil:DataW Unit)):=by
   have T:keyOf Tryz.prog 29 x.key=some (.int .u32 a[i]):=by
    rw[g];simp[keyOf,u29,mapKey,Lit.wf,IntKind.min,IntKind.max,IntKind.signed,IntKind.bits];omega
   simp[rd,T,Eh]
  exact⟨i,a[i],q,bk s,g,rg_of r,_,r⟩
 have a0:c.toList.length=a.length:=by rw[lS,d.1]
 have D:c.toList.map (fun x=>rg Tryz.prog 29 Eh x)=a.map fun k=>(Lit.int .u32 k,(.nil:DataW Unit)):=by
  apply eR;intro i;rw[bp,bp];by_cases f:i<a.length
  .have z:i<c.toList.length:=by rw[lS,d.1];exact f
   obtain⟨F,k,X,Y,H,I,-⟩:=v c.toList[i] (gv z);have g:=l i c.toList[i] a[i] (by simp) (bk f)
   rw[H]at g;have g:k=a[i]:=by simpa[jW]using g
   rw[bk z,bk f];simp only[cP];rw[I,g]
  .rw[ee (show c.toList.length<=i by omega),ee (show a.length<=i by omega)];rfl
 refine⟨.map ((c.toList.map (rg Tryz.prog 29 Eh)).foldr DataW.insert []),⟨fun x=>?_,u,?_⟩,c,clock,J,⟨by rw[d.1];simp[maxLen];omega,(MapKept.stamped_iff _ _).2 ⟨d.2.1,d.2.2,?_⟩,fun x m=>(v x m).elim fun i h=>h.elim fun k h=>h.2.2.2.2⟩,by rw[d.1];exact ar _,rfl⟩
 .rw[has_eq,og]
  constructor
  .rintro⟨p,n,K⟩
   have n:=mem_sorted.1 n;rw[show(c.toList.map (rg Tryz.prog 29 Eh))=_ from D]at n
   obtain⟨k,l,rfl⟩:=bg.1 n;have:k=x:=by simpa[Lit.sameKey]using K
   exact this▸l
  .intro m
   refine⟨(Lit.int .u32 x,.nil),mem_sorted.2 ?_,by simp[Lit.sameKey]⟩
   rw[show(c.toList.map (rg Tryz.prog 29 Eh))=_ from D]
   exact bg.2 ⟨x,m,rfl⟩
 .simp[Maps.size,length_sorted,d.1]
 .rw[xL]
  intro i j f o Q;rw[lS,d.1]at f o;have E:=l i c.toList[i] a[i] (by simp) (bk f)
  have G:=l j c.toList[j] a[j] (by simp) (bk o)
  rw[E,G];intro e;have e:a[i]=a[j]:=by simpa[jW]using e
  have:=(xL.1 u) i j f o Q;exact this e
set_option maxHeartbeats 1000000 in
theorem adl(c:List (PV×AV))(d:List Int)(M:c.map (·.1)=d.map W)(hn:d.Nodup)(hw:∀k∈d,0<=k/\k<4294967296)(Q:d.length<=2^20):
  ak 109 [.fn (.func 165) [] [.aA 0 0]] [.cells [.mp 1],.map 209 c] [vL 1 ((gD d).map fun k=>[W k])] [.cells [.mp 1],.map 209 c]:=by
 constructor
 intro w y O vs q E;obtain⟨v,rfl,D⟩:=KN E;obtain⟨n,X,elem,he,hh,b4,J,a3,-,a2⟩:=q.box 0 _ rfl;obtain⟨b,b1,clock,-,c2,b7,hb,hB,-,-,hc⟩:=q.box 1 _ rfl;have a4:c.length=d.length:=by have:=congrArg List.length M;simpa using this
 have b2:∀(i:Nat)e k,b1[i]?=some e->d[i]?=some k->e.key=jW k:=fun i e k D h2=>by
  have t:(c.map (·.1))[i]?=some (W k):=by rw[M,bp,h2];rfl
  rw[bp]at t;cases m:c[i]? with
  |none=>rw[m]at t;simp at t
  |some x=>
   rw[m]at t;have R:x.1=W k:=by simpa using t
   have:=(hc i e x D m).1;rw[R]at this;exact vH this
 obtain⟨F,a6,b3⟩:=P1 hb (a4▸hB) b2 hn hw Q;have b5:w.cell? ⟨n,0,none⟩=some (.map (some b)):=by
  have Z:0<X.size:=by rw[a3];simp
  obtain⟨-,h⟩:=a2 0 X[0] (.mp 1) (cK Z) rfl;have s:X[0]=.map (some b):=by
   have h:aL y [] w X[0] (.mp 1):=h;generalize X[0]=u at h;cases h;exact b7
  simp[World.cell?,J,cK Z,s]
 obtain⟨lb,rfl,a7⟩:∃lb:Array Value,v = .func (.func 165) #[] lb/\lb = #[.pointer (some ⟨n,0,none⟩)]:=by
  cases D with
  |@fn f fi o first cap g1 g2 g3 g4=>
   obtain rfl:fi = #[]:=Array.eq_empty_of_size_eq_zero (by simpa using g1)
   refine⟨o,rfl,?_⟩;have G:o.size=1:=by simpa using g2
   have l:=g4 0 o[0] (.aA 0 0) (cK (by omega)) rfl
   have s:o[0]=.pointer (some ⟨n,0,none⟩):=by
    generalize o[0]=u at l;cases l with
    |aA _ h=>rw[b4]at h;simp only[Value.pointer.injEq,aw,Addr.mk.injEq]at h;rw[h.1]
   apply Array.ext
   .simp[G]
   .intro i c3 c4
    have:i=0:=by omega
    subst this;simpa using s
 subst a7;have a1:n<w.heap.size:=(gK.1 J).1;have b6:SeqGives FW 2 Tryz.prog 165 #[.pointer (some ⟨n,0,none⟩)] jW (fun H=>H.Perm d) d.length w:=Ba 2 (by omega) n b d.length F a6 w a1 b5 b3
 have hC:CallsIn FW 5 Tryz.prog 109 #[.func (.func 165) #[] #[.pointer (some ⟨n,0,none⟩)]] w fun e I=>∃v,e = .returned v/\Below w.heap.size w I/\vQ I w.heap.size v (gD d):=by
  have mixed:=mixed;have t0:=Tryz.underlying0;have a0:=Tryz.isAgg0;have z0:=Tryz.sizeOf0;have v0:=Tryz.zeroValue0;have a9:=Tryz.underlying60;have b9:=Tryz.isAgg60;have d1:=Tryz.sizeOf60;have c9:=Tryz.zeroValue60;have b0:=Tryz.underlying219;have c0:=Tryz.isAgg219;have d2:=Tryz.sizeOf219;have d0:=Tryz.zeroValue219;have u0:=run_underlying t0;have c7:=run_underlying a9;have c8:=run_underlying b0;have e8:∀args w,(callFunc 163 args).run Tryz.prog w = .ok (.enter 163 args) w:=enters_of func163 rfl rfl;have e9:∀args w,(callFunc 164 args).run Tryz.prog w = .ok (.enter 164 args) w:=enters_of func164 rfl rfl;refine callsIn_of_wp func109 rfl trivial ?_ rfl;simp only[show f109.ntmps=9 from rfl,rJ,aC,cO,Nat.reduceAdd,Nat.reduceSub,xD,xC,tP,xx,ea,di]
  gi_wp2
  refine⟨trivial,(Jl 4 (by omega) 165 _ (enters_of func165 rfl rfl) _ d.length (by simp[maxLen];omega) (by omega) _ b6).mono ?_⟩
  rintro e w1 ⟨v,H,rfl,Vg,xn,-,P2⟩;gi_wp2
  have hlen:H.length=d.length:=Vg.length_eq;have G:=Nd q.frame.Bq P2 (Xj xn) (by omega)
  refine⟨trivial,(callsIn_wide.2 G).mono ?_⟩;rintro e I ⟨rfl,Ys,hh2⟩;gi_wp2
  go_ret
  rw[TN Vg]at hh2;exact⟨_,rfl,Ys,hh2⟩
 refine ek (enters_of func109 rfl rfl) (callsIn_wide.1 hC) ?_;rintro e w' ⟨v,rfl,P2,s⟩;have c6:(gD d).length<=2^20:=by rw[(tb d).length_eq];exact Q
 generalize gD d=z at*;rcases s with⟨rfl,A,rfl⟩|⟨g,cap,Y,e,rfl,hg,K,a8,c1,b8⟩
 .refine⟨_,rfl,oy y w w'.heap.size 0 false,[.slice A 0 0],pd q P2 ⟨P2.size,.inr ⟨rfl,rfl⟩⟩,dO (.v ?_),rfl,fun b h=>⟨h,rfl⟩⟩
  cases A with
  |none=>exact .mw 1
  |some a=>exact .Is a 1
 .have a5:g<w'.heap.size:=(gK.1 K).1
  refine⟨_,rfl,oy y w g z.length false,[.slice (some ⟨g,0,none⟩) z.length cap],pd q P2 ⟨hg,.inl a5⟩,dO (.v ?_),rfl,fun b h=>⟨h,rfl⟩⟩
  have T:∀(i j:Nat)p,jI (z.map fun k=>[W k]) i j=some p->∃x,z[i]?=some x/\j=0/\p=W x:=fun i j p l=>by
   simp only[jI,bp]at l;cases m:z[i]? with
   |none=>rw[m]at l;simp at l
   |some x=>
    rw[m]at l;match j,l with
    |0,l=>exact⟨x,rfl,rfl,by simpa using l.symm⟩
  refine .sl g 0 z.length cap 1 _ (fun i _=>jW (z.getD i 0)) (by simp) a8 (fun r E=>by obtain⟨x,-,rfl⟩:=bg.1 E;rfl) (fun i j p l=>?_) fun i j p l=>?_
  .obtain⟨x,m,rfl,rfl⟩:=T i j p l
   have c5:=(aE.1 m).1;refine⟨?_,?_⟩
   .show w'.cell? ⟨g,0+i*1+0,none⟩=_
    rw[show 0+i*1+0=i by omega,bS,m]
    simp[World.cell?,K,b8 i x m]
   .show 0+i*1+0<(if g<w.heap.size then y.bQ g else if g=g then z.length else 0)
    rw[aI (by omega),aF rfl]
    omega
  .obtain⟨x,m,rfl,rfl⟩:=T i j p l
   rw[bS,m];exact .int _ _
end
def A78:bq:={an:=[(1,7,ah)]}
def W78(a:By)(b:Int){r h}(H:(0<=(0:Int)/\(0:Int)<=(if(if(a.length:Int)<b then(a.length:Int)else b)>0 then(if(a.length:Int)<b then(a.length:Int)else b)else 0)/\(if(if(a.length:Int)<b then(a.length:Int)else b)>0 then(if(a.length:Int)<b then(a.length:Int)else b)else 0)<=(a.length:Int))/\∃c,ak 101 [vC (some (4607182418800017408,4607182418800017408)),vS (List.drop 0 (List.take (Int.toNat (if(if(a.length:Int)<b then(a.length:Int)else b)>0 then(if(a.length:Int)<b then(a.length:Int)else b)else 0)) a))] [] [vC c] []/\Fi r h [vC c] []):
  ak 78 [vS a,vN b] [] r h:=.of func78 A78 H
def adm:bq:={an:=[(1,1,ah),(4,8,ah)]}
def adn(d:Cx)(a:By){r h}(H:∃b,ak 140 [vS a,vS [10]] [] [vN b] []/\ay (b==0) (Fi r h [vC none] [])
 (∃c,ak 141 [vS a,vS [10]] [] [vN c] []/\bh .i64 ((a.length:Int)-c)/\Fi r h [vC none] [])):
  ak 101 [vC d,vS a] [] r h:=.of func101 adm H
def y8(a b c:Int)(d:Cx)(e:By)(f:Int)(g:Cx)(i:Rw):St:=⟨aM 56 [(1,vN a),(5,.aA 0 0),(6,.aA 1 0)],[],[.cells [vN b,vN c,vC d],.cells [vS e,vN f,vC g,O 4 i]]⟩
def Y9:bq:={an:=[(6,2,aa),(6,3,aa)],mod:=[(7,2,[(0,[0,2])]),(8,4,[(0,[0,2,3])])],cut:=[(4,{bl:=[1,5,6]})]}
def ado(b:By)(a:Int){r h}(H:ay (decide ((b.length:Int)>20000)) (Fi r h [vL 4 [],.agg [N 9,N a,C (some (4607182418800017408,4607182418800017408))]] [])
 (Lp f129 0 (y8 a 0 0 (some (0,0)) b a (some (4607182418800017408,4607182418800017408)) []) 0 r h)):
  ak 129 [vS b,vN a] [] r h:=.of func129 Y9 H
def Xk(e f g:Int)(i:Cx)(c:By)(a:Int)(d:Cx)(b:Rw){r h}(H:ay (!(c==[])) (∃j k,ak 178 [.aA 0 0] [.cells [vS c,vN a,vC d,O 4 b]] [vN j,vB k] [.cells [vS c,vN a,vC d,O 4 b]]/\ay (bif k then(decide (j>0))else false) (∃m n,ak 179 [.aA 0 0,vN j] [.cells [vS c,vN a,vC d,O 4 b]] [] [.cells [vS m,vN a,vC n,O 4 b]]/\Lp f129 0 (y8 e f g i m a n b) 0 r h)
 (ay (!k) (Fi r h [vL 4 [],.agg [N 3,N e,C d]] []) (∃o p l q,ak 180 [.aA 0 0] [.cells [vS c,vN a,vC d,O 4 b]] [vB o] [.cells [vS p,vN a,vC l,O 4 q]]/\ay (!o) (Fi r h [vL 4 [],.agg [N 3,N e,C l]] [])
 (Lp f129 0 (y8 e f g i p a l q) 0 r h))))
 (Fi r h [vL 4 b,.agg [N 0,N 0,C (some (0,0))]] [])):
  Lp f129 0 (y8 e f g i c a d b) 0 r h:=.of Y9 H
def adp:bq:={an:=[(1,4,ah),(3,4,ah),(4,5,ah)]}
def adq(a:By)(c:Int)(d:Cx)(e:Rw){r h}(H:∃f,ak 243 [vS a,vS [47,47]] [] [vB f] []/\ay f (∃g,ak 244 [vS a,.fn (.func 245) [] []] [] [vN g] []/\Fi r h [vN g,vB true] [.cells [vS a,vN c,vC d,O 4 e]])
 (∃i,ak 243 [vS a,vS [47,42]] [] [vB i] []/\ay i ((0<=(2:Int)/\(2:Int)<=(a.length:Int)/\(a.length:Int)<=(a.length:Int))/\∃b,ak 197 [vS (List.drop 2 (List.take a.length a)),vS [42,47]] [] [vN b] []/\bh .i64 (b+2)/\bh .i64 ((b+2)+2)/\Fi r h [vN ((b+2)+2),vB (decide (b>=0))] [.cells [vS a,vN c,vC d,O 4 e]])
 (∃j,ak 244 [vS a,.fn (.func 246) [] []] [] [vN j] []/\Fi r h [vN j,vB true] [.cells [vS a,vN c,vC d,O 4 e]]))):
  ak 178 [.aA 0 0] [.cells [vS a,vN c,vC d,O 4 e]] r h:=.of func178 adp H
def adr:bq:={an:=[(0,11,ah)]}
def ads(a:By)(c:Int)(d:Cx)(e:Rw)(b:Int){r h}(H:(0<=(0:Int)/\(0:Int)<=b/\b<=(a.length:Int))/\∃f,ak 101 [vC d,vS (List.drop 0 (List.take (Int.toNat b) a))] [] [vC f] []/\(0<=b/\b<=(a.length:Int)/\(a.length:Int)<=(a.length:Int))/\Fi r h [] [.cells [vS (List.drop (Int.toNat b) (List.take a.length a)),vN c,vC f,O 4 e]]):
  ak 179 [.aA 0 0,vN b] [.cells [vS a,vN c,vC d,O 4 e]] r h:=.of func179 adr H
def adt:bq:={an:=[(2,1,ah),(6,1,ah),(8,6,ah),(17,4,ah)],mod:=[(4,8,[(0,[0,2,3])]),(11,8,[(0,[0,2,3])]),(14,1,[(0,[0,2,3])]),(16,1,[(0,[0,2,3])]),(19,8,[(0,[0,2,3])])]}
def adu(a:By)(b:Int)(c:Cx)(d:Rw){r h}(H:(0<=(0:Int)/\0<(a.length:Int))/\∃i,ak 247 [vY (UInt8.toNat (List.getD a (Int.toNat 0) 0):Int)] [] [vB i] []/\ay i (∃g,ak 244 [vS a,.fn (.func 248) [] []] [] [vN g] []/\(0<=(0:Int)/\(0:Int)<=g/\g<=(a.length:Int))/\∃j k l,ak 249 [.aA 0 0,vN 1,vN g,vS (List.drop 0 (List.take (Int.toNat g) a))] [.cells [vS a,vN b,vC c,O 4 d]] [] [.cells [vS j,vN b,vC k,O 4 l]]/\Fi r h [vB true] [.cells [vS j,vN b,vC k,O 4 l]])
 (∃m,ak 250 [vY (UInt8.toNat (List.getD a (Int.toNat 0) 0):Int)] [] [vB m] []/\ay m (∃e,ak 244 [vS a,.fn (.func 248) [] []] [] [vN e] []/\(0<=(0:Int)/\(0:Int)<=e/\e<=(a.length:Int))/\∃I n,ak 251 [vS (List.drop 0 (List.take (Int.toNat e) a))] [] [vU I,vB n] []/\ay (!n) (Fi r h [vB false] [.cells [vS a,vN b,vC c,O 4 d]])
 ((0<=(0:Int)/\(0:Int)<=e/\e<=(a.length:Int))/\∃o p q,ak 249 [.aA 0 0,vN 2,vN e,vS (List.drop 0 (List.take (Int.toNat e) a))] [.cells [vS a,vN b,vC c,O 4 d]] [] [.cells [vS o,vN b,vC p,O 4 q]]/\Fi r h [vB true] [.cells [vS o,vN b,vC p,O 4 q]]))
 (ay ((UInt8.toNat (List.getD a (Int.toNat 0) 0):Int)==34) (∃s t u v,ak 252 [.aA 0 0] [.cells [vS a,vN b,vC c,O 4 d]] [vB s] [.cells [vS t,vN b,vC u,O 4 v]]/\Fi r h [vB s] [.cells [vS t,vN b,vC u,O 4 v]])
 (ay ((UInt8.toNat (List.getD a (Int.toNat 0) 0):Int)==35) (∃w x y z,ak 253 [.aA 0 0] [.cells [vS a,vN b,vC c,O 4 d]] [vB w] [.cells [vS x,vN b,vC y,O 4 z]]/\Fi r h [vB w] [.cells [vS x,vN b,vC y,O 4 z]])
 (∃f,ak 254 [vS a] [] [vN f] []/\ay (decide (f>0)) ((0<=(0:Int)/\(0:Int)<=f/\f<=(a.length:Int))/\∃D E G,ak 249 [.aA 0 0,vN 3,vN f,vS (List.drop 0 (List.take (Int.toNat f) a))] [.cells [vS a,vN b,vC c,O 4 d]] [] [.cells [vS D,vN b,vC E,O 4 G]]/\Fi r h [vB (decide (f>0))] [.cells [vS D,vN b,vC E,O 4 G]])
 (Fi r h [vB (decide (f>0))] [.cells [vS a,vN b,vC c,O 4 d]])))))):
  ak 180 [.aA 0 0] [.cells [vS a,vN b,vC c,O 4 d]] r h:=.of func180 adt H
def adv:bq:={an:=[(1,5,ah)]}
def adw(a:By){r h}(H:ay (!(a==[])) ((0<=(0:Int)/\0<(a.length:Int))/\∃b,ak 247 [vY (UInt8.toNat (List.getD a (Int.toNat 0) 0):Int)] [] [vB b] []/\ay b (∃c,ak 244 [vS a,.fn (.func 248) [] []] [] [vN c] []/\Fi r h [vB (c==(a.length:Int))] []) (Fi r h [vB false] [])) (Fi r h [vB false] [])):
  ak 202 [vS a] [] r h:=.of func202 adv H
def pC(a:By)(b:Int):St:=⟨aM 20 [(0,vS a),(1,.fn (.func 245) [] []),(5,vN b)],[],[]⟩
def GN:bq:={cut:=[(2,{bl:=[0,1,5]})]}
def P3(a:By){r h}(H:Lp f244 0 (pC a 0) 0 r h):
  ak 244 [vS a,.fn (.func 245) [] []] [] r h:=.of func244 GN H
def JL(b:By)(a:Int){r h}(H:ay (decide (a<(b.length:Int))) ((0<=a/\a<(b.length:Int))/\∃c,ak 245 [vY (UInt8.toNat (List.getD b (Int.toNat a) 0):Int)] [] [vB c] []/\ay c (bh .i64 (a+1)/\Lp f244 0 (pC b (a+1)) 0 r h)
 (Fi r h [vN a] [])) (Fi r h [vN a] [])):
  Lp f244 0 (pC b a) 0 r h:=.of GN H
def pD(a:By)(b:Int):St:=⟨aM 20 [(0,vS a),(1,.fn (.func 246) [] []),(5,vN b)],[],[]⟩
def GO:bq:={cut:=[(2,{bl:=[0,1,5]})]}
def P4(a:By){r h}(H:Lp f244 0 (pD a 0) 0 r h):
  ak 244 [vS a,.fn (.func 246) [] []] [] r h:=.of func244 GO H
def JM(b:By)(a:Int){r h}(H:ay (decide (a<(b.length:Int))) ((0<=a/\a<(b.length:Int))/\∃c,ak 246 [vY (UInt8.toNat (List.getD b (Int.toNat a) 0):Int)] [] [vB c] []/\ay c (bh .i64 (a+1)/\Lp f244 0 (pD b (a+1)) 0 r h)
 (Fi r h [vN a] [])) (Fi r h [vN a] [])):
  Lp f244 0 (pD b a) 0 r h:=.of GO H
def pE(a:By)(b:Int):St:=⟨aM 20 [(0,vS a),(1,.fn (.func 248) [] []),(5,vN b)],[],[]⟩
def GP:bq:={cut:=[(2,{bl:=[0,1,5]})]}
def P5(a:By){r h}(H:Lp f244 0 (pE a 0) 0 r h):
  ak 244 [vS a,.fn (.func 248) [] []] [] r h:=.of func244 GP H
def JN(b:By)(a:Int){r h}(H:ay (decide (a<(b.length:Int))) ((0<=a/\a<(b.length:Int))/\∃c,ak 248 [vY (UInt8.toNat (List.getD b (Int.toNat a) 0):Int)] [] [vB c] []/\ay c (bh .i64 (a+1)/\Lp f244 0 (pE b (a+1)) 0 r h)
 (Fi r h [vN a] [])) (Fi r h [vN a] [])):
  Lp f244 0 (pE b a) 0 r h:=.of GP H
def pF(a:By)(b:Int):St:=⟨aM 20 [(0,vS a),(1,.fn (.func 317) [] []),(5,vN b)],[],[]⟩
def GQ:bq:={cut:=[(2,{bl:=[0,1,5]})]}
def P6(a:By){r h}(H:Lp f244 0 (pF a 0) 0 r h):
  ak 244 [vS a,.fn (.func 317) [] []] [] r h:=.of func244 GQ H
def JO(b:By)(a:Int){r h}(H:ay (decide (a<(b.length:Int))) ((0<=a/\a<(b.length:Int))/\∃c,ak 317 [vY (UInt8.toNat (List.getD b (Int.toNat a) 0):Int)] [] [vB c] []/\ay c (bh .i64 (a+1)/\Lp f244 0 (pF b (a+1)) 0 r h)
 (Fi r h [vN a] [])) (Fi r h [vN a] [])):
  Lp f244 0 (pF b a) 0 r h:=.of GQ H
def adx:bq:={}
def ady(a:Int){r h}(H:Fi r h [vB (a !=10)] []):
  ak 245 [vY a] [] r h:=.of func245 adx H
def adz:bq:={an:=[(1,3,aa),(1,4,aa),(1,7,aa),(1,8,aa),(1,11,aa),(1,12,aa)]}
def adA(a:Int){r h}(H:Fi r h [vB (bif(bif(bif(a==32)then true else(a==9))then true else(a==10))then true else(a==13))] []):
  ak 246 [vY a] [] r h:=.of func246 adz H
def adB:bq:={an:=[(1,3,aa),(1,4,aa),(1,5,aa),(1,6,aa),(1,7,aa),(1,8,aa),(1,11,aa),(1,12,aa),(1,13,aa),(1,14,aa),(1,15,aa),(1,16,aa)]}
def adC(a:Int){r h}(H:Fi r h [vB (bif(bif(a==95)then true else(bif(decide (a>=97))then(decide (a<=122))else false))then true else(bif(decide (a>=65))then(decide (a<=90))else false))] []):
  ak 247 [vY a] [] r h:=.of func247 adB H
def adD:bq:={an:=[(1,1,ah),(1,4,ah)]}
def adE(a:Int){r h}(H:∃b,ak 247 [vY a] [] [vB b] []/\ay b (Fi r h [vB true] []) (∃c,ak 250 [vY a] [] [vB c] []/\Fi r h [vB c] [])):
  ak 248 [vY a] [] r h:=.of func248 adD H
def tc(a:Int)(b:By)(c:Int)(d:Cx)(e:Rw):St:=⟨aM 31 [(0,.aA 0 0),(2,vN a)],[],[.cells [vS b,vN c,vC d,O 4 e]]⟩
def Za:bq:={an:=[(0,4,iH),(0,10,fy),(0,14,fy),(0,20,iH)],mod:=[(1,2,[(0,[0,2])])],join:=[(1,{bl:=[0,2]})]}
def adF(f:By)(a:Int)(b:Cx)(c:Rw)(d g:Int)(e:By){r h}(H:((c++([[N d,S e,N a,C b]]:Rw)).length*48<=2^47/\Rp f249 1 (tc g f a b (c++([[N d,S e,N a,C b]]:Rw))) 1 r h)/\(((c++([[N d,S e,N a,C b]]:Rw)).length*48<=2^47/\Rp f249 1 (tc g f a b (c++([[N d,S e,N a,C b]]:Rw))) 1 r h)/\((c++([[N d,S e,N a,C b]]:Rw)).length*48<=2^47/\Rp f249 1 (tc g f a b (c++([[N d,S e,N a,C b]]:Rw))) 1 r h))/\(((c++([[N d,S e,N a,C b]]:Rw)).length*48<=2^47/\Rp f249 1 (tc g f a b (c++([[N d,S e,N a,C b]]:Rw))) 1 r h)/\((c++([[N d,S e,N a,C b]]:Rw)).length*48<=2^47/\Rp f249 1 (tc g f a b (c++([[N d,S e,N a,C b]]:Rw))) 1 r h))):
  ak 249 [.aA 0 0,vN d,vN g,vS e] [.cells [vS f,vN a,vC b,O 4 c]] r h:=.of func249 Za H
def Xl(c:Int)(d:By)(a:Int)(e:Cx)(b:Rw){r h}(H:∃f g,ak 179 [.aA 0 0,vN c] [.cells [vS d,vN a,vC e,O 4 b]] [] [.cells [vS f,vN a,vC g,O 4 b]]/\Fi r h [] [.cells [vS f,vN a,vC g,O 4 b]]):
  Rp f249 1 (tc c d a e b) 1 r h:=xm.of Za H
def adG:bq:={an:=[(1,3,aa),(1,4,aa)]}
def adH(a:Int){r h}(H:Fi r h [vB (bif(decide (a>=48))then(decide (a<=57))else false)] []):
  ak 250 [vY a] [] r h:=.of func250 adG H
def y9(a:Int)(b:By)(c d e:Int):St:=⟨aM 57 [(4,vU a),(5,vS b),(7,vU c),(21,vN d),(22,vN e)],[],[]⟩
def Zb:bq:={an:=[(2,1,ah),(9,3,ah),(10,2,ah),(11,2,ah),(12,4,aa),(12,5,aa),(12,8,aa),(12,9,aa)],cut:=[(7,{bl:=[4,5,7,21,22]})]}
def adI(b:By){r h}(H:∃a c,ak 313 [vS b,vS [48,120]] [] [vS a,vB c] []/\ay c (Lp f251 0 (y9 16 a 0 (a.length:Int) 0) 0 r h)
 (Lp f251 0 (y9 10 a 0 (a.length:Int) 0) 0 r h)):
  ak 251 [vS b] [] r h:=.of func251 Zb H
def P7(c:Int)(b:By)(d e a:Int){r h}(H:ay (decide (a<e)) ((0<=a/\a<(b.length:Int))/\∃f,ak 314 [vY (UInt8.toNat (List.getD b (Int.toNat a) 0):Int)] [] [vU f] []/\∃g i,ak 315 [vU d,vU c] [] [vU g,vU i] []/\∃j k,ak 316 [vU i,vU f,vU 0] [] [vU j,vU k] []/\ay (bif(bif(decide (f>=c))then true else(g !=0))then true else(k !=0)) (Fi r h [vU 0,vB false] [])
 (bh .i64 (a+1)/\Lp f251 0 (y9 c b j e (a+1)) 0 r h))
 (Fi r h [vU d,vB (!(b==[]))] [])):
  Lp f251 0 (y9 c b d e a) 0 r h:=.of Zb H
def adJ:bq:={mod:=[(4,10,[(0,[0,2,3])])]}
def adK(a:By)(c:Int)(d:Cx)(e:Rw){r h}(H:(0<=(1:Int)/\(1:Int)<=(a.length:Int)/\(a.length:Int)<=(a.length:Int))/\∃b,ak 244 [vS (List.drop 1 (List.take a.length a)),.fn (.func 317) [] []] [] [vN b] []/\bh .i64 (b+1)/\ay ((b+1)==(a.length:Int)) (Fi r h [vB false] [.cells [vS a,vN c,vC d,O 4 e]]) (bh .i64 (b+1)/\(0<=(b+1)/\(b+1)<(a.length:Int))/\ay ((UInt8.toNat (List.getD a (Int.toNat (b+1)) 0):Int) !=34) (Fi r h [vB false] [.cells [vS a,vN c,vC d,O 4 e]])
 (bh .i64 (b+2)/\bh .i64 (b+1)/\(0<=(1:Int)/\(1:Int)<=(b+1)/\(b+1)<=(a.length:Int))/\∃f g i,ak 249 [.aA 0 0,vN 4,vN (b+2),vS (List.drop 1 (List.take (Int.toNat (b+1)) a))] [.cells [vS a,vN c,vC d,O 4 e]] [] [.cells [vS f,vN c,vC g,O 4 i]]/\Fi r h [vB true] [.cells [vS f,vN c,vC g,O 4 i]]))):
  ak 252 [.aA 0 0] [.cells [vS a,vN c,vC d,O 4 e]] r h:=.of func252 adJ H
def adL:bq:={an:=[(3,3,aa),(3,4,aa)],mod:=[(5,8,[(0,[0,2,3])])]}
def adM(a:By)(c:Int)(d:Cx)(e:Rw){r h}(H:(0<=(1:Int)/\(1:Int)<=(a.length:Int)/\(a.length:Int)<=(a.length:Int))/\∃b,ak 244 [vS (List.drop 1 (List.take a.length a)),.fn (.func 248) [] []] [] [vN b] []/\bh .i64 ((1:Int)+b)/\(0<=(0:Int)/\(0:Int)<=((1:Int)+b)/\((1:Int)+b)<=(a.length:Int))/\ay (bif(!((List.drop 0 (List.take (Int.toNat ((1:Int)+b)) a))==[35,105,110,99,108,117,100,101]))then(!((List.drop 0 (List.take (Int.toNat ((1:Int)+b)) a))==[35,100,101,102,105,110,101]))else false) (Fi r h [vB false] [.cells [vS a,vN c,vC d,O 4 e]])
 ((0<=(0:Int)/\(0:Int)<=((1:Int)+b)/\((1:Int)+b)<=(a.length:Int))/\∃f g i,ak 249 [.aA 0 0,vN 5,vN ((1:Int)+b),vS (List.drop 0 (List.take (Int.toNat ((1:Int)+b)) a))] [.cells [vS a,vN c,vC d,O 4 e]] [] [.cells [vS f,vN c,vC g,O 4 i]]/\Fi r h [vB true] [.cells [vS f,vN c,vC g,O 4 i]])):
  ak 253 [.aA 0 0] [.cells [vS a,vN c,vC d,O 4 e]] r h:=.of func253 adL H
def adN:bq:={an:=[(1,7,ah),(3,2,ah)]}
def adO(a:By){r h}(H:ay (decide ((a.length:Int)>1)) ((0<=(0:Int)/\(0:Int)<=2/\(2:Int)<=(a.length:Int))/\∃b,ak 203 [vL 1 [[S [38,38]],[S [124,124]],[S [61,61]],[S [33,61]],[S [60,61]],[S [62,61]]],vS (List.drop 0 (List.take 2 a))] [] [vB b] []/\ay b (Fi r h [vN 2] [])
 ((0<=(0:Int)/\0<(a.length:Int))/\∃c,ak 318 [vS [123,125,40,41,44,33,38,124,60,62],vY (UInt8.toNat (List.getD a (Int.toNat 0) 0):Int)] [] [vN c] []/\ay (decide (c>=0)) (Fi r h [vN 1] [])
 (Fi r h [vN 0] []))) ((0<=(0:Int)/\0<(a.length:Int))/\∃d,ak 318 [vS [123,125,40,41,44,33,38,124,60,62],vY (UInt8.toNat (List.getD a (Int.toNat 0) 0):Int)] [] [vN d] []/\ay (decide (d>=0)) (Fi r h [vN 1] [])
 (Fi r h [vN 0] []))):
  ak 254 [vS a] [] r h:=.of func254 adN H
def adP:bq:={an:=[(1,1,ah),(3,3,aa),(3,4,aa),(5,3,aa),(5,4,aa)]}
def adQ(a:Int){r h}(H:∃b,ak 250 [vY a] [] [vB b] []/\ay b (Fi r h [vU (IntKind.wrap .u64 (IntKind.wrap .u8 (a-48)))] [])
 (ay (bif(decide (a>=97))then(decide (a<=102))else false) (Fi r h [vU (IntKind.wrap .u64 ((IntKind.wrap .u64 (IntKind.wrap .u8 (a-97)))+10))] [])
 (ay (bif(decide (a>=65))then(decide (a<=70))else false) (Fi r h [vU (IntKind.wrap .u64 ((IntKind.wrap .u64 (IntKind.wrap .u8 (a-65)))+10))] [])
 (Fi r h [vU 16] [])))):
  ak 314 [vY a] [] r h:=.of func314 adP H
def adR:bq:={an:=[(1,3,aa),(1,4,aa)]}
def adS(a:Int){r h}(H:Fi r h [vB (bif(a !=34)then(a !=10)else false)] []):
  ak 317 [vY a] [] r h:=.of func317 adR H
def P8(s:By)(l:List By)(d:l.length<=2^40):ak 267 [vL 1 (aR l),vS s] [] [vN (idx (s == ·) l)] []:=
 acA _ _ (ew (Hd:=D4 _ _ _) d fun i r h b c=>WJ _ _ _ _ (eA (l:=l) (by simp[aR]) (fun x a=>⟨x,by omega,aY a,b x a⟩) c))
def ki(s:By)(l:List By):Bool:=l.any (s == ·)
def TO(s:By)(l:List By)(a:l.length<=2^40):ak 203 [vL 1 (aR l),vS s] [] [vB (ki s l)] []:=
 acy _ _ ⟨_,P8 s l a,ai (by rw[nz];rfl) rfl⟩
def cT(c:Int):Bool:=bif(bif(c==95)then true else(bif(decide (c>=97))then(decide (c<=122))else false))then true else(bif(decide (c>=65))then(decide (c<=90))else false)
def gj(c:Int):Bool:=bif(decide (c>=48))then(decide (c<=57))else false
def bL(c:Int):Bool:=bif cT c then true else gj c
def fU(c:Int):Bool:=bif(bif(bif(c==32)then true else(c==9))then true else(c==10))then true else(c==13)
def Lh(c:Int):Bool:=c !=10
def oz(c:Int):Bool:=bif(c !=34)then(c !=10)else false
def Xm(c:Int):ak 247 [vY c] [] [vB (cT c)] []:=adC c fi
def Xn(c:Int):ak 250 [vY c] [] [vB (gj c)] []:=adH c fi
def adT(c:Int):ak 248 [vY c] [] [vB (bL c)] []:=
 adE c ⟨_,Xm c,ae (fun h=>ai (by rw[bL,h];rfl) rfl) fun h=>⟨_,Xn c,ai (by rw[bL,h];rfl) rfl⟩⟩
def adU(c:Int):ak 246 [vY c] [] [vB (fU c)] []:=adA c fi
def adV(c:Int):ak 245 [vY c] [] [vB (Lh c)] []:=ady c fi
def adW(c:Int):ak 317 [vY c] [] [vB (oz c)] []:=adS c fi
def runN(p:Int->Bool):By->Nat
 |[]=>0
 |c::t=>bif p c.toNat then runN p t+1 else 0
def lY(p:Int->Bool):∀s,runN p s<=s.length
 |[]=>ar _
 |c::t=>by
  have:=lY p t;unfold runN;cases p c.toNat<;>simp;omega
def byte_at{s:By}{i:Nat}{c:UInt8}(h:s[i]?=some c):(UInt8.toNat (List.getD s (Int.toNat (i:Int)) 0):Int)=c.toNat:=by
 rw[toNat_cast,bS,h];rfl
def uI{fn:Func}{d:List Item}{Hd:Int->St}{q:FuncId}{p:Int->Bool}(s:By)(l:s.length<=2^40)(g:∀c:Int,ak q [vY c] [] [vB (p c)] [])
  (step:∀(n:Int)(r:List AV)(h:List Bx),ay (decide (n<(s.length:Int))) ((0<=n/\n<(s.length:Int))/\∃b,ak q [vY (UInt8.toNat (List.getD s (Int.toNat n) 0):Int)] [] [vB b] []/\ay b (bh .i64 (n+1)/\ma fn d (Hd (n+1)) 0 r h) (Fi r h [vN n] [])) (Fi r h [vN n] [])->ma fn d (Hd n) 0 r h):
  ma fn d (Hd 0) 0 [vN (runN p s)] []:=by
 have key:∀(t:By)(i:Nat),s.drop i=t->ma fn d (Hd i) 0 [vN ((i+runN p t:Nat):Int)] []:=by
  intro t;induction t with
  |nil=>intro i a;exact step _ _ _ (aT rfl a (ai (by simp[runN]) rfl))
  |cons c t j=>
   intro i a;obtain⟨e,f,k⟩:=drop_cons a;refine step _ _ _ (aO rfl a ⟨⟨by omega,by omega⟩,_,g _,?_⟩)
   rw[byte_at e];unfold runN;refine ae (fun h=>⟨aB,?_⟩) fun h=>ai (by rw[h];simp) rfl
   rw[h];have:=j (i+1) f;rw[show i+1+runN p t=i+(runN p t+1) by omega]at this
   exact this
 have:=key s 0 rfl;rw[cr]at this;exact this
def P9(s:By)(a:s.length<=2^40):ak 244 [vS s,.fn (.func 245) [] []] [] [vN (runN Lh s)] []:=P3 s (uI (Hd:=pC s) s a adV fun n r h H=>JL s n H)
def Qa(s:By)(a:s.length<=2^40):ak 244 [vS s,.fn (.func 246) [] []] [] [vN (runN fU s)] []:=P4 s (uI (Hd:=pD s) s a adU fun n r h H=>JM s n H)
def uJ(s:By)(a:s.length<=2^40):ak 244 [vS s,.fn (.func 248) [] []] [] [vN (runN bL s)] []:=P5 s (uI (Hd:=pE s) s a adT fun n r h H=>JN s n H)
def Qb(s:By)(a:s.length<=2^40):ak 244 [vS s,.fn (.func 317) [] []] [] [vN (runN oz s)] []:=P6 s (uI (Hd:=pF s) s a adW fun n r h H=>JO s n H)
def lM(s:By):Bool:=bif s==[]then false else bif cT (UInt8.toNat (s.getD 0 0):Int)then((runN bL s:Int)==(s.length:Int))else false
def adX(s:By)(c:s.length<=2^40):ak 202 [vS s] [] [vB (lM s)] []:=by
 refine adw s (ae (fun h=>?_) fun h=>ai (by rw[lM];simp at h;simp[h]) rfl)
 have b:(s==[])=false:=by simpa using h
 have d:0<s.length:=by cases s with|nil=>simp at h|cons=>simp
 refine⟨⟨by omega,by omega⟩,_,Xm _,ae (fun a=>⟨_,uJ s c,ai ?_ rfl⟩) fun a=>ai ?_ rfl⟩
 .rw[lM,b,show Int.toNat 0=0 from rfl]at*; rw[show cT (UInt8.toNat (s.getD 0 0):Int)=true from a];rfl
 .rw[lM,b,show Int.toNat 0=0 from rfl]at*; rw[show cT (UInt8.toNat (s.getD 0 0):Int)=false from a];rfl
def eo(c:Int):Int:=bif gj c then IntKind.wrap .u64 (IntKind.wrap .u8 (c-48))else
 bif(bif(decide (c>=97))then(decide (c<=102))else false)then IntKind.wrap .u64 ((IntKind.wrap .u64 (IntKind.wrap .u8 (c-97)))+10)else
 bif(bif(decide (c>=65))then(decide (c<=70))else false)then IntKind.wrap .u64 ((IntKind.wrap .u64 (IntKind.wrap .u8 (c-65)))+10)else 16
def adY(c:Int):ak 314 [vY c] [] [vU (eo c)] []:=by
 refine adQ c ⟨_,Xn c,ae (fun h=>ai (by rw[eo,h];rfl) rfl) fun h=>ae (fun a=>ai (by rw[eo,h,a];rfl) rfl) fun a=>ae (fun b=>ai (by rw[eo,h,a,b];rfl) rfl) fun b=>ai (by rw[eo,h,a,b];rfl) rfl⟩
def za{k:IntKind}(a:k.signed=false)(n:Int):0<=k.wrap n/\k.wrap n<2^k.bits:=by
 have b:(0:Int)<2^k.bits:=oa (by decide)
 unfold IntKind.wrap;simp only[a];exact⟨mm _ (by omega),oV _ b⟩
def Ei(c:Int):0<=eo c/\eo c<18446744073709551616:=by
 have a:∀n,0<=IntKind.wrap .u64 n/\IntKind.wrap .u64 n<18446744073709551616:=fun n=>za rfl n
 unfold eo;cases gj c<;>simp only[aj,af]
 .cases(bif(decide (c>=97))then(decide (c<=102))else false)<;>simp only[aj,af]
  .cases(bif(decide (c>=65))then(decide (c<=70))else false)<;>simp only[aj,af]
   .omega
   .exact a _
  .exact a _
 .exact a _
def oA(base:Int):By->Int->Option Int
 |[],n=>some n
 |c::t,n=>bif(bif decide (eo c.toNat>=base)then true else decide (n*base+eo c.toNat>=18446744073709551616))then none else oA base t (n*base+eo c.toNat)
def oB(s:By):Int×Bool:=
 let a:=List.isPrefixOf [48,120] s
 let rest:=bif a then s.drop 2 else s
 match oA (bif a then 16 else 10) rest 0 with
 |none=>(0,false)
 |some n=>(n,!(rest==[]))
def Xo(base:Int)(o:base=16\/base=10)(s:By)(q:s.length<=2^40):∀(t:By)(i:Nat)(n:Int),s.drop i=t->0<=n/\n<18446744073709551616 ->
  Lp f251 0 (y9 base s n (s.length:Int) i) 0 (match oA base t n with|none=>[vU 0,vB false]|some m=>[vU m,vB (!(s==[]))]) []
 |[],i,n,h,b=>P7 _ _ _ _ _ (aT rfl h fi)
 |c::t,i,n,h,b=>by
  obtain⟨j,k,w⟩:=drop_cons h;have u:=Ei c.toNat;have p:0<=n*base%18446744073709551616/\n*base%18446744073709551616<18446744073709551616:=⟨mm _ (by decide),oV _ (by decide)⟩
  have y:0<=n*base:=tM b.1 (by omega)
  refine P7 _ _ _ _ _ (aO rfl h ⟨⟨by omega,by omega⟩,_,by rw[byte_at j];exact adY _,_,_,acg _ _ b (by omega),_,_,ach _ _ p u,?_⟩)
  have e:(bif(bif(decide (eo c.toNat>=base))then true else(n*base/18446744073709551616 !=0))then true else((n*base%18446744073709551616+eo c.toNat)/18446744073709551616 !=0))=(bif decide (eo c.toNat>=base)then true else decide (n*base+eo c.toNat>=18446744073709551616)):=by
   cases decide (eo c.toNat>=base)with
   |true=>rfl
   |false=>
    simp only[af];generalize n*base=x at*;generalize eo c.toNat=v at*;by_cases d:x/18446744073709551616=0
    .rw[d]
     simp only[bne_self_eq_false,af];by_cases f:(x%18446744073709551616+v)/18446744073709551616=0
     .rw[f,cf (by omega)];rfl
     .rw[bI (by omega)];simpa using f
    .rw[bI (by omega)]
     have:(x/18446744073709551616 !=0)=true:=by simpa using d
     rw[this];rfl
  rw[e];unfold oA;refine ae (fun a=>ai (by rw[a];rfl) rfl) fun a=>⟨aB,?_⟩
  rw[a];have l:n*base+eo c.toNat<18446744073709551616:=by
   have:decide (n*base+eo c.toNat>=18446744073709551616)=false:=by
    revert a
    cases decide (eo c.toNat>=base)<;>simp
   have:=bH this;omega
  have g:(n*base%18446744073709551616+eo c.toNat)%18446744073709551616=n*base+eo c.toNat:=by
   generalize n*base=x at*;omega
  rw[g];exact Xo base o s q t (i+1) _ k ⟨by omega,l⟩
def Xp(s:By)(a:s.length<=2^40):ak 251 [vS s] [] [vU (oB s).1,vB (oB s).2] []:=by
 refine adI s ⟨_,_,acb s [48,120],ae (fun h=>?_) fun h=>?_⟩
 .have:=Xo 16 (.inl rfl) (s.drop 2) (by simp;omega) _ 0 0 rfl (by omega)
  simp only[oB,h,aj]at this⊢;simp only[gq]at this;split at this<;>exact this
 .have:=Xo 10 (.inr rfl) s a _ 0 0 rfl (by omega)
  simp only[oB,h,af]at this⊢;simp only[gq]at this;split at this<;>exact this
def qT(c:UInt8):∀s,-1<=jB c s/\jB c s<s.length
 |[]=>by simp[jB]
 |d::t=>by
  have:=qT c t;unfold jB;simp only[aC];cases h:decide (jB c t>=0)<;>simp only[aj,af]
  .cases d==c<;>simp only[aj,af]<;>omega
  .omega
def Zc(p:Cx)(s:By)(a:s.length<=2^40):ak 101 [vC p,vS s] [] [vC none] []:=by
 have:=qT 10 s;exact adn p s ⟨_,ace s 10 a,ae (fun _=>fi) fun _=>⟨_,YV s 10 a,aB,fi⟩⟩
def C78(s:By)(b:s.length<=2^40):ak 78 [vS s,vN s.length] [] [vC none] []:=by
 have a:(if(if(s.length:Int)<(s.length:Int)then(s.length:Int)else s.length)>0 then(if(s.length:Int)<(s.length:Int)then(s.length:Int)else s.length)else 0)=(s.length:Int):=by
  simp only[Int.lt_irrefl,if_false];split<;>omega
 refine W78 s _ ?_;rw[a];exact⟨⟨by omega,by omega,by omega⟩,_,Zc _ _ (by simp;omega),fi⟩
abbrev rd(s:By)(file:Int)(a:Cx)(b:List Tok):Bx:=.cells [vS s,vN file,vC a,O 4 (b.map Tok.row)]
def Zd(s:By)(file:Int)(a:Cx)(b:List Tok)(n:Nat)(c:n<=s.length)(d:s.length<=2^40):ak 179 [.aA 0 0,vN n] [rd s file a b] [] [rd (s.drop n) file none b]:=by
 refine ads s file a _ n ⟨⟨by omega,by omega,by omega⟩,_,Zc _ _ (by simp;omega),⟨by omega,by omega,by omega⟩,ai rfl ?_⟩
 simp[eU]
def Qc(s:By)(file:Int)(a:Cx)(b:List Tok)(kind:Int)(n:Nat)(text:By)(c:n<=s.length)(d:s.length<=2^40)(f:b.length<=2^40):
  ak 249 [.aA 0 0,vN kind,vN n,vS text] [rd s file a b] [] [rd (s.drop n) file none (b++[⟨kind,text,file,a⟩])]:=by
 have e:(b.map Tok.row++([[N kind,S text,N file,C a]]:Rw))=(b++[(⟨kind,text,file,a⟩:Tok)]).map Tok.row:=by simp[Tok.row]
 have key:(b.map Tok.row++([[N kind,S text,N file,C a]]:Rw)).length*48<=2^47/\Rp f249 1 (tc n s file a (b.map Tok.row++([[N kind,S text,N file,C a]]:Rw))) 1 [] [rd (s.drop n) file none (b++[⟨kind,text,file,a⟩])]:=by
  refine⟨by simp;omega,?_⟩
  rw[e];exact Xl _ _ _ _ _ ⟨_,_,Zd s file a _ n c d,fi⟩
 exact adF s file a _ kind n text ⟨key,⟨key,key⟩,key,key⟩
def dK(s:By):Int×Bool:=
 bif List.isPrefixOf [47,47] s then((runN Lh s:Int),true)else
 bif List.isPrefixOf [47,42] s then(iI [42,47] (s.drop 2)+2+2,decide (iI [42,47] (s.drop 2)>=0))else
 ((runN fU s:Int),true)
def pG(p:By):∀s,-1<=iI p s/\iI p s<=s.length/\(0<=iI p s->iI p s+p.length<=s.length)
 |[]=>by
  unfold iI;cases p<;>simp
 |c::t=>by
  have:=pG p t;unfold iI;simp only[aC];cases h:p.isPrefixOf (c::t)<;>simp only[aj,af]
  .cases h:decide (iI p t<0)<;>simp only[aj,af]
   .have:=bH h;omega
   .omega
  .have:p.length<=(c::t).length:=Dk (Dp.1 h)
   simp at this;omega
def adZ(s:By)(file:Int)(b:Cx)(d:List Tok)(i:s.length<=2^31):ak 178 [.aA 0 0] [rd s file b d] [vN (dK s).1,vB (dK s).2] [rd s file b d]:=by
 have c:s.length<=2^40:=by omega
 refine adq s file b _ ⟨_,WD _ _,ae (fun h=>⟨_,P9 s c,ai (by rw[dK,h];rfl) rfl⟩) fun h=>⟨_,WD _ _,ae (fun a=>?_) fun a=>⟨_,Qa s c,ai (by rw[dK,h,a];rfl) rfl⟩⟩⟩
 have g:2<=s.length:=by simpa using Dk (Dp.1 a)
 have e:List.drop 2 (List.take s.length s)=s.drop 2:=by rw[eU (ar _)]
 rw[e];have:=pG [42,47] (s.drop 2);have f:(s.drop 2).length<=2^31:=by simp;omega
 exact⟨⟨by omega,by omega,by omega⟩,_,acf _ _ f (by decide),aB,aB,ai (by rw[dK,h,a];rfl) rfl⟩
def Nf(s:By)(h:(dK s).2=true):0<=(dK s).1/\(dK s).1<=s.length:=by
 unfold dK at h⊢;revert h
 cases h1:List.isPrefixOf [47,47] s<;>simp only[aj,af]
 .cases h2:List.isPrefixOf [47,42] s<;>simp only[aj,af]
  .intro _;have:=lY fU s;omega
  .intro h
   have h:=aN h;have:=(pG [42,47] (s.drop 2)).2.2 h;have a:2<=s.length:=by simpa using Dk (Dp.1 h2)
   simp at this;omega
 .intro _;have:=lY Lh s;omega
def kD:List By:=[[38,38],[124,124],[61,61],[33,61],[60,61],[62,61]]
def qU:By:=[123,125,40,41,44,33,38,124,60,62]
def jC(s:By):Nat:=bif(bif decide ((s.length:Int)>1)then ki (s.take 2) kD else false)then 2 else bif decide (indexB (UInt8.toNat (s.getD 0 0):Int) qU>=0)then 1 else 0
def ad0(s:By)(b:0<s.length):ak 254 [vS s] [] [vN (jC s)] []:=by
 have one:(0<=(0:Int)/\0<(s.length:Int))/\∃i,ak 318 [vS [123,125,40,41,44,33,38,124,60,62],vY (UInt8.toNat (List.getD s (Int.toNat 0) 0):Int)] [] [vN i] []/\ay (decide (i>=0)) (Fi [vN (bif decide (indexB (UInt8.toNat (s.getD 0 0):Int) qU>=0)then(1:Nat)else 0:Nat)] [] [vN 1] []) (Fi [vN (bif decide (indexB (UInt8.toNat (s.getD 0 0):Int) qU>=0)then(1:Nat)else 0:Nat)] [] [vN 0] []):=
  ⟨⟨by omega,by omega⟩,_,acd _ _ (by decide),ae (fun h=>ai (by rw[show decide (indexB (UInt8.toNat (s.getD 0 0):Int) qU>=0)=true from h];rfl) rfl) fun h=>ai (by rw[show decide (indexB (UInt8.toNat (s.getD 0 0):Int) qU>=0)=false from h];rfl) rfl⟩
 refine adO s (ae (fun h=>?_) fun h=>?_)
 .have c:=aN h
  refine⟨⟨by omega,by omega,by omega⟩,_,TO (List.drop 0 (List.take 2 s)) kD (by decide),ae (fun a=>?_) fun a=>?_⟩
  .exact ai (by rw[jC,h,show ki (s.take 2) kD=true from a];rfl) rfl
  .rw[jC,h,show ki (s.take 2) kD=false from a]
   exact one
 .rw[jC,h]
  exact one
def GR(s:By)(a:0<s.length):jC s<=s.length:=by
 unfold jC;cases h:decide ((s.length:Int)>1)with
 |true=>
  have:=aN h;cases ki (s.take 2) kD<;>simp only[aj,af]
  .cases decide (indexB (UInt8.toNat (s.getD 0 0):Int) qU>=0)<;>simp only[aj,af]<;>omega
  .omega
 |false=>cases decide (indexB (UInt8.toNat (s.getD 0 0):Int) qU>=0)<;>simp only[aj,af]<;>omega
def oC(s:By):Option Nat:=
 bif(bif((runN oz (s.drop 1):Int)+1==(s.length:Int))then true else((UInt8.toNat (s.getD (runN oz (s.drop 1)+1) 0):Int) !=34))then none else some (runN oz (s.drop 1))
def iU:By:=[35,105,110,99,108,117,100,101]
def bP:By:=[35,100,101,102,105,110,101]
def p9(s:By):Option Nat:=
 bif(bif(!((s.take (1+runN bL (s.drop 1)))==iU))then(!((s.take (1+runN bL (s.drop 1)))==bP))else false)then none else some (1+runN bL (s.drop 1))
def Li(s:By)(a:0<s.length):List.drop 1 (List.take s.length s)=s.drop 1/\(s.drop 1).length+1=s.length:=by
 rw[eU (ar _)];simp;omega
def ad1(s:By)(file:Int)(a:Cx)(b:List Tok)(e:0<s.length)(i:s.length<=2^40)(f:b.length<=2^40):
  ak 252 [.aA 0 0] [rd s file a b] [vB (oC s).isSome] [match oC s with|none=>rd s file a b|some m=>rd (s.drop (m+2)) file none (b++[⟨4,(s.take (m+1)).drop 1,file,a⟩])]:=by
 obtain⟨d,j⟩:=Li s e;have k:=lY oz (s.drop 1);refine adK s file a _ ⟨⟨by omega,by omega,by omega⟩,_,by rw[d];exact Qb _ (by omega),aB,ae (fun h=>?_) fun h=>⟨aB,⟨by omega,?_⟩,ae (fun c=>?_) fun c=>?_⟩⟩
 .have:oC s=none:=by unfold oC;simp only[h,aj]
  rw[this];exact fi
 .have:=gr h
  omega
 .have:oC s=none:=by
   unfold oC;simp only[h,af];rw[show((UInt8.toNat (s.getD (runN oz (s.drop 1)+1) 0):Int) !=34)=true from c]
   rfl
  rw[this];exact fi
 .have g:oC s=some (runN oz (s.drop 1)):=by
   unfold oC;simp only[h,af];rw[show((UInt8.toNat (s.getD (runN oz (s.drop 1)+1) 0):Int) !=34)=false from c]
   rfl
  have l:=gr h;rw[g];exact⟨aB,aB,⟨by omega,by omega,by omega⟩,_,_,_,Qc s file a b 4 (runN oz (s.drop 1)+2) _ (by omega) i f,fi⟩
def ad2(s:By)(file:Int)(a:Cx)(b:List Tok)(d:0<s.length)(g:s.length<=2^40)(f:b.length<=2^40):
  ak 253 [.aA 0 0] [rd s file a b] [vB (p9 s).isSome] [match p9 s with|none=>rd s file a b|some n=>rd (s.drop n) file none (b++[⟨5,s.take n,file,a⟩])]:=by
 obtain⟨c,i⟩:=Li s d;have j:=lY bL (s.drop 1);have e:((1:Int)+(runN bL (s.drop 1):Int))=((1+runN bL (s.drop 1):Nat):Int):=by omega
 refine adM s file a _ ⟨⟨by omega,by omega,by omega⟩,_,by rw[c];exact uJ _ (by omega),aB,⟨by omega,by omega,by omega⟩,?_⟩
 rw[e];simp only[toNat_cast,gq];refine ae (fun h=>?_) fun h=>?_
 .have:p9 s=none:=by unfold p9;rw[show(bif(!((s.take (1+runN bL (s.drop 1)))==iU))then(!((s.take (1+runN bL (s.drop 1)))==bP))else false)=true from h];rfl
  rw[this];exact fi
 .have:p9 s=some (1+runN bL (s.drop 1)):=by unfold p9;rw[show(bif(!((s.take (1+runN bL (s.drop 1)))==iU))then(!((s.take (1+runN bL (s.drop 1)))==bP))else false)=false from h];rfl
  rw[this];exact⟨⟨by omega,by omega,by omega⟩,_,_,_,Qc s file a b 5 _ _ (by omega) g f,fi⟩
def jq(s:By):Option (Int×Nat×By):=
 bif cT (UInt8.toNat (s.getD 0 0):Int)then some (1,runN bL s,s.take (runN bL s))else
 bif gj (UInt8.toNat (s.getD 0 0):Int)then(bif !(oB (s.take (runN bL s))).2 then none else some (2,runN bL s,s.take (runN bL s)))else
 bif((UInt8.toNat (s.getD 0 0):Int)==34)then(oC s).map fun m=>(4,m+2,(s.take (m+1)).drop 1)else
 bif((UInt8.toNat (s.getD 0 0):Int)==35)then(p9 s).map fun n=>(5,n,s.take n)else
 bif decide ((jC s:Int)>0)then some (3,jC s,s.take (jC s))else none
def ad3(s:By)(file:Int)(b:Cx)(d:List Tok)(l:0<s.length)(g:s.length<=2^40)(j:d.length<=2^40):
  ak 180 [.aA 0 0] [rd s file b d] [vB (jq s).isSome] [match jq s with|none=>rd s file b d|some (k,n,t)=>rd (s.drop n) file none (d++[⟨k,t,file,b⟩])]:=by
 have p:=lY bL s;have q:=GR s l;refine adu s file b _ ⟨⟨by omega,by omega⟩,_,Xm _,ae (fun h=>?_) fun h=>⟨_,Xn _,ae (fun f=>?_) fun f=>ae (fun a=>?_) fun a=>ae (fun o=>?_) fun o=>?_⟩⟩<;>rw[show Int.toNat 0=0 from rfl]at*
 .have:jq s=some (1,runN bL s,s.take (runN bL s)):=by unfold jq;rw[h];rfl
  rw[this];exact⟨_,uJ s g,⟨by omega,by omega,by omega⟩,_,_,_,Qc s file b d 1 _ _ p g j,fi⟩
 .refine⟨_,uJ s g,⟨by omega,by omega,by omega⟩,_,_,Xp _ (by simp;omega),ae (fun a=>?_) fun a=>?_⟩
  .have:jq s=none:=by unfold jq;rw[h,f,show(!(oB (s.take (runN bL s))).2)=true from a];rfl
   rw[this];exact fi
  .have:jq s=some (2,runN bL s,s.take (runN bL s)):=by unfold jq;rw[h,f,show(!(oB (s.take (runN bL s))).2)=false from a];rfl
   rw[this];exact⟨⟨by omega,by omega,by omega⟩,_,_,_,Qc s file b d 2 _ _ p g j,fi⟩
 .have e:jq s=(oC s).map fun m=>(4,m+2,(s.take (m+1)).drop 1):=by unfold jq;rw[h,f,a];rfl
  have c:=ad1 s file b d l g j;rw[e];cases hq:oC s<;>rw[hq]at c<;>exact⟨_,_,_,_,c,fi⟩
 .have e:jq s=(p9 s).map fun n=>(5,n,s.take n):=by unfold jq;rw[h,f,a,o];rfl
  have c:=ad2 s file b d l g j;rw[e];cases hq:p9 s<;>rw[hq]at c<;>exact⟨_,_,_,_,c,fi⟩
 .refine⟨_,ad0 s l,ae (fun i=>?_) fun i=>?_⟩
  .have:jq s=some (3,jC s,s.take (jC s)):=by unfold jq;rw[h,f,a,o,i];rfl
   rw[this];exact⟨⟨by omega,by omega,by omega⟩,_,_,_,Qc s file b d 3 _ _ q g j,ai (by rw[i];rfl) rfl⟩
  .have:jq s=none:=by unfold jq;rw[h,f,a,o,i];rfl
   rw[this];exact ai (by rw[i];rfl) rfl
def GS{p:Int->Bool}{s:By}(a:0<s.length)(h:p (UInt8.toNat (s.getD 0 0):Int)=true):0<runN p s:=by
 cases s with
 |nil=>simp at a
 |cons c t=>
  have h:p c.toNat=true:=h;unfold runN;rw[h];exact Nat.succ_pos _
def Qd{s:By}{m:Nat}(a:0<s.length)(h:oC s=some m):m+2<=s.length:=by
 unfold oC at h;have d:=lY oz (s.drop 1);obtain⟨b,c⟩:=Li s a;cases h1:((runN oz (s.drop 1):Int)+1==(s.length:Int))<;>rw[h1]at h<;>simp only[aj,af]at h
 .have:=gr h1
  cases h2:((UInt8.toNat (s.getD (runN oz (s.drop 1)+1) 0):Int) !=34)<;>rw[h2]at h<;>simp only[aj,af]at h
  .obtain rfl:=au h;omega
  .simp at h
 .simp at h
def Ej{s:By}{k:Int}{n:Nat}{t:By}(b:0<s.length)(h:jq s=some (k,n,t)):0<n/\n<=s.length:=by
 have g:=lY bL s;have i:=GR s b;have inner:∀c,cT c=true\/gj c=true->bL c=true:=by
  intro c h;unfold bL;cases hl:cT c with
  |true=>rfl
  |false=>rcases h with h|h;rw[hl]at h;simp at h;exact h
 unfold jq at h;cases h1:cT (UInt8.toNat (s.getD 0 0):Int)<;>rw[h1]at h<;>simp only[aj,af]at h
 .cases h2:gj (UInt8.toNat (s.getD 0 0):Int)<;>rw[h2]at h<;>simp only[aj,af]at h
  .cases h3:((UInt8.toNat (s.getD 0 0):Int)==34)<;>rw[h3]at h<;>simp only[aj,af]at h
   .cases h4:((UInt8.toNat (s.getD 0 0):Int)==35)<;>rw[h4]at h<;>simp only[aj,af]at h
    .cases h5:decide ((jC s:Int)>0)<;>rw[h5]at h<;>simp only[aj,af]at h
     .simp at h
     .have:=aN h5
      simp only[aw,ax]at h;omega
    .obtain⟨m,a,e⟩:=aX.1 h
     simp only[ax]at e;unfold p9 at a;obtain⟨d,f⟩:=Li s b;have:=lY bL (s.drop 1);cases h6:(bif(!((s.take (1+runN bL (s.drop 1)))==iU))then(!((s.take (1+runN bL (s.drop 1)))==bP))else false)<;>rw[h6]at a<;>simp only[aj,af]at a
     .simp only[aw]at a;omega
     .simp at a
   .obtain⟨m,a,e⟩:=aX.1 h
    simp only[ax]at e;have:=Qd b a;omega
  .have:=GS b (inner _ (.inr h2))
   cases h3:(!(oB (s.take (runN bL s))).2)<;>rw[h3]at h<;>simp only[aj,af]at h
   .simp only[aw,ax]at h;omega
   .simp at h
 .have:=GS b (inner _ (.inl h1))
  simp only[aw,ax]at h;omega
def cU(file:Int):Nat->By->Cx->List Tok->Except Cx (List Tok)
 |0,_,_,a=>.ok a
 |f+1,s,b,a=>bif s==[]then .ok a else
  bif(bif(dK s).2 then decide ((dK s).1>0)else false)then cU file f (s.drop (dK s).1.toNat) none a else
  bif !(dK s).2 then .error b else
  match jq s with
  |none=>.error b
  |some (k,n,t)=>cU file f (s.drop n) none (a++[⟨k,t,file,b⟩])
abbrev wP:Cx:=some (4607182418800017408,4607182418800017408)
abbrev Ek:Cx:=some (0,0)
def jr(s:By)(file:Int):Except (Int×Cx) (List Tok):=
 bif decide ((s.length:Int)>20000)then .error (9,wP)else
 match cU file (s.length+1) s wP []with
 |.ok l=>.ok l
 |.error c=>.error (3,c)
def Qe(file:Int):Except (Int×Cx) (List Tok)->List AV
 |.ok l=>[vL 4 (l.map Tok.row),.agg [N 0,N 0,C Ek]]
 |.error (e,c)=>[vL 4 [],.agg [N e,N file,C c]]
def Xq(file c o:Int)(p:Cx):∀(f:Nat)(s:By)(b:Cx)(a:List Tok),s.length<f->a.length+s.length<=2^31 ->
  Lp f129 0 (y8 file c o p s file b (a.map Tok.row)) 0 (Qe file (match cU file f s b a with|.ok l=>.ok l|.error c=>.error (3,c))) []
 |0,s,b,a,v,w=>by omega
 |f+1,s,b,a,v,w=>by
  refine Xk _ _ _ _ _ _ _ _ (ae (fun h=>?_) fun h=>?_)
  .have j:(s==[])=false:=by simpa using h
   have u:0<s.length:=by cases s with|nil=>simp at h|cons=>simp
   refine⟨_,_,adZ s file b a (by omega),ae (fun g=>?_) fun g=>ae (fun i=>?_) fun i=>?_⟩
   .have q:(dK s).2=true:=by revert g;cases(dK s).2<;>simp
    rw[q]at g;have E:=aN (show decide ((dK s).1>0)=true from g)
    have D:=Nf s q;have e:(dK s).1=(((dK s).1.toNat:Nat):Int):=by omega
    have d:cU file (f+1) s b a=cU file f (s.drop (dK s).1.toNat) none a:=by
     conv=>lhs;unfold cU
     rw[j,q,show decide ((dK s).1>0)=true from g];rfl
    rw[d,e];exact⟨_,_,Zd s file b a _ (by omega) (by omega),Xq file c o p f _ _ _ (by simp;omega) (by simp;omega)⟩
   .have d:cU file (f+1) s b a = .error b:=by
     conv=>lhs;unfold cU
     rw[j,g,i];rfl
    rw[d];exact fi
   .have m:=ad3 s file b a u (by omega) (by omega)
    cases hq:jq s with
    |none=>
     rw[hq]at m;have d:cU file (f+1) s b a = .error b:=by
      conv=>lhs;unfold cU
      rw[j,g,i,hq];rfl
     rw[d];exact⟨_,_,_,_,m,fi⟩
    |some x=>
     obtain⟨k,n,t⟩:=x;rw[hq]at m;obtain⟨z,r⟩:=Ej u hq;have d:cU file (f+1) s b a=cU file f (s.drop n) none (a++[⟨k,t,file,b⟩]):=by
      conv=>lhs;unfold cU
      rw[j,g,i,hq];rfl
     rw[d];exact⟨_,_,_,_,m,Xq file c o p f _ _ _ (by simp;omega) (by simp;omega)⟩
  .have y:s=[]:=by simpa using h
   subst y;have d:cU file (f+1) [] b a = .ok a:=by unfold cU;rfl
   rw[d];exact fi
def ad4(s:By)(file:Int)(a:s.length<=2^40):ak 129 [vS s,vN file] [] (Qe file (jr s file)) []:=by
 refine ado s file (ae (fun h=>?_) fun h=>?_)
 .have:jr s file = .error (9,wP):=by unfold jr;rw[h];rfl
  rw[this];exact fi
 .have:jr s file=(match cU file (s.length+1) s wP []with|.ok l=>.ok l|.error c=>.error (3,c)):=by unfold jr;rw[h];rfl
  rw[this];exact Xq file 0 0 (some (0,0)) (s.length+1) s wP [] (by omega) (by have:=bH h;simp;omega)
def qV(file:Int):∀(f:Nat)(s:By)(b:Cx)(a l:List Tok),cU file f s b a = .ok l->l.length<=a.length+s.length
 |0,s,b,a,l,h=>by unfold cU at h;cases h;omega
 |f+1,s,b,a,l,h=>by
  unfold cU at h;cases h1:(s==[])<;>rw[h1]at h<;>simp only[aj,af]at h
  .have c:0<s.length:=by cases s with|nil=>simp at h1|cons=>simp
   cases h2:(bif(dK s).2 then decide ((dK s).1>0)else false)<;>rw[h2]at h<;>simp only[aj,af]at h
   .cases h3:(!(dK s).2)<;>rw[h3]at h<;>simp only[aj,af]at h
    .cases hq:jq s with
     |none=>rw[hq]at h;simp at h
     |some x=>
      obtain⟨k,n,t⟩:=x;rw[hq]at h;have:=qV file f _ _ _ l h;have:=Ej c hq;simp at*;omega
    .simp at h
   .have:=qV file f _ _ _ l h
    simp at this;omega
  .cases h;omega
def zb{s:By}{file:Int}{l:List Tok}(h:jr s file = .ok l):l.length<=20000:=by
 unfold jr at h;cases a:decide ((s.length:Int)>20000)<;>rw[a]at h<;>simp only[aj,af]at h
 .have a:=bH a
  split at h
  .rename_i c b
   cases h;have:=qV _ _ _ _ _ _ b;simp at this;omega
  .simp at h
 .simp at h
def Ng{s:By}{k:Int}{n:Nat}{t:By}(h:jq s=some (k,n,t)):t.length<=s.length:=by
 unfold jq at h;have tk:∀n,(s.take n).length<=s.length:=fun n=>by simp;omega
 revert h
 cases cT (UInt8.toNat (s.getD 0 0):Int)<;>simp only[aj,af]
 .cases gj (UInt8.toNat (s.getD 0 0):Int)<;>simp only[aj,af]
  .cases((UInt8.toNat (s.getD 0 0):Int)==34)<;>simp only[aj,af]
   .cases((UInt8.toNat (s.getD 0 0):Int)==35)<;>simp only[aj,af]
    .cases decide ((jC s:Int)>0)<;>simp only[aj,af]
     .intro h;simp at h
     .intro h;simp only[aw,ax]at h;rw[<-h.2.2];exact tk _
    .intro h
     obtain⟨m,-,e⟩:=aX.1 h;simp only[ax]at e;rw[<-e.2.2];exact tk _
   .intro h
    obtain⟨m,-,e⟩:=aX.1 h;simp only[ax]at e;rw[<-e.2.2];have:=tk (m+1);simp only[hK];omega
  .cases(!(oB (s.take (runN bL s))).2)<;>simp only[aj,af]
   .intro h;simp only[aw,ax]at h;rw[<-h.2.2];exact tk _
   .intro h;simp at h
 .intro h;simp only[aw,ax]at h;rw[<-h.2.2];exact tk _
def pH(file:Int)(B:Nat):∀(f:Nat)(s:By)(d:Cx)(c l:List Tok),cU file f s d c = .ok l->s.length<=B->(∀t∈c,t.text.length<=B)->∀t∈l,t.text.length<=B
 |0,s,d,c,l,h,g,b=>by unfold cU at h;cases h;exact b
 |f+1,s,d,c,l,h,g,b=>by
  unfold cU at h;have e:∀n,(s.drop n).length<=B:=fun n=>by simp;omega
  cases h1:(s==[])<;>rw[h1]at h<;>simp only[aj,af]at h
  .cases h2:(bif(dK s).2 then decide ((dK s).1>0)else false)<;>rw[h2]at h<;>simp only[aj,af]at h
   .cases h3:(!(dK s).2)<;>rw[h3]at h<;>simp only[aj,af]at h
    .cases hq:jq s with
     |none=>rw[hq]at h;simp at h
     |some x=>
      obtain⟨k,n,t⟩:=x;rw[hq]at h;refine pH file B f _ _ _ l h (e _) fun u a=>?_
      rcases bC.1 a with a|a
      .exact b u a
      .simp at a;subst a
       have:=Ng hq;show t.length<=B
       omega
    .simp at h
   .exact pH file B f _ _ _ l h (e _) b
  .cases h;exact b
def wQ{s:By}{file:Int}{l:List Tok}(h:jr s file = .ok l):∀t∈l,t.text.length<=20000:=by
 unfold jr at h;cases a:decide ((s.length:Int)>20000)<;>rw[a]at h<;>simp only[aj,af]at h
 .have a:=bH a
  split at h
  .rename_i c b
   cases h;exact pH _ 20000 _ _ _ _ _ b (by omega) (by simp)
  .simp at h
 .simp at h
def A76:bq:={an:=[(1,1,ah)]}
def W76(c:Rw)(d:By){r h}(H:∃b e,ak 94 [vS d] [] [vS b,vB e] []/\ay (!e) (Fi r h [vN 0,vB false] [])
 (∃a,ak 95 [vL 2 c,.fn (.func 96) [] [.aA 0 0]] [.cells [vS b]] [vN a] [.cells [vS b]]/\Fi r h [vN (if a>0 then a else 0),vB (decide (a>=0))] [])):
  ak 76 [vL 2 c,vS d] [] r h:=.of func76 A76 H
def BS(a:Rw)(b c:Int)(d:Rw):St:=⟨aM 43 [(4,.bo 0),(8,vL 1 a),(9,vN b),(10,vN c)],[],[.bc 1 d]⟩
def A94:bq:={an:=[(2,1,ah),(4,1,ah),(5,2,aQ),(5,4,aQ),(6,3,aa),(6,4,aa),(8,3,aQ),(9,1,aQ),(12,1,{tZ:=true}),(12,3,aQ)],cut:=[(3,{bl:=[4,8,9,10],iu:=[(4,1)]})]}
def W94(b:By){r h}(H:∃a,ak 131 [vS b,vS [47]] [] [vL 1 a] []/\Lp f94 0 (BS a (a.length:Int) 0 []) 0 r h):
  ak 94 [vS b] [] r h:=.of func94 A94 H
def Vh(c:Rw)(d b:Int)(a:Rw){r h}(H:ay (decide (b<d)) (M7 c b fun e=>ay (bif(e==[])then true else(e==[46])) (bh .i64 (b+1)/\Lp f94 0 (BS c d (b+1) a) 0 r h)
 (ay (!(e==[46,46])) ((a++([[S e]]:Rw)).length*16<=2^47/\bh .i64 (b+1)/\Lp f94 0 (BS c d (b+1) (a++([[S e]]:Rw))) 0 r h)
 (ay ((a.length:Int)==0) (Fi r h [vS [],vB false] [])
 (bh .i64 ((a.length:Int)-1)/\(0<=((a.length:Int)-1)/\((a.length:Int)-1)<=(a.length:Int))/\bh .i64 (b+1)/\Lp f94 0 (BS c d (b+1) (List.take (Int.toNat ((a.length:Int)-1)) a)) 0 r h))))
 (∃f,ak 132 [vL 1 a,vS [47]] [] [vS f] []/\Fi r h [vS f,vB (decide ((a.length:Int)>0))] [])):
  Lp f94 0 (BS c d b a) 0 r h:=.of A94 H
def A96:bq:={an:=[(1,2,ah),(2,2,aa),(2,3,aa),(2,4,aa)]}
def W96(b e a:By){r h}(H:∃c d,ak 94 [vS b] [] [vS c,vB d] []/\Fi r h [vB (bif d then(c==a)else false)] [.cells [vS a]]):
  ak 96 [.agg [S b,S e],.aA 0 0] [.cells [vS a]] r h:=.of func96 A96 H
def ad5:bq:={an:=[(1,1,ah),(2,1,ah),(3,2,ah),(3,7,ah)]}
def ad6(b c:By){r h}(H:∃d,ak 243 [vS c,vS [47]] [] [vB d] []/\ay d (∃e f,ak 94 [vS c] [] [vS e,vB f] []/\Fi r h [vS e,vB f] [])
 (∃a,ak 141 [vS b,vS [47]] [] [vN a] []/\bh .i64 (a+1)/\(0<=(0:Int)/\(0:Int)<=(a+1)/\(a+1)<=(b.length:Int))/\(List.drop 0 (List.take (Int.toNat (a+1)) b)).length+c.length<=9223372036854775807/\∃g i,ak 94 [vS ((List.drop 0 (List.take (Int.toNat (a+1)) b))++c)] [] [vS g,vB i] []/\Fi r h [vS g,vB i] [])):
  ak 181 [vS b,vS c] [] r h:=.of func181 ad5 H
def A75:bq:={an:=[(1,2,ah)],mod:=[(5,2,[(0,[1001,2,3])])]}
def W75(a:Rw)(c:By){r h}(H:∃d e,ak 76 [vL 2 a,vS c] [] [vN d,vB e] []/\ay (!e) (Fi r h [vL 4 [],.agg [N 4,N (-1),C (some (0,0))]] [])
 (∃b f g j k i,ak 93 [.aA 0 0,vN d] [.cells [vL 2 a,O 1 [],vN 0,O 4 []]] [.agg [N b,N f,C g]] [.cells [vL 2 a,vL 1 j,vN k,O 4 i]]/\ay (b !=0) (Fi r h [vL 4 [],.agg [N b,N f,C g]] [])
 (Fi r h [vL 4 i,.agg [N 0,N 0,C (some (0,0))]] []))):
  ak 75 [vL 2 a,vS c] [] r h:=.of func75 A75 H
def zc(a:Rw)(b:Int)(c d:Rw)(e:Int)(f:Rw)(g i:Int)(j:Cx):St:=⟨aM 117 [(0,.aA 0 0),(4,.aA 1 0),(5,vL 4 a),(7,vN b)],[],[.cells [vL 2 c,O 1 d,vN e,O 4 f],.cells [vN g,vN i,vC j]]⟩
def nU(a:Rw)(b:Int)(c d:Rw)(e:Int)(f:Rw)(g i:Int)(j:Cx):St:=⟨aM 117 [(0,.aA 0 0),(4,.aA 1 0),(5,vL 4 a),(7,vN b)],[],[.cells [vL 2 c,vL 1 d,vN e,O 4 f],.cells [vN g,vN i,vC j]]⟩
def A93:bq:={an:=[(1,7,ah),(1,9,ah),(4,4,{take:=true}),(4,10,{take:=true}),(8,4,ah),(8,11,ah),(9,4,{take:=true}),(9,8,ah),(9,13,{take:=true}),(12,5,ah),(12,10,ah)],mod:=[(10,4,[(0,[2])]),(13,2,[(0,[1001,2,3])])],cut:=[(6,{bl:=[0,4,5,7]})]}
def W93(b c:Rw)(d:Int)(e:Rw)(a:Int){r h}(H:OK b a fun l k=>∃g f i j,ak 129 [vS k,vN a] [] [vL 4 g,.agg [N f,N i,C j]] []/\ay (f !=0) (Fi r h [.agg [N f,N i,C j]] [.cells [vL 2 b,O 1 c,vN d,O 4 e]])
 ((c++([[N a]]:Rw)).length*8<=2^47/\Lp f93 0 (zc g 0 b (c++([[N a]]:Rw)) d e 0 0 (some (0,0))) 1 r h)):
  ak 93 [.aA 0 0,vN a] [.cells [vL 2 b,O 1 c,vN d,O 4 e]] r h:=.of func93 A93 H
def Qf(b:Rw)(a:Int)(d c:Rw)(f:Int)(e:Rw)(g i:Int)(j:Cx){r h}(H:ay (decide (a<(b.length:Int))) (cS b a fun G M Q T=>ay (G !=5) (cS b a fun u v w x=>(e++([[N u,S v,N w,C x]]:Rw)).length*48<=2^47/\bh .i64 (a+1)/\Lp f93 0 (zc b (a+1) d c f (e++([[N u,S v,N w,C x]]:Rw)) g i j) 1 r h) (cS b a fun X I Y Z=>ay (!(I==[35,105,110,99,108,117,100,101])) (cS b a fun y z D E=>(e++([[N y,S z,N D,C E]]:Rw)).length*48<=2^47/\bh .i64 (a+1)/\Lp f93 0 (zc b (a+1) d c f (e++([[N y,S z,N D,C E]]:Rw)) g i j) 1 r h)
 ((0<=a/\a<=(b.length:Int)/\(b.length:Int)<=(b.length:Int))/\∃q k l,ak 130 [.aA 0 0,vL 4 (List.drop (Int.toNat a) (List.take b.length b))] [.cells [vL 2 d,O 1 c,vN f,O 4 e]] [vN q,vN k] [.cells [vL 2 d,O 1 c,vN l,O 4 e]]/\ay (k !=0) (cS b a fun F A J R=>cS b a fun a3 a4 a5 K=>Fi r h [.agg [N k,N J,C K]] [.cells [vL 2 d,O 1 c,vN l,O 4 e]])
 (∃m s t n o p,ak 93 [.aA 0 0,vN q] [.cells [vL 2 d,O 1 c,vN l,O 4 e]] [.agg [N m,N s,C t]] [.cells [vL 2 d,vL 1 n,vN o,O 4 p]]/\ay (m !=0) (Fi r h [.agg [N m,N s,C t]] [.cells [vL 2 d,vL 1 n,vN o,O 4 p]])
 (bh .i64 (a+1)/\bh .i64 ((a+1)+1)/\Lp f93 0 (nU b ((a+1)+1) d n o p g i j) 1 r h)))))
 (bh .i64 ((c.length:Int)-1)/\(0<=(0:Int)/\(0:Int)<=((c.length:Int)-1)/\((c.length:Int)-1)<=(c.length:Int))/\Fi r h [.agg [N 0,N 0,C (some (0,0))]] [.cells [vL 2 d,vL 1 (List.drop 0 (List.take (Int.toNat ((c.length:Int)-1)) c)),vN f,O 4 e]])):
  Lp f93 0 (zc b a d c f e g i j) 1 r h:=.of A93 H
def Qg(b:Rw)(a:Int)(d c:Rw)(f:Int)(e:Rw)(g i:Int)(j:Cx){r h}(H:ay (decide (a<(b.length:Int))) (cS b a fun G M Q T=>ay (G !=5) (cS b a fun u v w x=>(e++([[N u,S v,N w,C x]]:Rw)).length*48<=2^47/\bh .i64 (a+1)/\Lp f93 0 (nU b (a+1) d c f (e++([[N u,S v,N w,C x]]:Rw)) g i j) 1 r h) (cS b a fun X I Y Z=>ay (!(I==[35,105,110,99,108,117,100,101])) (cS b a fun y z D E=>(e++([[N y,S z,N D,C E]]:Rw)).length*48<=2^47/\bh .i64 (a+1)/\Lp f93 0 (nU b (a+1) d c f (e++([[N y,S z,N D,C E]]:Rw)) g i j) 1 r h)
 ((0<=a/\a<=(b.length:Int)/\(b.length:Int)<=(b.length:Int))/\∃q k l,ak 130 [.aA 0 0,vL 4 (List.drop (Int.toNat a) (List.take b.length b))] [.cells [vL 2 d,vL 1 c,vN f,O 4 e]] [vN q,vN k] [.cells [vL 2 d,vL 1 c,vN l,O 4 e]]/\ay (k !=0) (cS b a fun F A J R=>cS b a fun a3 a4 a5 K=>Fi r h [.agg [N k,N J,C K]] [.cells [vL 2 d,vL 1 c,vN l,O 4 e]])
 (∃m s t n o p,ak 93 [.aA 0 0,vN q] [.cells [vL 2 d,vL 1 c,vN l,O 4 e]] [.agg [N m,N s,C t]] [.cells [vL 2 d,vL 1 n,vN o,O 4 p]]/\ay (m !=0) (Fi r h [.agg [N m,N s,C t]] [.cells [vL 2 d,vL 1 n,vN o,O 4 p]])
 (bh .i64 (a+1)/\bh .i64 ((a+1)+1)/\Lp f93 0 (nU b ((a+1)+1) d n o p g i j) 1 r h)))))
 (bh .i64 ((c.length:Int)-1)/\(0<=(0:Int)/\(0:Int)<=((c.length:Int)-1)/\((c.length:Int)-1)<=(c.length:Int))/\Fi r h [.agg [N 0,N 0,C (some (0,0))]] [.cells [vL 2 d,vL 1 (List.drop 0 (List.take (Int.toNat ((c.length:Int)-1)) c)),vN f,O 4 e]])):
  Lp f93 0 (nU b a d c f e g i j) 1 r h:=.of A93 H
def ad8:bq:={an:=[(1,7,ah),(3,15,ah),(3,18,ah),(3,22,ah),(3,23,ah),(6,5,ah),(9,5,ah)]}
def ad9(b a:Rw)(c:Int)(d e:Rw){r h}(H:ay (decide ((e.length:Int)<2)) (Fi r h [vN (-1),vN 3] [.cells [vL 2 b,O 1 a,vN c,O 4 d]]) (cS e 1 fun l p q s=>ay (l !=4) (Fi r h [vN (-1),vN 3] [.cells [vL 2 b,O 1 a,vN c,O 4 d]])
 (bh .i64 ((a.length:Int)-1)/\Rdn a ((a.length:Int)-1) fun m=>OK b m fun n t=>cS e 1 fun u o v w=>∃g i,ak 181 [vS n,vS o] [] [vS g,vB i] []/\ay (!i) (Fi r h [vN (-1),vN 4] [.cells [vL 2 b,O 1 a,vN c,O 4 d]])
 (∃f j,ak 76 [vL 2 b,vS g] [] [vN f,vB j] []/\ay (!j) (Fi r h [vN (-1),vN 4] [.cells [vL 2 b,O 1 a,vN c,O 4 d]])
 (∃k,ak 182 [vL 1 a,vN f] [] [vB k] []/\ay k (Fi r h [vN (-1),vN 5] [.cells [vL 2 b,O 1 a,vN c,O 4 d]])
 (ay (decide ((a.length:Int)>=8)) (Fi r h [vN (-1),vN 6] [.cells [vL 2 b,O 1 a,vN c,O 4 d]])
 (ay (decide (c>=1000)) (Fi r h [vN (-1),vN 9] [.cells [vL 2 b,O 1 a,vN c,O 4 d]])
 (bh .i64 (c+1)/\Fi r h [vN f,vN 0] [.cells [vL 2 b,O 1 a,vN (c+1),O 4 d]])))))))):
  ak 130 [.aA 0 0,vL 4 e] [.cells [vL 2 b,O 1 a,vN c,O 4 d]] r h:=.of func130 ad8 H
def td(c:UInt8):∀s,(splitB c s).length<=s.length+1/\gM (splitB c s)<=s.length
 |[]=>by simp[splitB,gM]
 |d::t=>by
  have a:=td c t;unfold splitB;cases d==c<;>simp only[aj,af]
  .revert a
   cases splitB c t with
   |nil=>simp[gM]
   |cons x l=>simp[gM];omega
  .simp[gM]at a⊢; omega
def jX:List By->List By->By×Bool
 |[],c=>(ll 47 c,decide ((c.length:Int)>0))
 |x::t,c=>bif(bif x==[]then true else x==[46])then jX t c else bif !(x==[46,46])then jX t (c++[x])else
  bif(c.length:Int)==0 then([],false)else jX t (c.take (c.length-1))
def kE(path:By):By×Bool:=jX (splitB 47 path) []
def BT(c:List By)(n:Nat):gM (c.take n)<=gM c:=by
 induction c generalizing n with
 |nil=>simp[gM]
 |cons x c a=>
  cases n with
  |zero=>simp[gM]
  |succ n=>have:=a n;simp[gM]at this⊢; omega
def GU(a b:List By):gM (a++b)=gM a+gM b:=by simp[gM]
def L94(l:List By)(g:l.length<=2^39):∀(t:List By)(i:Nat)(c:List By),l.drop i=t->c.length<=i->i<=l.length->gM c+gM t<=2^40 ->
  Lp f94 0 (BS (aR l) ((aR l).length:Int) i (aR c)) 0 [vS (jX t c).1,vB (jX t c).2] []
 |[],i,c,h,m,n,k=>Vh _ _ _ _ (aT (l:=l) (by simp[aR]) h ⟨_,aco c 47 (by omega) (by omega),ai (by simp[jX,aR]) rfl⟩)
 |x::t,i,c,h,m,n,k=>by
  obtain⟨j,e,f⟩:=drop_cons h;have o:(aR c).length=c.length:=by simp[aR]
  have p:gM (x::t)=x.length+gM t:=by simp[gM]
  refine Vh _ _ _ _ (aO (l:=l) (by simp[aR]) h ⟨x,by omega,aY j,?_⟩)
  unfold jX;refine ae (fun a=>⟨aB,?_⟩) fun a=>ae (fun b=>⟨?_,aB,?_⟩) fun b=>?_
  .rw[a]
   exact L94 l g t (i+1) c e (by omega) f (by omega)
  .simp[aR];omega
  .rw[a,b]
   have:=L94 l g t (i+1) (c++[x]) e (by simp;omega) f (by rw[GU,show gM [x]=x.length by simp[gM]];omega)
   rw[show aR (c++[x])=aR c++[[S x]] by simp[aR,Gq]]at this
   exact this
  .rw[o]
   refine ae (fun d=>ai (by rw[a,b,d];rfl) rfl) fun d=>?_
   have q:=gr d;refine⟨aB,⟨by omega,by omega⟩,aB,?_⟩
   rw[a,b,d,show Int.toNat ((c.length:Int)-1)=c.length-1 by omega]
   have:=BT c (c.length-1);have:=L94 l g t (i+1) (c.take (c.length-1)) e (by simp;omega) f (by omega)
   rw[show aR (c.take (c.length-1))=(aR c).take (c.length-1) by simp[aR,iQ]]at this
   exact this
def C94(path:By)(a:path.length<=2^31):ak 94 [vS path] [] [vS (kE path).1,vB (kE path).2] []:=by
 have:=td 47 path;exact W94 path ⟨_,acm path 47 (by omega),L94 (splitB 47 path) (by omega) _ 0 [] rfl (by simp) (by omega) (by simp[gM]at this⊢; omega)⟩
def oD(a path:By):By×Bool:=bif List.isPrefixOf [47] path then kE path else kE (a.take (jB 47 a+1).toNat++path)
def aea(a path:By)(b:a.length<=2^30)(c:path.length<=2^30):ak 181 [vS a,vS path] [] [vS (oD a path).1,vB (oD a path).2] []:=by
 have:=qT 47 a;refine ad6 a path ⟨_,WD _ _,ae (fun h=>⟨_,_,C94 path (by omega),ai (by rw[oD,h];rfl) rfl⟩) fun h=>⟨_,YV a 47 (by omega),aB,⟨by omega,by omega,by omega⟩,by simp;omega,_,_,C94 _ (by simp;omega),ai (by rw[oD,h];rfl) rfl⟩⟩
structure Fl where
 path:By
 text:By
def Fl.row(f:Fl):List PV:=[S f.path,S f.text]
def El(want:By)(f:Fl):Bool:=bif(kE f.path).2 then((kE f.path).1==want)else false
def eY(l:List Fl)(path:By):Int×Bool:=
 bif !(kE path).2 then(0,false)else
 ((if idx (El (kE path).1) l>0 then idx (El (kE path).1) l else 0),decide (idx (El (kE path).1) l>=0))
def C95(l:List Fl)(want:By)(d:l.length<=2^40)(e:∀f∈l,f.path.length<=2^31):
  ak 95 [vL 2 (l.map Fl.row),.fn (.func 96) [] [.aA 0 0]] [.cells [vS want]] [vN (idx (El want) l)] [.cells [vS want]]:=
 WG _ _ (ew (Hd:=fun i=>uE _ _ i _) d fun i r h b c=>OZ _ _ _ _ (eA (l:=l) (by simp) (fun f a=>⟨_,_,by omega,aY a,_,W96 _ _ _ ⟨_,_,C94 _ (e f (aK a)),fi⟩,b f a⟩) c))
def C76(l:List Fl)(path:By)(a:l.length<=2^40)(b:∀f∈l,f.path.length<=2^31)(c:path.length<=2^31):ak 76 [vL 2 (l.map Fl.row),vS path] [] [vN (eY l path).1,vB (eY l path).2] []:=
 W76 _ _ ⟨_,_,C94 path c,ae (fun h=>ai (by rw[eY,h];rfl) rfl) fun h=>⟨_,C95 l _ a b,ai (by rw[eY,h];rfl) rfl⟩⟩
def Ze(n:Int)(l:List Int)(d:l.length<=2^40):ak 182 [vL 1 (l.map fun n=>[N n]),vN n] [] [vB (l.any (n == ·))] []:=
 acw _ _ ⟨_,acz _ _ (ew (p:=(n == ·)) (l:=l) (Hd:=D3 _ _ _) d fun i r h b c=>WI _ _ _ _ (eA (l:=l) (by simp) (fun x a=>⟨x,by omega,aY a,b x a⟩) c)),ai (by rw[nz]) rfl⟩
structure Wv where
 stack:List Int
 n:Int
 eX:List Tok
abbrev wv(l:List Fl)(x:Wv):Bx:=.cells [vL 2 (l.map Fl.row),O 1 (x.stack.map fun n=>[N n]),vN x.n,O 4 (x.eX.map Tok.row)]
abbrev Yu(l:List Fl)(x:Wv):Bx:=.cells [vL 2 (l.map Fl.row),vL 1 (x.stack.map fun n=>[N n]),vN x.n,O 4 (x.eX.map Tok.row)]
structure Zf (l:List Fl) (x:Wv):Prop where
 len:l.length<=2^40
 path:∀f∈l,f.path.length<=2^30/\f.text.length<=2^30
 stack:∀s∈x.stack,0<=s/\s.toNat<l.length
 deep:x.stack.length<=2^30
 n:0<=x.n/\x.n<=2^40
def fq(l:List Fl)(x:Wv)(t:Tok):Int×Int:=
 bif t.kind !=4 then(-1,3)else
 bif !(oD (l.getD (x.stack.getLastD 0).toNat ⟨[],[]⟩).path t.text).2 then(-1,4)else
 bif !(eY l (oD (l.getD (x.stack.getLastD 0).toNat ⟨[],[]⟩).path t.text).1).2 then(-1,4)else
 bif x.stack.any ((eY l (oD (l.getD (x.stack.getLastD 0).toNat ⟨[],[]⟩).path t.text).1).1 == ·)then(-1,5)else
 bif decide ((x.stack.length:Int)>=8)then(-1,6)else
 bif decide (x.n>=1000)then(-1,9)else((eY l (oD (l.getD (x.stack.getLastD 0).toNat ⟨[],[]⟩).path t.text).1).1,0)
def uK(l:List Fl)(x:Wv):List Tok->Int×Int
 |_::t::_=>fq l x t
 |_=>(-1,3)
def nA:∀(t c:List By),(jX t c).1.length<=gM c+gM t+c.length+t.length
 |[],c=>by
  have:∀(c:List By),(ll 47 c).length<=gM c+c.length:=by
   intro c;induction c with
   |nil=>simp[ll]
   |cons x l a=>
    cases l with
    |nil=>simp[ll,gM]
    |cons y l=>simp[ll,gM]at a⊢; omega
  have:=this c;simp[jX];omega
 |x::t,c=>by
  have d:gM (x::t)=x.length+gM t:=by simp[gM]
  unfold jX;cases(bif x==[]then true else x==[46])<;>simp only[aj,af]
  .cases !(x==[46,46])<;>simp only[aj,af]
   .cases(c.length:Int)==0<;>simp only[aj,af]
    .have:=nA t (c.take (c.length-1))
     have b:=BT c (c.length-1);have:(c.take (c.length-1)).length<=c.length:=by simp
     simp only[aC];omega
    .simp
   .have:=nA t (c++[x])
    rw[GU,show gM [x]=x.length by simp[gM]]at this
    simp only[aC,de,cO]at this⊢;omega
  .have:=nA t c
   simp only[aC];omega
def ze(p:By):(kE p).1.length<=2*p.length+1:=by
 have:=nA (splitB 47 p) [];have:=td 47 p;unfold kE;simp[gM]at*;omega
def Nh(f p:By):(oD f p).1.length<=2*(f.length+p.length)+1:=by
 unfold oD;cases List.isPrefixOf [47] p<;>simp only[aj,af]
 .have:=ze (f.take (jB 47 f+1).toNat++p)
  simp at this⊢;omega
 .have:=ze p
  omega
def uL{l:List Fl}{p:By}(h:(eY l p).2=true):0<=(eY l p).1/\(eY l p).1.toNat<l.length:=by
 unfold eY at h⊢;cases h1 : !(kE p).2<;>rw[h1]at h<;>simp only[aj,af]at h⊢
 .have h:=aN h
  obtain⟨x,a,-⟩:=uD h;have:=(aE.1 a).1;split<;>omega
 .simp at h
def aec(l:List Fl)(x:Wv)(e:List Tok)(ok:Zf l x)(k:x.stack≠[])(q:∀t∈e,t.text.length<=2^28)(m:∀f∈l,f.path.length<=2^28):
  ak 130 [.aA 0 0,vL 4 (e.map Tok.row)] [wv l x] [vN (uK l x e).1,vN (uK l x e).2] [wv l {x with n:=bif(uK l x e).2==0 then x.n+1 else x.n}]:=by
 refine ad9 _ _ _ _ _ (ae (fun h=>?_) fun h=>?_)
 .have h:=aN h
  match e,h with
  |[],_=>exact fi
  |[_],_=>exact fi
  |_::_::_,h=>simp at h;omega
 .have h:=bH h
  match e,h with
  |[],h=>simp at h
  |[_],h=>simp at h
  |t0::t::w,_=>
   have E:=q t (by simp)
   have p:x.stack.getLast?=some (x.stack.getLastD 0):=by
    rw[jk k,jP,jk k];rfl
   have y:x.stack.getLastD 0∈x.stack:=by
    have:=tU p;exact this
   obtain⟨s,o⟩:=ok.stack _ y;have hlen:0<x.stack.length:=by cases hx:x.stack with|nil=>exact absurd hx k|cons=>simp
   have v:(x.stack.map fun n=>[N n])[Int.toNat (((x.stack.map fun n=>[N n]).length:Int)-1)]?=some [N (x.stack.getLastD 0)]:=by
    rw[ao,show Int.toNat ((x.stack.length:Int)-1)=x.stack.length-1 by omega,bp,<-xK,p]
    rfl
   have j:=bk o;have u:l.getD (x.stack.getLastD 0).toNat ⟨[],[]⟩=l[(x.stack.getLastD 0).toNat]:=by rw[bS,j];rfl
   have D:=m _ (gv o);have G:=ok.deep;refine⟨t.kind,t.text,t.file,t.spot,by omega,by simp[Tok.row],?_⟩
   rw[show uK l x (t0::t::w)=fq l x t from rfl]
   unfold fq;refine ae (fun i=>ai (by rw[i];rfl) (by rw[i];rfl)) fun i=>⟨aB (by simp;omega) (by simp;omega),_,by simp;omega,v,_,_,s,by rw[bp,j];rfl,t.kind,t.text,t.file,t.spot,by omega,by simp[Tok.row],?_⟩
   rw[i,u];have z:=Nh l[(x.stack.getLastD 0).toNat].path t.text;refine⟨_,_,aea _ _ (by omega) (by omega),ae (fun a=>ai (by rw[a];rfl) (by rw[a];rfl)) fun a=>⟨_,_,C76 l _ ok.len (fun f j=>by have:=m f j;omega) (by omega),ae (fun b=>ai (by rw[a,b];rfl) (by rw[a,b];rfl)) fun b=>⟨_,Ze _ _ (by omega),ae (fun d=>ai (by rw[a,b,d];rfl) (by rw[a,b,d];rfl)) fun d=>ae (fun c=>?_) fun c=>ae (fun g=>?_) fun g=>?_⟩⟩⟩
   .rw[ao]at c
    exact ai (by rw[a,b,d,c];rfl) (by rw[a,b,d,c];rfl)
   .rw[ao]at c
    exact ai (by rw[a,b,d,c,g];rfl) (by rw[a,b,d,c,g];rfl)
   .rw[ao]at c
    have r:=ok.n;exact⟨aB,ai (by rw[a,b,d,c,g];rfl) (by rw[a,b,d,c,g];rfl)⟩
def Lj(a b c:Rw)(d e f g:Int)(i:Cx)(j:Rw)(k l:Int)(m:Cx)(n o p:Rw)(q s t u:Int)(v:Cx):St:=⟨aM 47 [(4,.aA 0 0),(5,.aA 1 0),(6,.aA 2 0)],[],[.cells [O 6 a,O 2 b,O 1 c,vN d,vN e],.cells [vN f,vN g,vC i],K7 j k l m n o p q s t u v]⟩
def A77:bq:={an:=[(2,3,aa),(2,4,aa),(2,5,aa),(2,6,aa),(2,7,aa),(2,8,aa),(7,4,iG),(7,5,fy),(7,6,fg)],mod:=[(3,1,[(0,[0,4,5,6,7,8,9,10,11])]),(5,3,[(0,[9,10,11])])],cut:=[(2,{bl:=[4,5,6],vp:=[(2,6)]})]}
def W77(a:Rw)(b c:Int)(d:Cx){r h}(H:Lp f77 0 (Lj [] [] [] 0 0 0 0 (some (0,0)) a b c d [] [] [] 0 0 0 0 (some (0,0))) 0 r h):
  ak 77 [vL 4 a,.agg [N b,N c,C d]] [] r h:=.of func77 A77 H
def Zg(q s t:Rw)(u v w x:Int)(y:Cx)(j:Rw)(b c:Int)(d:Cx)(e f a:Rw)(g i k l:Int)(m:Cx){r h}(H:∃z,ak 97 [.aA 0 0] [K7 j b c d e f a g i k l m] [vB z] [K7 j b c d e f a g i k l m]/\ay (bif z then(decide ((j.length:Int)>0))else false) (∃D E G I J K M Q T,ak 98 [.aA 0 0] [K7 j b c d e f a g i k l m] [] [K7 D b c d E G I J K M Q T]/\Lp f77 0 (Lj q s t u v w x y D b c d E G I J K M Q T) 0 r h)
 (ay ((a.length:Int)==0) (∃X Y Z,ak 100 [.aA 0 0] [K7 j b c d e f a g i k l m] [.agg [N X,N Y,C Z]] [K7 j b c d e f a g i k l m]/\∃n o p,ak 99 [.aA 0 0,.agg [N X,N Y,C Z],vN 11] [K7 j b c d e f a g i k l m] [] [K7 j b c d e f a g i n o p]/\∃F,ak 97 [.aA 0 0] [K7 j b c d e f a g i n o p] [vB F] [K7 j b c d e f a g i n o p]/\ay (!F) (Fi r h [.agg [L 6 [],L 2 [],L 1 [],N 0,N 0],.agg [N n,N o,C p]] [])
 (Fi r h [.agg [L 6 e,L 2 f,L 1 a,N g,N i],.agg [N 0,N 0,C (some (0,0))]] []))
 (∃A,ak 97 [.aA 0 0] [K7 j b c d e f a g i k l m] [vB A] [K7 j b c d e f a g i k l m]/\ay (!A) (Fi r h [.agg [L 6 [],L 2 [],L 1 [],N 0,N 0],.agg [N k,N l,C m]] [])
 (Fi r h [.agg [L 6 e,L 2 f,L 1 a,N g,N i],.agg [N 0,N 0,C (some (0,0))]] [])))):
  Lp f77 0 (Lj q s t u v w x y j b c d e f a g i k l m) 0 r h:=.of A77 H
def A97:bq:={}
def W97(b:Rw)(c d:Int)(e:Cx)(f g i:Rw)(j k a l:Int)(m:Cx){r h}(H:Fi r h [vB (a==0)] [K7 b c d e f g i j k a l m]):
  ak 97 [.aA 0 0] [K7 b c d e f g i j k a l m] r h:=.of func97 A97 H
def aed:bq:={}
def aee(b:Rw)(c d:Int)(e:Cx)(f g i:Rw)(j k a l:Int)(m:Cx){r h}(H:Fi r h [vB (a==0)] [K8 b c d e f g i j k a l m]):
  ak 97 [.aA 0 0] [K8 b c d e f g i j k a l m] r h:=.of func97 aed H
def A98:bq:={an:=[(5,0,fg),(5,1,fg),(5,5,iH),(5,7,fg),(5,8,fy),(5,15,iH),(9,0,fg),(9,1,fg),(9,5,iH),(9,6,{fb:=some [3]}),(9,12,iH)],mod:=[(2,2,[(0,[9,10,11])]),(3,1,[(0,[0])]),(4,1,[(0,[0,9,10,11])]),(5,8,[(0,[0,9,10,11])]),(6,1,[(0,[0])]),(7,1,[(0,[0,9,10,11])]),(8,2,[(0,[0,9,10,11]),(1,[])]),(10,1,[(0,[0])]),(11,2,[(0,[0,6,7,8,9,10,11])])]}
def W98(o:Rw)(c d:Int)(e:Cx)(a b f:Rw)(g i j k:Int)(l:Cx){r h}(c9:∃p q s,ak 100 [.aA 0 0] [K7 o c d e a b f g i j k l] [.agg [N p,N q,C s]] [K7 o c d e a b f g i j k l]/\∃Z t,ak 133 [.aA 0 0,vN 5,vS [35,100,101,102,105,110,101]] [K7 o c d e a b f g i j k l] [vB Z] [K7 t c d e a b f g i j k l]/\ay Z (∃m u v w x,ak 134 [.aA 0 0] [K7 t c d e a b f g i j k l] [vS m] [K7 u c d e a b f g i v w x]/\(∃y z D E G H F A R,ak 135 [.aA 0 0] [K8 u c d e a b f g i v w x] [.agg [N y,S z,S D,U E,L 5 G]] [K8 H c d e a b f g i F A R]/\(a++([[S m,N y,S z,S D,U E,L 5 G]]:Rw)).length*88<=2^47/\Fi r h [] [K7 H c d e (a++([[S m,N y,S z,S D,U E,L 5 G]]:Rw)) b f g i F A R])/\(∃I J K M Q a4 a5 a6 a7,ak 135 [.aA 0 0] [K7 u c d e a b f g i v w x] [.agg [N I,S J,S K,U M,L 5 Q]] [K7 a4 c d e a b f g i a5 a6 a7]/\(a++([[S m,N I,S J,S K,U M,L 5 Q]]:Rw)).length*88<=2^47/\Fi r h [] [K7 a4 c d e (a++([[S m,N I,S J,S K,U M,L 5 Q]]:Rw)) b f g i a5 a6 a7]))
 (∃a8 T,ak 133 [.aA 0 0,vN 1,vS [80,79,76,73,67,89]] [K7 t c d e a b f g i j k l] [vB a8] [K7 T c d e a b f g i j k l]/\ay a8 (∃a9 b0 b1 b2 b3,ak 134 [.aA 0 0] [K7 T c d e a b f g i j k l] [vS a9] [K7 b0 c d e a b f g i b1 b2 b3]/\∃b4 b5 b6 b7 X Y,ak 136 [.aA 0 0,.fn (.func 137) [] [.aA 1 0,.aA 2 0]] [K7 b0 c d e a b f g i b1 b2 b3,.cells [vS a9,O 4 []],.cells [.aA 0 0]] [] [K7 b4 c d e a b f g i b5 b6 b7,.cells [vS X,O 4 Y],.cells [.aA 0 0]]/\(b++([[S X,L 4 Y]]:Rw)).length*40<=2^47/\Fi r h [] [K7 b4 c d e a (b++([[S X,L 4 Y]]:Rw)) f g i b5 b6 b7])
 (∃b8 n,ak 133 [.aA 0 0,vN 1,vS [85,83,69]] [K7 T c d e a b f g i j k l] [vB b8] [K7 n c d e a b f g i j k l]/\ay b8 (∃b9 c0 c1 c2 c3 c4 c5,ak 139 [.aA 0 0,.agg [N p,N q,C s]] [K7 n c d e a b f g i j k l] [] [K7 b9 c d e a b c0 c1 c2 c3 c4 c5]/\Fi r h [] [K7 b9 c d e a b c0 c1 c2 c3 c4 c5])
 (∃c6 c7 c8,ak 99 [.aA 0 0,.agg [N p,N q,C s],vN 3] [K7 n c d e a b f g i j k l] [] [K7 n c d e a b f g i c6 c7 c8]/\Fi r h [] [K7 n c d e a b f g i c6 c7 c8])))):
  ak 98 [.aA 0 0] [K7 o c d e a b f g i j k l] r h:=.of func98 A98 c9
def aef:bq:={}
def aeg(a:Rw)(b c:Int)(d:Cx)(e f g:Rw)(i j k l:Int)(m:Cx)(s n:Int)(o:Cx)(p:Int){r h}(H:∃q,ak 97 [.aA 0 0] [K8 a b c d e f g i j k l m] [vB q] [K8 a b c d e f g i j k l m]/\ay q (Fi r h [] [K8 a b c d e f g i j p n o])
 (Fi r h [] [K8 a b c d e f g i j k l m])):
  ak 99 [.aA 0 0,.agg [N s,N n,C o],vN p] [K8 a b c d e f g i j k l m] r h:=.of func99 aef H
def A99:bq:={}
def W99(a:Rw)(b c:Int)(d:Cx)(e f g:Rw)(i j k l:Int)(m:Cx)(s n:Int)(o:Cx)(p:Int){r h}(H:∃q,ak 97 [.aA 0 0] [K7 a b c d e f g i j k l m] [vB q] [K7 a b c d e f g i j k l m]/\ay q (Fi r h [] [K7 a b c d e f g i j p n o])
 (Fi r h [] [K7 a b c d e f g i j k l m])):
  ak 99 [.aA 0 0,.agg [N s,N n,C o],vN p] [K7 a b c d e f g i j k l m] r h:=.of func99 A99 H
def aeh:bq:={an:=[(3,6,ah),(3,13,ah)]}
def aei(a:Rw)(d b:Int)(c:Cx)(e f g:Rw)(i j k l:Int)(m:Cx){r h}(H:ay ((a.length:Int)==0) (Fi r h [.agg [N 0,N b,C c]] [K7 a d b c e f g i j k l m])
 (cS a 0 fun p q n s=>cS a 0 fun t u v o=>Fi r h [.agg [N 0,N n,C o]] [K7 a d b c e f g i j k l m])):
  ak 100 [.aA 0 0] [K7 a d b c e f g i j k l m] r h:=.of func100 aeh H
def Zh:bq:={an:=[(3,6,ah),(3,13,ah)]}
def Zi(a:Rw)(d b:Int)(c:Cx)(e f g:Rw)(i j k l:Int)(m:Cx){r h}(H:ay ((a.length:Int)==0) (Fi r h [.agg [N 0,N b,C c]] [K8 a d b c e f g i j k l m])
 (cS a 0 fun p q n s=>cS a 0 fun t u v o=>Fi r h [.agg [N 0,N n,C o]] [K8 a d b c e f g i j k l m])):
  ak 100 [.aA 0 0] [K8 a d b c e f g i j k l m] r h:=.of func100 Zh H
def Zj:bq:={}
def Zk(a:Rw)(b c:Int)(d:Cx)(e f g:Rw)(i j k l:Int)(m:Cx)(o:Int)(p:By){r h}(H:∃n,ak 187 [.aA 0 0,vN o,vS p] [K8 a b c d e f g i j k l m] [vB n] [K8 a b c d e f g i j k l m]/\ay n ((0<=(1:Int)/\(1:Int)<=(a.length:Int)/\(a.length:Int)<=(a.length:Int))/\Fi r h [vB n] [K8 (List.drop 1 (List.take a.length a)) b c d e f g i j k l m])
 (Fi r h [vB n] [K8 a b c d e f g i j k l m])):
  ak 133 [.aA 0 0,vN o,vS p] [K8 a b c d e f g i j k l m] r h:=.of func133 Zj H
def aej:bq:={}
def aek(a:Rw)(b c:Int)(d:Cx)(e f g:Rw)(i j k l:Int)(m:Cx)(o:Int)(p:By){r h}(H:∃n,ak 187 [.aA 0 0,vN o,vS p] [K7 a b c d e f g i j k l m] [vB n] [K7 a b c d e f g i j k l m]/\ay n ((0<=(1:Int)/\(1:Int)<=(a.length:Int)/\(a.length:Int)<=(a.length:Int))/\Fi r h [vB n] [K7 (List.drop 1 (List.take a.length a)) b c d e f g i j k l m])
 (Fi r h [vB n] [K7 a b c d e f g i j k l m])):
  ak 133 [.aA 0 0,vN o,vS p] [K7 a b c d e f g i j k l m] r h:=.of func133 aej H
def Zl:bq:={an:=[(4,6,ah)],mod:=[(2,3,[(0,[9,10,11])])]}
def Zm(a:Rw)(b c:Int)(d:Cx)(e f g:Rw)(i j k l:Int)(m:Cx){r h}(H:∃n,ak 188 [.aA 0 0] [K8 a b c d e f g i j k l m] [vB n] [K8 a b c d e f g i j k l m]/\ay (!n) (∃o p q,ak 100 [.aA 0 0] [K8 a b c d e f g i j k l m] [.agg [N o,N p,C q]] [K8 a b c d e f g i j k l m]/\∃s t u,ak 99 [.aA 0 0,.agg [N o,N p,C q],vN 3] [K8 a b c d e f g i j k l m] [] [K8 a b c d e f g i j s t u]/\Fi r h [vS []] [K8 a b c d e f g i j s t u])
 (cS a 0 fun w v x y=>(0<=(1:Int)/\(1:Int)<=(a.length:Int)/\(a.length:Int)<=(a.length:Int))/\Fi r h [vS v] [K8 (List.drop 1 (List.take a.length a)) b c d e f g i j k l m])):
  ak 134 [.aA 0 0] [K8 a b c d e f g i j k l m] r h:=.of func134 Zl H
def ael:bq:={an:=[(4,6,ah)],mod:=[(2,3,[(0,[9,10,11])])]}
def aem(a:Rw)(b c:Int)(d:Cx)(e f g:Rw)(i j k l:Int)(m:Cx){r h}(H:∃n,ak 188 [.aA 0 0] [K7 a b c d e f g i j k l m] [vB n] [K7 a b c d e f g i j k l m]/\ay (!n) (∃o p q,ak 100 [.aA 0 0] [K7 a b c d e f g i j k l m] [.agg [N o,N p,C q]] [K7 a b c d e f g i j k l m]/\∃s t u,ak 99 [.aA 0 0,.agg [N o,N p,C q],vN 3] [K7 a b c d e f g i j k l m] [] [K7 a b c d e f g i j s t u]/\Fi r h [vS []] [K7 a b c d e f g i j s t u])
 (cS a 0 fun w v x y=>(0<=(1:Int)/\(1:Int)<=(a.length:Int)/\(a.length:Int)<=(a.length:Int))/\Fi r h [vS v] [K7 (List.drop 1 (List.take a.length a)) b c d e f g i j k l m])):
  ak 134 [.aA 0 0] [K7 a b c d e f g i j k l m] r h:=.of func134 ael H
def Em(a:Rw)(b c:Int)(d:Cx)(e f g:Rw)(i j k l:Int)(m:Cx)(n:Int)(o p:By)(q:Int)(s:Rw)(t:Int)(u v:By)(w:Int)(x:Rw):St:=⟨aM 14 [(0,.aA 0 0),(2,.aA 1 0),(3,.aA 2 0)],[],[K7 a b c d e f g i j k l m,.cells [vN n,vS o,vS p,vU q,O 5 s],.cells [vN t,vS u,vS v,vU w,vL 5 x]]⟩
def Zn:bq:={an:=[(3,0,iG),(3,2,fy),(3,5,iG)],mod:=[(1,1,[(0,[0,9,10,11])]),(2,1,[(0,[0])]),(3,2,[(0,[0,9,10,11])])],cut:=[(2,{bl:=[0,2,3]})]}
def aen(j:Rw)(a b:Int)(c:Cx)(d e f:Rw)(g i k l:Int)(m:Cx){r h}(H:∃n o p q s t u v w,ak 189 [.aA 0 0] [K7 j a b c d e f g i k l m] [.agg [N n,S o,S p,U q,L 5 s]] [K7 t a b c d e f g i u v w]/\Lp f135 0 (Em t a b c d e f g i u v w 0 [] [] 0 [] n o p q s) 1 r h):
  ak 135 [.aA 0 0] [K7 j a b c d e f g i k l m] r h:=.of func135 Zn H
def Xr(t:Rw)(a b:Int)(c:Cx)(d e f:Rw)(g i j k:Int)(l:Cx)(u:Int)(v w:By)(x:Int)(y:Rw)(m:Int)(n o:By)(p:Int)(q:Rw){r h}(H:∃z s,ak 133 [.aA 0 0,vN 3,vS [124]] [K7 t a b c d e f g i j k l] [vB z] [K7 s a b c d e f g i j k l]/\ay z (∃D E G I J K M Q T,ak 189 [.aA 0 0] [K7 s a b c d e f g i j k l] [.agg [N D,S E,S G,U I,L 5 J]] [K7 K a b c d e f g i M Q T]/\Lp f135 0 (Em K a b c d e f g i M Q T u v w x y 8 [] [] 0 [[N m,S n,S o,U p,L 5 q],[N D,S E,S G,U I,L 5 J]]) 1 r h)
 (Fi r h [.agg [N m,S n,S o,U p,L 5 q]] [K7 s a b c d e f g i j k l])):
  Lp f135 0 (Em t a b c d e f g i j k l u v w x y m n o p q) 1 r h:=.of Zn H
def xV(a:Rw)(b c:Int)(d:Cx)(e f g:Rw)(i j k l:Int)(m:Cx)(n:Int)(o p:By)(q:Int)(s:Rw)(t:Int)(u v:By)(w:Int)(x:Rw):St:=⟨aM 14 [(0,.aA 0 0),(2,.aA 1 0),(3,.aA 2 0)],[],[K8 a b c d e f g i j k l m,.cells [vN n,vS o,vS p,vU q,O 5 s],.cells [vN t,vS u,vS v,vU w,vL 5 x]]⟩
def Vi:bq:={an:=[(3,0,iG),(3,2,fy),(3,5,iG)],mod:=[(1,1,[(0,[0,9,10,11])]),(2,1,[(0,[0])]),(3,2,[(0,[0,9,10,11])])],cut:=[(2,{bl:=[0,2,3]})]}
def Zo(j:Rw)(a b:Int)(c:Cx)(d e f:Rw)(g i k l:Int)(m:Cx){r h}(H:∃n o p q s t u v w,ak 189 [.aA 0 0] [K8 j a b c d e f g i k l m] [.agg [N n,S o,S p,U q,L 5 s]] [K8 t a b c d e f g i u v w]/\Lp f135 0 (xV t a b c d e f g i u v w 0 [] [] 0 [] n o p q s) 1 r h):
  ak 135 [.aA 0 0] [K8 j a b c d e f g i k l m] r h:=.of func135 Vi H
def TP(t:Rw)(a b:Int)(c:Cx)(d e f:Rw)(g i j k:Int)(l:Cx)(u:Int)(v w:By)(x:Int)(y:Rw)(m:Int)(n o:By)(p:Int)(q:Rw){r h}(H:∃z s,ak 133 [.aA 0 0,vN 3,vS [124]] [K8 t a b c d e f g i j k l] [vB z] [K8 s a b c d e f g i j k l]/\ay z (∃D E G I J K M Q T,ak 189 [.aA 0 0] [K8 s a b c d e f g i j k l] [.agg [N D,S E,S G,U I,L 5 J]] [K8 K a b c d e f g i M Q T]/\Lp f135 0 (xV K a b c d e f g i M Q T u v w x y 8 [] [] 0 [[N m,S n,S o,U p,L 5 q],[N D,S E,S G,U I,L 5 J]]) 1 r h)
 (Fi r h [.agg [N m,S n,S o,U p,L 5 q]] [K8 s a b c d e f g i j k l])):
  Lp f135 0 (xV t a b c d e f g i j k l u v w x y m n o p q) 1 r h:=.of Vi H
def mJ(a:Bool)(b:Rw)(c d:Int)(e:Cx)(f g i:Rw)(j k l m:Int)(n:Cx)(o:By)(p:Rw):St:=⟨aM 23 [(0,.aA 0 0),(1,.fn (.func 137) [] [.aA 1 0,.aA 2 0]),(4,vB a)],[],[K7 b c d e f g i j k l m n,.cells [vS o,O 4 p],.cells [.aA 0 0]]⟩
def GV:bq:={mod:=[(0,1,[(0,[0,9,10,11])]),(3,1,[(0,[1]),(2,[0,9,10,11])]),(4,1,[(0,[0])]),(5,1,[(0,[0,9,10,11])])],cut:=[(2,{bl:=[0,1,4]})]}
def Qh(j:Rw)(a b:Int)(c:Cx)(d e f:Rw)(g i k l:Int)(m:Cx)(n:By)(o:Rw){r h}(H:∃p q s t,ak 190 [.aA 0 0,vN 3,vS [123]] [K7 j a b c d e f g i k l m] [] [K7 p a b c d e f g i q s t]/\Lp f136 0 (mJ false p a b c d e f g i q s t n o) 3 r h):
  ak 136 [.aA 0 0,.fn (.func 137) [] [.aA 1 0,.aA 2 0]] [K7 j a b c d e f g i k l m,.cells [vS n,O 4 o],.cells [.aA 0 0]] r h:=.of func136 GV H
def JP(w:Bool)(j:Rw)(a b:Int)(c:Cx)(d e f:Rw)(g i k l:Int)(m:Cx)(n:By)(o:Rw){r h}(H:∃x,ak 97 [.aA 0 0] [K7 j a b c d e f g i k l m] [vB x] [K7 j a b c d e f g i k l m]/\ay x (ay w (∃y z p q s,ak 137 [.aA 0 0,.aA 1 0] [.cells [vS n,O 4 o],.cells [.aA 2 0],K7 j a b c d e f g i k l m] [] [.cells [vS n,O 4 y],.cells [.aA 2 0],K7 z a b c d e f g i p q s]/\∃D E,ak 133 [.aA 0 0,vN 3,vS [44]] [K7 z a b c d e f g i p q s] [vB D] [K7 E a b c d e f g i p q s]/\Lp f136 0 (mJ D E a b c d e f g i p q s n y) 3 r h) (∃G,ak 187 [.aA 0 0,vN 3,vS [125]] [K7 j a b c d e f g i k l m] [vB G] [K7 j a b c d e f g i k l m]/\ay (!G) (∃I J t u v,ak 137 [.aA 0 0,.aA 1 0] [.cells [vS n,O 4 o],.cells [.aA 2 0],K7 j a b c d e f g i k l m] [] [.cells [vS n,O 4 I],.cells [.aA 2 0],K7 J a b c d e f g i t u v]/\∃K M,ak 133 [.aA 0 0,vN 3,vS [44]] [K7 J a b c d e f g i t u v] [vB K] [K7 M a b c d e f g i t u v]/\Lp f136 0 (mJ K M a b c d e f g i t u v n I) 3 r h)
 (∃Q T X Y,ak 190 [.aA 0 0,vN 3,vS [125]] [K7 j a b c d e f g i k l m] [] [K7 Q a b c d e f g i T X Y]/\Fi r h [] [K7 Q a b c d e f g i T X Y,.cells [vS n,O 4 o],.cells [.aA 0 0]]))) (∃Z F A R,ak 190 [.aA 0 0,vN 3,vS [125]] [K7 j a b c d e f g i k l m] [] [K7 Z a b c d e f g i F A R]/\Fi r h [] [K7 Z a b c d e f g i F A R,.cells [vS n,O 4 o],.cells [.aA 0 0]])):
  Lp f136 0 (mJ w j a b c d e f g i k l m n o) 3 r h:=.of GV H
def mK(a:Bool)(b:Rw)(c d:Int)(e:Cx)(f g i:Rw)(j k l m:Int)(n:Cx)(o:By)(p q:Int)(s:Rw):St:=⟨aM 23 [(0,.aA 0 0),(1,.fn (.func 192) [] [.aA 1 0,.aA 2 0]),(4,vB a)],[],[K7 b c d e f g i j k l m n,.cells [vS o,vN p,vN q,O 3 s],.cells [.aA 0 0]]⟩
def GW:bq:={mod:=[(0,1,[(0,[0,9,10,11])]),(3,1,[(0,[3]),(2,[0,9,10,11])]),(4,1,[(0,[0])]),(5,1,[(0,[0,9,10,11])])],cut:=[(2,{bl:=[0,1,4]})]}
def Qi(j:Rw)(a b:Int)(c:Cx)(d e f:Rw)(g i k l:Int)(m:Cx)(n:By)(o p:Int)(q:Rw){r h}(H:∃s t u v,ak 190 [.aA 0 0,vN 3,vS [123]] [K7 j a b c d e f g i k l m] [] [K7 s a b c d e f g i t u v]/\Lp f136 0 (mK false s a b c d e f g i t u v n o p q) 3 r h):
  ak 136 [.aA 0 0,.fn (.func 192) [] [.aA 1 0,.aA 2 0]] [K7 j a b c d e f g i k l m,.cells [vS n,vN o,vN p,O 3 q],.cells [.aA 0 0]] r h:=.of func136 GW H
def JQ(y:Bool)(j:Rw)(a b:Int)(c:Cx)(d e f:Rw)(g i k l:Int)(m:Cx)(n:By)(o p:Int)(q:Rw){r h}(a5:∃z,ak 97 [.aA 0 0] [K7 j a b c d e f g i k l m] [vB z] [K7 j a b c d e f g i k l m]/\ay z (ay y (∃D E s t u,ak 192 [.aA 0 0,.aA 1 0] [.cells [vS n,vN o,vN p,O 3 q],.cells [.aA 2 0],K7 j a b c d e f g i k l m] [] [.cells [vS n,vN o,vN p,O 3 D],.cells [.aA 2 0],K7 E a b c d e f g i s t u]/\∃G I,ak 133 [.aA 0 0,vN 3,vS [44]] [K7 E a b c d e f g i s t u] [vB G] [K7 I a b c d e f g i s t u]/\Lp f136 0 (mK G I a b c d e f g i s t u n o p D) 3 r h) (∃J,ak 187 [.aA 0 0,vN 3,vS [125]] [K7 j a b c d e f g i k l m] [vB J] [K7 j a b c d e f g i k l m]/\ay (!J) (∃K M v w x,ak 192 [.aA 0 0,.aA 1 0] [.cells [vS n,vN o,vN p,O 3 q],.cells [.aA 2 0],K7 j a b c d e f g i k l m] [] [.cells [vS n,vN o,vN p,O 3 K],.cells [.aA 2 0],K7 M a b c d e f g i v w x]/\∃Q T,ak 133 [.aA 0 0,vN 3,vS [44]] [K7 M a b c d e f g i v w x] [vB Q] [K7 T a b c d e f g i v w x]/\Lp f136 0 (mK Q T a b c d e f g i v w x n o p K) 3 r h)
 (∃X Y Z H,ak 190 [.aA 0 0,vN 3,vS [125]] [K7 j a b c d e f g i k l m] [] [K7 X a b c d e f g i Y Z H]/\Fi r h [] [K7 X a b c d e f g i Y Z H,.cells [vS n,vN o,vN p,O 3 q],.cells [.aA 0 0]]))) (∃F A R a4,ak 190 [.aA 0 0,vN 3,vS [125]] [K7 j a b c d e f g i k l m] [] [K7 F a b c d e f g i A R a4]/\Fi r h [] [K7 F a b c d e f g i A R a4,.cells [vS n,vN o,vN p,O 3 q],.cells [.aA 0 0]])):
  Lp f136 0 (mK y j a b c d e f g i k l m n o p q) 3 r h:=.of GW a5
def aeo:bq:={an:=[(0,1,iH),(0,2,fg),(0,3,iG),(0,7,iH)],mod:=[(0,3,[(0,[0,9,10,11])])]}
def aep(o:By)(j p:Rw)(a b:Int)(c:Cx)(d e f:Rw)(g i q s:Int)(t:Cx){r h}(H:∃k l m n u v w x,ak 138 [.aA 0 0] [K7 p a b c d e f g i q s t] [.agg [S k,N l,N m,L 3 n]] [K7 u a b c d e f g i v w x]/\(j++([[S k,N l,N m,L 3 n]]:Rw)).length*56<=2^47/\Fi r h [] [.cells [vS o,O 4 (j++([[S k,N l,N m,L 3 n]]:Rw))],.cells [.aA 2 0],K7 u a b c d e f g i v w x]):
  ak 137 [.aA 0 0,.aA 1 0] [.cells [vS o,O 4 j],.cells [.aA 2 0],K7 p a b c d e f g i q s t] r h:=.of func137 aeo H
def aeq:bq:={mod:=[(1,1,[(0,[0])]),(2,1,[(0,[0,9,10,11])]),(3,1,[(0,[0,9,10,11])]),(4,2,[(0,[0,9,10,11]),(1,[])])]}
def aer(n:Rw)(a b:Int)(c:Cx)(d e f:Rw)(g i j k:Int)(l:Cx){r h}(H:∃o m,ak 133 [.aA 0 0,vN 1,vS [85,83,69]] [K7 n a b c d e f g i j k l] [vB o] [K7 m a b c d e f g i j k l]/\ay o (∃p q s t u,ak 134 [.aA 0 0] [K7 m a b c d e f g i j k l] [vS p] [K7 q a b c d e f g i s t u]/\Fi r h [.agg [S p,N 0,N 0,L 3 []]] [K7 q a b c d e f g i s t u])
 (∃v w x y z D,ak 191 [.aA 0 0] [K7 m a b c d e f g i j k l] [.agg [N v,N w]] [K7 x a b c d e f g i y z D]/\∃E G I J K M Q T,ak 136 [.aA 0 0,.fn (.func 192) [] [.aA 1 0,.aA 2 0]] [K7 x a b c d e f g i y z D,.cells [vS [],vN v,vN w,O 3 []],.cells [.aA 0 0]] [] [K7 E a b c d e f g i G I J,.cells [vS K,vN M,vN Q,O 3 T],.cells [.aA 0 0]]/\Fi r h [.agg [S K,N M,N Q,L 3 T]] [K7 E a b c d e f g i G I J])):
  ak 138 [.aA 0 0] [K7 n a b c d e f g i j k l] r h:=.of func138 aeq H
def aes:bq:={an:=[(6,3,iG),(6,7,fy),(6,11,fy)],mod:=[(1,1,[(0,[0,9,10,11])]),(2,1,[(0,[0,9,10,11])]),(3,1,[(0,[0,9,10,11])]),(5,2,[(0,[9,10,11])])]}
def aet(q:Rw)(a b:Int)(c:Cx)(d e f:Rw)(g i s t:Int)(u:Cx)(v w:Int)(x:Cx){r h}(H:∃k y z D E,ak 194 [.aA 0 0] [K7 q a b c d e f g i s t u] [vL 1 k] [K7 y a b c d e f g i z D E]/\∃G I J K,ak 190 [.aA 0 0,vN 1,vS [68,69,70,65,85,76,84]] [K7 y a b c d e f g i z D E] [] [K7 G a b c d e f g i I J K]/\∃l m j n o p,ak 191 [.aA 0 0] [K7 G a b c d e f g i I J K] [.agg [N l,N m]] [K7 j a b c d e f g i n o p]/\ay (decide ((f.length:Int)>0)) (∃M Q T,ak 99 [.aA 0 0,.agg [N v,N w,C x],vN 11] [K7 j a b c d e f g i n o p] [] [K7 j a b c d e f g i M Q T]/\Fi r h [] [K7 j a b c d e k l m M Q T])
 (Fi r h [] [K7 j a b c d e k l m n o p])):
  ak 139 [.aA 0 0,.agg [N v,N w,C x]] [K7 q a b c d e f g i s t u] r h:=.of func139 aes H
def Zp:bq:={an:=[(1,3,aa),(1,4,aa),(1,5,aa),(1,6,aa),(1,7,aa),(1,8,aa),(1,17,ah),(1,28,ah)]}
def Zq(a:Rw)(b c:Int)(d:Cx)(e f g:Rw)(i j k l:Int)(m:Cx)(n:Int)(o:By){r h}(H:∃p,ak 97 [.aA 0 0] [K8 a b c d e f g i j k l m] [vB p] [K8 a b c d e f g i j k l m]/\ay (bif p then(decide ((a.length:Int)>0))else false) (cS a 0 fun q t u v=>ay (q==n) (cS a 0 fun w s x y=>Fi r h [vB (s==o)] [K8 a b c d e f g i j k l m]) (Fi r h [vB false] [K8 a b c d e f g i j k l m])) (Fi r h [vB false] [K8 a b c d e f g i j k l m])):
  ak 187 [.aA 0 0,vN n,vS o] [K8 a b c d e f g i j k l m] r h:=.of func187 Zp H
def aeu:bq:={an:=[(1,3,aa),(1,4,aa),(1,5,aa),(1,6,aa),(1,7,aa),(1,8,aa),(1,17,ah),(1,28,ah)]}
def aev(a:Rw)(b c:Int)(d:Cx)(e f g:Rw)(i j k l:Int)(m:Cx)(n:Int)(o:By){r h}(H:∃p,ak 97 [.aA 0 0] [K7 a b c d e f g i j k l m] [vB p] [K7 a b c d e f g i j k l m]/\ay (bif p then(decide ((a.length:Int)>0))else false) (cS a 0 fun q t u v=>ay (q==n) (cS a 0 fun w s x y=>Fi r h [vB (s==o)] [K7 a b c d e f g i j k l m]) (Fi r h [vB false] [K7 a b c d e f g i j k l m])) (Fi r h [vB false] [K7 a b c d e f g i j k l m])):
  ak 187 [.aA 0 0,vN n,vS o] [K7 a b c d e f g i j k l m] r h:=.of func187 aeu H
def aew:bq:={an:=[(1,3,aa),(1,4,aa),(1,5,aa),(1,6,aa),(1,7,aa),(1,8,aa),(1,17,ah),(1,27,ah),(1,28,ah)]}
def aex(a:Rw)(b c:Int)(d:Cx)(e f g:Rw)(i j k l:Int)(m:Cx){r h}(H:∃n,ak 97 [.aA 0 0] [K7 a b c d e f g i j k l m] [vB n] [K7 a b c d e f g i j k l m]/\ay (bif n then(decide ((a.length:Int)>0))else false) (cS a 0 fun p s t u=>ay (p==1) (cS a 0 fun v q w x=>∃o,ak 144 [vS q] [] [vB o] []/\Fi r h [vB o] [K7 a b c d e f g i j k l m]) (Fi r h [vB false] [K7 a b c d e f g i j k l m])) (Fi r h [vB false] [K7 a b c d e f g i j k l m])):
  ak 188 [.aA 0 0] [K7 a b c d e f g i j k l m] r h:=.of func188 aew H
def Zr:bq:={an:=[(1,3,aa),(1,4,aa),(1,5,aa),(1,6,aa),(1,7,aa),(1,8,aa),(1,17,ah),(1,27,ah),(1,28,ah)]}
def Zs(a:Rw)(b c:Int)(d:Cx)(e f g:Rw)(i j k l:Int)(m:Cx){r h}(H:∃n,ak 97 [.aA 0 0] [K8 a b c d e f g i j k l m] [vB n] [K8 a b c d e f g i j k l m]/\ay (bif n then(decide ((a.length:Int)>0))else false) (cS a 0 fun p s t u=>ay (p==1) (cS a 0 fun v q w x=>∃o,ak 144 [vS q] [] [vB o] []/\Fi r h [vB o] [K8 a b c d e f g i j k l m]) (Fi r h [vB false] [K8 a b c d e f g i j k l m])) (Fi r h [vB false] [K8 a b c d e f g i j k l m])):
  ak 188 [.aA 0 0] [K8 a b c d e f g i j k l m] r h:=.of func188 Zr H
def aey:bq:={mod:=[(2,1,[(0,[0,9,10,11])]),(3,1,[(0,[0,9,10,11])])]}
def aez(j:Rw)(a b:Int)(c:Cx)(d e f:Rw)(g i k l:Int)(m:Cx){r h}(H:∃n,ak 188 [.aA 0 0] [K7 j a b c d e f g i k l m] [vB n] [K7 j a b c d e f g i k l m]/\ay n (∃o p q s t,ak 134 [.aA 0 0] [K7 j a b c d e f g i k l m] [vS o] [K7 p a b c d e f g i q s t]/\Fi r h [.agg [N 5,S [],S o,U 0,L 5 []]] [K7 p a b c d e f g i q s t])
 (∃u v w x y,ak 259 [.aA 0 0,vU 18446744073709551615] [K7 j a b c d e f g i k l m] [vU u] [K7 v a b c d e f g i w x y]/\Fi r h [.agg [N 7,S [],S [],U u,L 5 []]] [K7 v a b c d e f g i w x y])):
  ak 189 [.aA 0 0] [K7 j a b c d e f g i k l m] r h:=.of func189 aey H
def Zt:bq:={mod:=[(2,1,[(0,[0,9,10,11])]),(3,1,[(0,[0,9,10,11])])]}
def Zu(j:Rw)(a b:Int)(c:Cx)(d e f:Rw)(g i k l:Int)(m:Cx){r h}(H:∃n,ak 188 [.aA 0 0] [K8 j a b c d e f g i k l m] [vB n] [K8 j a b c d e f g i k l m]/\ay n (∃o p q s t,ak 134 [.aA 0 0] [K8 j a b c d e f g i k l m] [vS o] [K8 p a b c d e f g i q s t]/\Fi r h [.agg [N 5,S [],S o,U 0,L 5 []]] [K8 p a b c d e f g i q s t])
 (∃u v w x y,ak 259 [.aA 0 0,vU 18446744073709551615] [K8 j a b c d e f g i k l m] [vU u] [K8 v a b c d e f g i w x y]/\Fi r h [.agg [N 7,S [],S [],U u,L 5 []]] [K8 v a b c d e f g i w x y])):
  ak 189 [.aA 0 0] [K8 j a b c d e f g i k l m] r h:=.of func189 Zt H
def aeA:bq:={mod:=[(0,3,[(0,[0])]),(1,3,[(0,[9,10,11])])]}
def aeB(n:Rw)(a b:Int)(c:Cx)(d e f:Rw)(g i j k:Int)(l:Cx)(o:Int)(p:By){r h}(H:∃q m,ak 133 [.aA 0 0,vN o,vS p] [K7 n a b c d e f g i j k l] [vB q] [K7 m a b c d e f g i j k l]/\ay (!q) (∃s t u,ak 100 [.aA 0 0] [K7 m a b c d e f g i j k l] [.agg [N s,N t,C u]] [K7 m a b c d e f g i j k l]/\∃v w x,ak 99 [.aA 0 0,.agg [N s,N t,C u],vN 3] [K7 m a b c d e f g i j k l] [] [K7 m a b c d e f g i v w x]/\Fi r h [] [K7 m a b c d e f g i v w x])
 (Fi r h [] [K7 m a b c d e f g i j k l])):
  ak 190 [.aA 0 0,vN o,vS p] [K7 n a b c d e f g i j k l] r h:=.of func190 aeA H
def aeC:bq:={an:=[(7,2,ah)],mod:=[(3,3,[(0,[9,10,11])]),(8,1,[(0,[0,9,10,11])])]}
def aeD(a:Rw)(b c:Int)(d:Cx)(e f g:Rw)(i j k l:Int)(m:Cx){r h}(H:∃n o,ak 260 [.aA 0 0] [K7 a b c d e f g i j k l m] [vN n,vB o] [K7 a b c d e f g i j k l m]/\ay (!o) (∃p q s,ak 100 [.aA 0 0] [K7 a b c d e f g i j k l m] [.agg [N p,N q,C s]] [K7 a b c d e f g i j k l m]/\∃t u v,ak 99 [.aA 0 0,.agg [N p,N q,C s],vN 3] [K7 a b c d e f g i j k l m] [] [K7 a b c d e f g i j t u v]/\Fi r h [.agg [N 0,N 0]] [K7 a b c d e f g i j t u v])
 ((0<=(1:Int)/\(1:Int)<=(a.length:Int)/\(a.length:Int)<=(a.length:Int))/\∃w,ak 182 [vL 1 [[N 3],[N 4],[N 5]],vN n] [] [vB w] []/\ay w (∃x y z D E,ak 261 [.aA 0 0] [K7 (List.drop 1 (List.take a.length a)) b c d e f g i j k l m] [vN x] [K7 y b c d e f g i j z D E]/\Fi r h [.agg [N n,N x]] [K7 y b c d e f g i j z D E])
 (Fi r h [.agg [N n,N 0]] [K7 (List.drop 1 (List.take a.length a)) b c d e f g i j k l m]))):
  ak 191 [.aA 0 0] [K7 a b c d e f g i j k l m] r h:=.of func191 aeC H
def aeE:bq:={an:=[(0,1,iH),(0,2,fg),(0,3,iG),(0,7,iH)],mod:=[(0,3,[(0,[0,9,10,11])])]}
def aeF(n:By)(o p:Int)(j q:Rw)(a b:Int)(c:Cx)(d e f:Rw)(g i s t:Int)(u:Cx){r h}(H:∃k l m v w x y,ak 193 [.aA 0 0] [K7 q a b c d e f g i s t u] [.agg [S k,L 1 l,L 5 m]] [K7 v a b c d e f g i w x y]/\(j++([[S k,L 1 l,L 5 m]]:Rw)).length*64<=2^47/\Fi r h [] [.cells [vS n,vN o,vN p,O 3 (j++([[S k,L 1 l,L 5 m]]:Rw))],.cells [.aA 2 0],K7 v a b c d e f g i w x y]):
  ak 192 [.aA 0 0,.aA 1 0] [.cells [vS n,vN o,vN p,O 3 j],.cells [.aA 2 0],K7 q a b c d e f g i s t u] r h:=.of func192 aeE H
def aeG:bq:={an:=[(9,4,ah)],mod:=[(1,1,[(0,[0,9,10,11])]),(2,1,[(0,[0])]),(2,4,[(0,[0])]),(3,1,[(0,[0,9,10,11])]),(4,1,[(0,[0,9,10,11])]),(6,1,[(0,[0])]),(8,1,[(0,[0,9,10,11])]),(10,2,[(0,[9,10,11])]),(11,1,[(0,[0,9,10,11])])]}
def aeH(b3:Rw)(a b:Int)(c:Cx)(d e f:Rw)(g i b4 b5:Int)(b6:Cx){r h}(j7:∃m b7 j k l,ak 134 [.aA 0 0] [K7 b3 a b c d e f g i b4 b5 b6] [vS m] [K7 b7 a b c d e f g i j k l]/\∃b8 I,ak 133 [.aA 0 0,vN 3,vS [40]] [K7 b7 a b c d e f g i j k l] [vB b8] [K7 I a b c d e f g i j k l]/\ay b8 (∃b9 J,ak 133 [.aA 0 0,vN 3,vS [41]] [K7 I a b c d e f g i j k l] [vB b9] [K7 J a b c d e f g i j k l]/\ay (!b9) (∃K c0 c1 c2 c3,ak 194 [.aA 0 0] [K7 J a b c d e f g i j k l] [vL 1 K] [K7 c0 a b c d e f g i c1 c2 c3]/\∃a9 q s t,ak 190 [.aA 0 0,vN 3,vS [41]] [K7 c0 a b c d e f g i c1 c2 c3] [] [K7 a9 a b c d e f g i q s t]/\∃c4 c5 c6,ak 100 [.aA 0 0] [K7 a9 a b c d e f g i q s t] [.agg [N c4,N c5,C c6]] [K7 a9 a b c d e f g i q s t]/\∃c7 b0,ak 133 [.aA 0 0,vN 3,vS [123]] [K7 a9 a b c d e f g i q s t] [vB c7] [K7 b0 a b c d e f g i q s t]/\ay (!c7) (Fi r h [.agg [S m,L 1 K,L 5 []]] [K7 b0 a b c d e f g i q s t])
 (∃M Q T X Y n u v w,ak 262 [.aA 0 0] [K7 b0 a b c d e f g i q s t] [.agg [N M,S Q,S T,U X,L 5 Y]] [K7 n a b c d e f g i u v w]/\∃c8,ak 97 [.aA 0 0] [K7 n a b c d e f g i u v w] [vB c8] [K7 n a b c d e f g i u v w]/\ay c8 (∃c9,ak 263 [.agg [N M,S Q,S T,U X,L 5 Y]] [] [vN c9] []/\ay (decide (c9>30)) (∃d0 d1 d2,ak 99 [.aA 0 0,.agg [N c4,N c5,C c6],vN 6] [K7 n a b c d e f g i u v w] [] [K7 n a b c d e f g i d0 d1 d2]/\∃d3 d4 d5 d6,ak 190 [.aA 0 0,vN 3,vS [125]] [K7 n a b c d e f g i d0 d1 d2] [] [K7 d3 a b c d e f g i d4 d5 d6]/\Fi r h [.agg [S m,L 1 K,L 5 [[N M,S Q,S T,U X,L 5 Y]]]] [K7 d3 a b c d e f g i d4 d5 d6])
 (∃d7 d8 d9 e0,ak 190 [.aA 0 0,vN 3,vS [125]] [K7 n a b c d e f g i u v w] [] [K7 d7 a b c d e f g i d8 d9 e0]/\Fi r h [.agg [S m,L 1 K,L 5 [[N M,S Q,S T,U X,L 5 Y]]]] [K7 d7 a b c d e f g i d8 d9 e0])) (∃e1 e2 e3 e4,ak 190 [.aA 0 0,vN 3,vS [125]] [K7 n a b c d e f g i u v w] [] [K7 e1 a b c d e f g i e2 e3 e4]/\Fi r h [.agg [S m,L 1 K,L 5 [[N M,S Q,S T,U X,L 5 Y]]]] [K7 e1 a b c d e f g i e2 e3 e4])))
 (∃e5 e6 e7,ak 100 [.aA 0 0] [K7 J a b c d e f g i j k l] [.agg [N e5,N e6,C e7]] [K7 J a b c d e f g i j k l]/\∃e8 b1,ak 133 [.aA 0 0,vN 3,vS [123]] [K7 J a b c d e f g i j k l] [vB e8] [K7 b1 a b c d e f g i j k l]/\ay (!e8) (Fi r h [.agg [S m,L 1 [],L 5 []]] [K7 b1 a b c d e f g i j k l])
 (∃Z H F A R o x y z,ak 262 [.aA 0 0] [K7 b1 a b c d e f g i j k l] [.agg [N Z,S H,S F,U A,L 5 R]] [K7 o a b c d e f g i x y z]/\∃e9,ak 97 [.aA 0 0] [K7 o a b c d e f g i x y z] [vB e9] [K7 o a b c d e f g i x y z]/\ay e9 (∃f0,ak 263 [.agg [N Z,S H,S F,U A,L 5 R]] [] [vN f0] []/\ay (decide (f0>30)) (∃f1 f2 f3,ak 99 [.aA 0 0,.agg [N e5,N e6,C e7],vN 6] [K7 o a b c d e f g i x y z] [] [K7 o a b c d e f g i f1 f2 f3]/\∃f4 f5 f6 f7,ak 190 [.aA 0 0,vN 3,vS [125]] [K7 o a b c d e f g i f1 f2 f3] [] [K7 f4 a b c d e f g i f5 f6 f7]/\Fi r h [.agg [S m,L 1 [],L 5 [[N Z,S H,S F,U A,L 5 R]]]] [K7 f4 a b c d e f g i f5 f6 f7])
 (∃f8 f9 g0 g1,ak 190 [.aA 0 0,vN 3,vS [125]] [K7 o a b c d e f g i x y z] [] [K7 f8 a b c d e f g i f9 g0 g1]/\Fi r h [.agg [S m,L 1 [],L 5 [[N Z,S H,S F,U A,L 5 R]]]] [K7 f8 a b c d e f g i f9 g0 g1])) (∃g2 g3 g4 g5,ak 190 [.aA 0 0,vN 3,vS [125]] [K7 o a b c d e f g i x y z] [] [K7 g2 a b c d e f g i g3 g4 g5]/\Fi r h [.agg [S m,L 1 [],L 5 [[N Z,S H,S F,U A,L 5 R]]]] [K7 g2 a b c d e f g i g3 g4 g5])))) (∃g6 g7 g8,ak 100 [.aA 0 0] [K7 I a b c d e f g i j k l] [.agg [N g6,N g7,C g8]] [K7 I a b c d e f g i j k l]/\∃g9 b2,ak 133 [.aA 0 0,vN 3,vS [123]] [K7 I a b c d e f g i j k l] [vB g9] [K7 b2 a b c d e f g i j k l]/\ay (!g9) (Fi r h [.agg [S m,L 1 [],L 5 []]] [K7 b2 a b c d e f g i j k l])
 (∃a4 a5 a6 a7 a8 p D E G,ak 262 [.aA 0 0] [K7 b2 a b c d e f g i j k l] [.agg [N a4,S a5,S a6,U a7,L 5 a8]] [K7 p a b c d e f g i D E G]/\∃i0,ak 97 [.aA 0 0] [K7 p a b c d e f g i D E G] [vB i0] [K7 p a b c d e f g i D E G]/\ay i0 (∃i1,ak 263 [.agg [N a4,S a5,S a6,U a7,L 5 a8]] [] [vN i1] []/\ay (decide (i1>30)) (∃i2 i3 i4,ak 99 [.aA 0 0,.agg [N g6,N g7,C g8],vN 6] [K7 p a b c d e f g i D E G] [] [K7 p a b c d e f g i i2 i3 i4]/\∃i5 i6 i7 i8,ak 190 [.aA 0 0,vN 3,vS [125]] [K7 p a b c d e f g i i2 i3 i4] [] [K7 i5 a b c d e f g i i6 i7 i8]/\Fi r h [.agg [S m,L 1 [],L 5 [[N a4,S a5,S a6,U a7,L 5 a8]]]] [K7 i5 a b c d e f g i i6 i7 i8])
 (∃i9 j0 j1 j2,ak 190 [.aA 0 0,vN 3,vS [125]] [K7 p a b c d e f g i D E G] [] [K7 i9 a b c d e f g i j0 j1 j2]/\Fi r h [.agg [S m,L 1 [],L 5 [[N a4,S a5,S a6,U a7,L 5 a8]]]] [K7 i9 a b c d e f g i j0 j1 j2])) (∃j3 j4 j5 j6,ak 190 [.aA 0 0,vN 3,vS [125]] [K7 p a b c d e f g i D E G] [] [K7 j3 a b c d e f g i j4 j5 j6]/\Fi r h [.agg [S m,L 1 [],L 5 [[N a4,S a5,S a6,U a7,L 5 a8]]]] [K7 j3 a b c d e f g i j4 j5 j6])))):
  ak 193 [.aA 0 0] [K7 b3 a b c d e f g i b4 b5 b6] r h:=.of func193 aeG j7
def Eo(a b:Rw)(c d:Int)(e:Cx)(f g i:Rw)(j k l m:Int)(n:Cx):St:=⟨aM 15 [(0,.aA 0 0),(3,.own 0 0 1 a)],[some 0],[K7 b c d e f g i j k l m n]⟩
def Zv:bq:={an:=[(1,2,{bA:=true})],mod:=[(1,1,[(0,[0,9,10,11])]),(2,1,[(0,[0])]),(3,2,[(0,[0,9,10,11])])],cut:=[(2,{bl:=[0,3],dw:=[(3,1)],owns:=[3]})]}
def aeI(j:Rw)(a b:Int)(c:Cx)(d e f:Rw)(g i k l:Int)(m:Cx){r h}(H:∃n o p q s,ak 134 [.aA 0 0] [K7 j a b c d e f g i k l m] [vS n] [K7 o a b c d e f g i p q s]/\Lp f194 0 (Eo [[S n]] o a b c d e f g i p q s) 1 r h):
  ak 194 [.aA 0 0] [K7 j a b c d e f g i k l m] r h:=.of func194 Zv H
def Xs(m p:Rw)(a b:Int)(c:Cx)(d e f:Rw)(g i j k:Int)(l:Cx){r h}(H:∃q n,ak 133 [.aA 0 0,vN 3,vS [44]] [K7 p a b c d e f g i j k l] [vB q] [K7 n a b c d e f g i j k l]/\ay q (∃o s t u v,ak 134 [.aA 0 0] [K7 n a b c d e f g i j k l] [vS o] [K7 s a b c d e f g i t u v]/\(m++([[S o]]:Rw)).length*16<=2^47/\Lp f194 0 (Eo (m++([[S o]]:Rw)) s a b c d e f g i t u v) 1 r h)
 (Fi r h [.own 0 0 1 m] [K7 n a b c d e f g i j k l])):
  Lp f194 0 (Eo m p a b c d e f g i j k l) 1 r h:=.of Zv H
def zf(a:Rw)(b c:Int)(d:Cx)(e f g:Rw)(i j k l:Int)(m:Cx):St:=⟨aM 57 [(0,.aA 0 0)],[],[K7 a b c d e f g i j k l m]⟩
def Zw:bq:={an:=[(1,3,aa),(1,4,aa),(1,5,aa),(1,6,aa),(1,7,aa),(1,8,aa),(1,17,ah),(2,6,ah),(2,7,ah),(3,2,aa),(3,3,aa),(3,4,aa)],mod:=[(6,3,[(0,[9,10,11])])],join:=[(6,{bl:=[0]})]}
def aeJ(a:Rw)(b c:Int)(d:Cx)(e f g:Rw)(i j k l:Int)(m:Cx)(o:Int){r h}(H:∃p,ak 97 [.aA 0 0] [K7 a b c d e f g i j k l m] [vB p] [K7 a b c d e f g i j k l m]/\ay (bif p then(decide ((a.length:Int)>0))else false) (cS a 0 fun s u v w=>ay (s==2) (cS a 0 fun x t y z=>∃n q,ak 251 [vS t] [] [vU n,vB q] []/\ay (bif q then(decide (n<=o))else false) ((0<=(1:Int)/\(1:Int)<=(a.length:Int)/\(a.length:Int)<=(a.length:Int))/\Fi r h [vU n] [K7 (List.drop 1 (List.take a.length a)) b c d e f g i j k l m])
 (Rp f259 6 (zf a b c d e f g i j k l m) 1 r h))
 (Rp f259 6 (zf a b c d e f g i j k l m) 1 r h)) (Rp f259 6 (zf a b c d e f g i j k l m) 1 r h)):
  ak 259 [.aA 0 0,vU o] [K7 a b c d e f g i j k l m] r h:=.of func259 Zw H
def Xt(a:Rw)(b c:Int)(d:Cx)(e f g:Rw)(i j k l:Int)(m:Cx){r h}(H:∃n o p,ak 100 [.aA 0 0] [K7 a b c d e f g i j k l m] [.agg [N n,N o,C p]] [K7 a b c d e f g i j k l m]/\∃q s t,ak 99 [.aA 0 0,.agg [N n,N o,C p],vN 3] [K7 a b c d e f g i j k l m] [] [K7 a b c d e f g i j q s t]/\Fi r h [vU 0] [K7 a b c d e f g i j q s t]):
  Rp f259 6 (zf a b c d e f g i j k l m) 1 r h:=xm.of Zw H
def uM(a:Rw)(b c:Int)(d:Cx)(e f g:Rw)(i j k l:Int)(m:Cx):St:=⟨aM 57 [(0,.aA 0 0)],[],[K8 a b c d e f g i j k l m]⟩
def Vj:bq:={an:=[(1,3,aa),(1,4,aa),(1,5,aa),(1,6,aa),(1,7,aa),(1,8,aa),(1,17,ah),(2,6,ah),(2,7,ah),(3,2,aa),(3,3,aa),(3,4,aa)],mod:=[(6,3,[(0,[9,10,11])])],join:=[(6,{bl:=[0]})]}
def Zx(a:Rw)(b c:Int)(d:Cx)(e f g:Rw)(i j k l:Int)(m:Cx)(o:Int){r h}(H:∃p,ak 97 [.aA 0 0] [K8 a b c d e f g i j k l m] [vB p] [K8 a b c d e f g i j k l m]/\ay (bif p then(decide ((a.length:Int)>0))else false) (cS a 0 fun s u v w=>ay (s==2) (cS a 0 fun x t y z=>∃n q,ak 251 [vS t] [] [vU n,vB q] []/\ay (bif q then(decide (n<=o))else false) ((0<=(1:Int)/\(1:Int)<=(a.length:Int)/\(a.length:Int)<=(a.length:Int))/\Fi r h [vU n] [K8 (List.drop 1 (List.take a.length a)) b c d e f g i j k l m])
 (Rp f259 6 (uM a b c d e f g i j k l m) 1 r h))
 (Rp f259 6 (uM a b c d e f g i j k l m) 1 r h)) (Rp f259 6 (uM a b c d e f g i j k l m) 1 r h)):
  ak 259 [.aA 0 0,vU o] [K8 a b c d e f g i j k l m] r h:=.of func259 Vj H
def TQ(a:Rw)(b c:Int)(d:Cx)(e f g:Rw)(i j k l:Int)(m:Cx){r h}(H:∃n o p,ak 100 [.aA 0 0] [K8 a b c d e f g i j k l m] [.agg [N n,N o,C p]] [K8 a b c d e f g i j k l m]/\∃q s t,ak 99 [.aA 0 0,.agg [N n,N o,C p],vN 3] [K8 a b c d e f g i j k l m] [] [K8 a b c d e f g i j q s t]/\Fi r h [vU 0] [K8 a b c d e f g i j q s t]):
  Rp f259 6 (uM a b c d e f g i j k l m) 1 r h:=xm.of Vj H
def aeK:bq:={an:=[(1,4,aa),(1,5,aa),(1,6,aa),(1,7,aa),(1,8,aa),(1,9,aa),(1,18,ah),(3,6,ah),(3,7,ah)]}
def aeL(a:Rw)(b c:Int)(d:Cx)(e f g:Rw)(i j k l:Int)(m:Cx){r h}(H:∃n,ak 97 [.aA 0 0] [K7 a b c d e f g i j k l m] [vB n] [K7 a b c d e f g i j k l m]/\ay (bif(!n)then true else((a.length:Int)==0)) (Fi r h [vN 0,vB false] [K7 a b c d e f g i j k l m]) (cS a 0 fun q t u v=>ay (q !=1) (Fi r h [vN 0,vB false] [K7 a b c d e f g i j k l m])
 (cS a 0 fun w s x y=>∃o p,ak 322 [vS s] [] [vN o,vB p] []/\Fi r h [vN o,vB p] [K7 a b c d e f g i j k l m]))):
  ak 260 [.aA 0 0] [K7 a b c d e f g i j k l m] r h:=.of func260 aeK H
def aeM:bq:={mod:=[(1,1,[(0,[0,9,10,11])]),(2,1,[(0,[0,9,10,11])]),(3,1,[(0,[0,9,10,11])])]}
def aeN(j:Rw)(a b:Int)(c:Cx)(d e f:Rw)(g i k l:Int)(m:Cx){r h}(H:∃n o p q,ak 190 [.aA 0 0,vN 3,vS [40]] [K7 j a b c d e f g i k l m] [] [K7 n a b c d e f g i o p q]/\∃s t u v w,ak 259 [.aA 0 0,vU 65535] [K7 n a b c d e f g i o p q] [vU s] [K7 t a b c d e f g i u v w]/\∃x y z D,ak 190 [.aA 0 0,vN 3,vS [41]] [K7 t a b c d e f g i u v w] [] [K7 x a b c d e f g i y z D]/\Fi r h [vN (IntKind.wrap .i64 s)] [K7 x a b c d e f g i y z D]):
  ak 261 [.aA 0 0] [K7 j a b c d e f g i k l m] r h:=.of func261 aeM H
def Ep(a:Rw)(b c:Int)(d:Cx)(e f g:Rw)(i j k l:Int)(m:Cx)(n:Int)(o p:By)(q:Int)(s:Rw)(t:Int)(u v:By)(w:Int)(x:Rw):St:=⟨aM 14 [(0,.aA 0 0),(2,.aA 1 0),(3,.aA 2 0)],[],[K7 a b c d e f g i j k l m,.cells [vN n,vS o,vS p,vU q,O 5 s],.cells [vN t,vS u,vS v,vU w,vL 5 x]]⟩
def Zy:bq:={an:=[(3,0,iG),(3,2,fy),(3,5,iG)],mod:=[(1,1,[(0,[0,9,10,11])]),(2,1,[(0,[0])]),(3,2,[(0,[0,9,10,11])])],cut:=[(2,{bl:=[0,2,3]})]}
def aeO(j:Rw)(a b:Int)(c:Cx)(d e f:Rw)(g i k l:Int)(m:Cx){r h}(H:∃n o p q s t u v w,ak 323 [.aA 0 0] [K7 j a b c d e f g i k l m] [.agg [N n,S o,S p,U q,L 5 s]] [K7 t a b c d e f g i u v w]/\Lp f262 0 (Ep t a b c d e f g i u v w 0 [] [] 0 [] n o p q s) 1 r h):
  ak 262 [.aA 0 0] [K7 j a b c d e f g i k l m] r h:=.of func262 Zy H
def Xu(t:Rw)(a b:Int)(c:Cx)(d e f:Rw)(g i j k:Int)(l:Cx)(u:Int)(v w:By)(x:Int)(y:Rw)(m:Int)(n o:By)(p:Int)(q:Rw){r h}(H:∃z s,ak 133 [.aA 0 0,vN 3,vS [124,124]] [K7 t a b c d e f g i j k l] [vB z] [K7 s a b c d e f g i j k l]/\ay z (∃D E G I J K M Q T,ak 323 [.aA 0 0] [K7 s a b c d e f g i j k l] [.agg [N D,S E,S G,U I,L 5 J]] [K7 K a b c d e f g i M Q T]/\Lp f262 0 (Ep K a b c d e f g i M Q T u v w x y 1 [] [] 0 [[N m,S n,S o,U p,L 5 q],[N D,S E,S G,U I,L 5 J]]) 1 r h)
 (Fi r h [.agg [N m,S n,S o,U p,L 5 q]] [K7 s a b c d e f g i j k l])):
  Lp f262 0 (Ep t a b c d e f g i j k l u v w x y m n o p q) 1 r h:=.of Zy H
def aeP:bq:={}
def aeQ(a:By){r h}(H:ay (a==[65,76,76,79,87]) (Fi r h [vN 7,vB true] [])
 (ay (a==[76,79,71]) (Fi r h [vN 6,vB true] [])
 (ay (a==[75,73,76,76]) (Fi r h [vN 2,vB true] [])
 (ay (a==[75,73,76,76,95,80,82,79,67,69,83,83]) (Fi r h [vN 1,vB true] [])
 (ay (a==[84,82,65,80]) (Fi r h [vN 3,vB true] [])
 (ay (a==[69,82,82,78,79]) (Fi r h [vN 4,vB true] [])
 (ay (a==[84,82,65,67,69]) (Fi r h [vN 5,vB true] [])
 (Fi r h [vN 0,vB false] [])))))))):
  ak 322 [vS a] [] r h:=.of func322 aeP H
def Er(a:Rw)(b c:Int)(d:Cx)(e f g:Rw)(i j k l:Int)(m:Cx)(n:Int)(o p:By)(q:Int)(s:Rw)(t:Int)(u v:By)(w:Int)(x:Rw):St:=⟨aM 14 [(0,.aA 0 0),(2,.aA 1 0),(3,.aA 2 0)],[],[K7 a b c d e f g i j k l m,.cells [vN n,vS o,vS p,vU q,O 5 s],.cells [vN t,vS u,vS v,vU w,vL 5 x]]⟩
def Zz:bq:={an:=[(3,0,iG),(3,2,fy),(3,5,iG)],mod:=[(1,1,[(0,[0,9,10,11])]),(2,1,[(0,[0])]),(3,2,[(0,[0,9,10,11])])],cut:=[(2,{bl:=[0,2,3]})]}
def aeR(j:Rw)(a b:Int)(c:Cx)(d e f:Rw)(g i k l:Int)(m:Cx){r h}(H:∃n o p q s t u v w,ak 353 [.aA 0 0] [K7 j a b c d e f g i k l m] [.agg [N n,S o,S p,U q,L 5 s]] [K7 t a b c d e f g i u v w]/\Lp f323 0 (Er t a b c d e f g i u v w 0 [] [] 0 [] n o p q s) 1 r h):
  ak 323 [.aA 0 0] [K7 j a b c d e f g i k l m] r h:=.of func323 Zz H
def Xv(t:Rw)(a b:Int)(c:Cx)(d e f:Rw)(g i j k:Int)(l:Cx)(u:Int)(v w:By)(x:Int)(y:Rw)(m:Int)(n o:By)(p:Int)(q:Rw){r h}(H:∃z s,ak 133 [.aA 0 0,vN 3,vS [38,38]] [K7 t a b c d e f g i j k l] [vB z] [K7 s a b c d e f g i j k l]/\ay z (∃D E G I J K M Q T,ak 353 [.aA 0 0] [K7 s a b c d e f g i j k l] [.agg [N D,S E,S G,U I,L 5 J]] [K7 K a b c d e f g i M Q T]/\Lp f323 0 (Er K a b c d e f g i M Q T u v w x y 2 [] [] 0 [[N m,S n,S o,U p,L 5 q],[N D,S E,S G,U I,L 5 J]]) 1 r h)
 (Fi r h [.agg [N m,S n,S o,U p,L 5 q]] [K7 s a b c d e f g i j k l])):
  Lp f323 0 (Er t a b c d e f g i j k l u v w x y m n o p q) 1 r h:=.of Zz H
def aeS:bq:={an:=[(11,1,iG),(11,3,fy),(11,6,fg)],mod:=[(1,1,[(0,[0])]),(2,1,[(0,[0,9,10,11])]),(3,1,[(0,[0])]),(4,1,[(0,[0,9,10,11])]),(5,1,[(0,[0,9,10,11])]),(7,1,[(0,[0,9,10,11])]),(8,1,[(0,[0])]),(9,1,[(0,[0,9,10,11])]),(10,1,[(0,[0,9,10,11])]),(11,3,[(0,[0,9,10,11])])]}
def aeT(u:Rw)(a b:Int)(c:Cx)(d e f:Rw)(g i j k:Int)(l:Cx){r h}(e6:∃v p,ak 133 [.aA 0 0,vN 3,vS [33]] [K7 u a b c d e f g i j k l] [vB v] [K7 p a b c d e f g i j k l]/\ay v (∃w x y z D E G I J,ak 353 [.aA 0 0] [K7 p a b c d e f g i j k l] [.agg [N w,S x,S y,U z,L 5 D]] [K7 E a b c d e f g i G I J]/\Fi r h [.agg [N 3,S [],S [],U 0,L 5 [[N w,S x,S y,U z,L 5 D]]]] [K7 E a b c d e f g i G I J])
 (∃K q,ak 133 [.aA 0 0,vN 3,vS [40]] [K7 p a b c d e f g i j k l] [vB K] [K7 q a b c d e f g i j k l]/\ay K (∃M Q T X Y Z H F A,ak 262 [.aA 0 0] [K7 q a b c d e f g i j k l] [.agg [N M,S Q,S T,U X,L 5 Y]] [K7 Z a b c d e f g i H F A]/\∃R a4 a5 a6,ak 190 [.aA 0 0,vN 3,vS [41]] [K7 Z a b c d e f g i H F A] [] [K7 R a b c d e f g i a4 a5 a6]/\Fi r h [.agg [N M,S Q,S T,U X,L 5 Y]] [K7 R a b c d e f g i a4 a5 a6])
 (∃s a7 m n o,ak 134 [.aA 0 0] [K7 q a b c d e f g i j k l] [vS s] [K7 a7 a b c d e f g i m n o]/\∃a8 t,ak 133 [.aA 0 0,vN 3,vS [38]] [K7 a7 a b c d e f g i m n o] [vB a8] [K7 t a b c d e f g i m n o]/\ay a8 (∃a9 b0 b1 b2 b3 b4 b5 b6 b7,ak 189 [.aA 0 0] [K7 t a b c d e f g i m n o] [.agg [N a9,S b0,S b1,U b2,L 5 b3]] [K7 b4 a b c d e f g i b5 b6 b7]/\∃b8 b9 c0 c1 c2,ak 361 [.aA 0 0] [K7 b4 a b c d e f g i b5 b6 b7] [vS b8] [K7 b9 a b c d e f g i c0 c1 c2]/\∃c3 c4 c5 c6 c7 c8 c9 d0 d1,ak 135 [.aA 0 0] [K7 b9 a b c d e f g i c0 c1 c2] [.agg [N c3,S c4,S c5,U c6,L 5 c7]] [K7 c8 a b c d e f g i c9 d0 d1]/\Fi r h [.agg [N 4,S b8,S [],U 0,L 5 [[N 6,S [],S s,U 0,L 5 [[N a9,S b0,S b1,U b2,L 5 b3]]],[N c3,S c4,S c5,U c6,L 5 c7]]]] [K7 c8 a b c d e f g i c9 d0 d1])
 (∃d2 d3 d4 d5 d6,ak 361 [.aA 0 0] [K7 t a b c d e f g i m n o] [vS d2] [K7 d3 a b c d e f g i d4 d5 d6]/\∃d7 d8 d9 e0 e1 e2 e3 e4 e5,ak 135 [.aA 0 0] [K7 d3 a b c d e f g i d4 d5 d6] [.agg [N d7,S d8,S d9,U e0,L 5 e1]] [K7 e2 a b c d e f g i e3 e4 e5]/\Fi r h [.agg [N 4,S d2,S [],U 0,L 5 [[N 5,S [],S s,U 0,L 5 []],[N d7,S d8,S d9,U e0,L 5 e1]]]] [K7 e2 a b c d e f g i e3 e4 e5])))):
  ak 353 [.aA 0 0] [K7 u a b c d e f g i j k l] r h:=.of func353 aeS e6
def Es(a:Rw)(b c:Int)(d:Rw)(e f:Int)(g:Cx)(i j k:Rw)(l m n o:Int)(p:Cx):St:=⟨aM 20 [(0,.aA 0 0),(5,vL 1 a),(6,vN b),(7,vN c)],[],[K7 d e f g i j k l m n o p]⟩
def ZA:bq:={an:=[(3,1,ah)],mod:=[(4,2,[(0,[0])]),(7,3,[(0,[9,10,11])])],cut:=[(2,{bl:=[0,5,6,7]})]}
def aeU(a:Rw)(b c:Int)(d:Cx)(e f g:Rw)(i j k l:Int)(m:Cx){r h}(H:Lp f361 0 (Es [[S [61,61]],[S [33,61]],[S [60]],[S [60,61]],[S [62]],[S [62,61]]] 6 0 a b c d e f g i j k l m) 1 r h):
  ak 361 [.aA 0 0] [K7 a b c d e f g i j k l m] r h:=.of func361 ZA H
def Qj(o:Rw)(p n:Int)(m:Rw)(a b:Int)(c:Cx)(d e f:Rw)(g i j k:Int)(l:Cx){r h}(H:ay (decide (n<p)) (M7 o n fun z=>∃s q,ak 133 [.aA 0 0,vN 3,vS z] [K7 m a b c d e f g i j k l] [vB s] [K7 q a b c d e f g i j k l]/\ay s (Fi r h [vS z] [K7 q a b c d e f g i j k l])
 (bh .i64 (n+1)/\Lp f361 0 (Es o p (n+1) q a b c d e f g i j k l) 1 r h))
 (∃t u v,ak 100 [.aA 0 0] [K7 m a b c d e f g i j k l] [.agg [N t,N u,C v]] [K7 m a b c d e f g i j k l]/\∃w x y,ak 99 [.aA 0 0,.agg [N t,N u,C v],vN 3] [K7 m a b c d e f g i j k l] [] [K7 m a b c d e f g i w x y]/\Fi r h [vS []] [K7 m a b c d e f g i w x y])):
  Lp f361 0 (Es o p n m a b c d e f g i j k l) 1 r h:=.of ZA H
def aeV:bq:={an:=[(1,9,aa),(1,10,aa),(1,11,aa),(1,12,aa),(1,22,ah)]}
def aeW(d e a:Rw)(b c:Int){r h}(H:∃f,ak 142 [vL 6 d,.fn (.func 143) [] []] [] [vB f] []/\ay f (∃g,ak 146 [vL 2 e,.fn (.func 147) [] []] [] [vB g] []/\ay (bif g then(decide ((a.length:Int)>0))else false) (∃i,ak 150 [vL 1 a,.fn (.func 144) [] []] [] [vB i] []/\ay i (∃j,ak 151 [.agg [N b,N c]] [] [vB j] []/\Fi r h [vB j] []) (Fi r h [vB false] [])) (Fi r h [vB false] [])) (ay (bif false then(decide ((a.length:Int)>0))else false) (∃k,ak 150 [vL 1 a,.fn (.func 144) [] []] [] [vB k] []/\ay k (∃l,ak 151 [.agg [N b,N c]] [] [vB l] []/\Fi r h [vB l] []) (Fi r h [vB false] [])) (Fi r h [vB false] []))):
  ak 102 [.agg [L 6 d,L 2 e,L 1 a,N b,N c]] [] r h:=.of func102 aeV H
def Qk:bq:={}
def Ql(a:Rw){r h}(H:∃b,ak 200 [vL 6 a,.fn (.func 201) [] [.aA 0 0]] [.cells [.fn (.func 143) [] []]] [vB b] [.cells [.fn (.func 143) [] []]]/\Fi r h [vB (!b)] []):
  ak 142 [vL 6 a,.fn (.func 143) [] []] [] r h:=.of func142 Qk H
def aeX:bq:={an:=[(1,2,ah),(1,6,ah)]}
def aeY(a:By)(b:Int)(c d:By)(e:Int)(f:Rw){r h}(H:∃g,ak 144 [vS a] [] [vB g] []/\ay g (∃i,ak 145 [.agg [N b,S c,S d,U e,L 5 f]] [] [vB i] []/\Fi r h [vB i] []) (Fi r h [vB false] [])):
  ak 143 [.agg [S a,N b,S c,S d,U e,L 5 f]] [] r h:=.of func143 aeX H
def aeZ:bq:={an:=[(1,1,ah),(1,5,ah)]}
def ae0(a:By){r h}(H:∃b,ak 202 [vS a] [] [vB b] []/\ay b (∃c,ak 203 [vL 1 [[S [80,79,76,73,67,89]],[S [85,83,69]],[S [68,69,70,65,85,76,84]],[S [65,76,76,79,87]],[S [76,79,71]],[S [75,73,76,76]],[S [75,73,76,76,95,80,82,79,67,69,83,83]],[S [84,82,65,80]],[S [69,82,82,78,79]],[S [84,82,65,67,69]]],vS a] [] [vB c] []/\Fi r h [vB (!c)] []) (Fi r h [vB false] [])):
  ak 144 [vS a] [] r h:=.of func144 aeZ H
def Et(a:Int)(b c:By)(d:Int)(e:Rw):St:=⟨aM 26 [(1,.aA 0 0)],[],[.cells [vN a,vS b,vS c,vU d,vL 5 e]]⟩
def ZB:bq:={an:=[(2,1,ah),(3,5,ah),(6,1,ah)],cut:=[(1,{bl:=[1]})]}
def ae1(a:Int)(b c:By)(d:Int)(e:Rw){r h}(H:Lp f145 0 (Et a b c d e) 0 r h):
  ak 145 [.agg [N a,S b,S c,U d,L 5 e]] [] r h:=.of func145 ZB H
def Xw(a:Int)(b c:By)(d:Int)(e:Rw){r h}(H:ay (a==8) (∃f,ak 204 [.agg [N a,S b,S c,U d,L 5 e]] [] [.wG f] []/\(((∀cs,f≠some (331,cs))/\Fi r h [vB false] [])\/(∃g i j k l m n o p q,f=some (331,[N g,S i,S j,U k,L 5 l,N m,S n,S o,U p,L 5 q])/\∃s,ak 205 [.agg [N m,S n,S o,U p,L 5 q]] [] [vB s] []/\ay (!s) (Fi r h [vB false] [])
 (Lp f145 0 (Et g i j k l) 0 r h))))
 (∃t,ak 205 [.agg [N a,S b,S c,U d,L 5 e]] [] [vB t] []/\Fi r h [vB t] [])):
  Lp f145 0 (Et a b c d e) 0 r h:=.of ZB H
def Qm:bq:={}
def Qn(a:Rw){r h}(H:∃b,ak 206 [vL 2 a,.fn (.func 207) [] [.aA 0 0]] [.cells [.fn (.func 147) [] []]] [vB b] [.cells [.fn (.func 147) [] []]]/\Fi r h [vB (!b)] []):
  ak 146 [vL 2 a,.fn (.func 147) [] []] [] r h:=.of func146 Qm H
def ae2:bq:={an:=[(1,2,ah)]}
def ae3(a:By)(b:Rw){r h}(H:∃c,ak 144 [vS a] [] [vB c] []/\ay c (∃d,ak 148 [vL 4 b,.fn (.func 149) [] []] [] [vB d] []/\Fi r h [vB d] []) (Fi r h [vB false] [])):
  ak 147 [.agg [S a,L 4 b]] [] r h:=.of func147 ae2 H
def Qo:bq:={}
def Qp(a:Rw){r h}(H:∃b,ak 208 [vL 4 a,.fn (.func 209) [] [.aA 0 0]] [.cells [.fn (.func 149) [] []]] [vB b] [.cells [.fn (.func 149) [] []]]/\Fi r h [vB (!b)] []):
  ak 148 [vL 4 a,.fn (.func 149) [] []] [] r h:=.of func148 Qo H
def ae4:bq:={an:=[(2,2,ah),(2,10,aa),(2,11,aa),(2,12,aa),(2,13,aa),(3,2,ah)]}
def ae5(b:By)(c d:Int)(a:Rw){r h}(H:ay (!(b==[])) (∃e,ak 144 [vS b] [] [vB e] []/\ay e (Fi r h [vB (bif((true&&(c==0))&&(d==0))then((a.length:Int)==0)else false)] []) (Fi r h [vB (bif false then((a.length:Int)==0)else false)] []))
 (∃f,ak 151 [.agg [N c,N d]] [] [vB f] []/\ay f (∃g,ak 210 [vL 3 a,.fn (.func 211) [] []] [] [vB g] []/\Fi r h [vB g] []) (Fi r h [vB false] []))):
  ak 149 [.agg [S b,N c,N d,L 3 a]] [] r h:=.of func149 ae4 H
def Qq:bq:={}
def Qr(a:Rw){r h}(H:∃b,ak 212 [vL 1 a,.fn (.func 213) [] [.aA 0 0]] [.cells [.fn (.func 144) [] []]] [vB b] [.cells [.fn (.func 144) [] []]]/\Fi r h [vB (!b)] []):
  ak 150 [vL 1 a,.fn (.func 144) [] []] [] r h:=.of func150 Qq H
def ae6:bq:={an:=[(1,1,ah)]}
def ae7(a b:Int){r h}(H:∃d c,ak 106 [.agg [N a,N b]] [] [vW d,vB c] []/\Fi r h [vB c] []):
  ak 151 [.agg [N a,N b]] [] r h:=.of func151 ae6 H
def ae8:bq:={an:=[(1,2,ah),(2,2,ah)]}
def ae9(a:By)(b c:Rw){r h}(H:∃d,ak 217 [vL 1 b] [] [vL 1 d] []/\∃e,ak 218 [vL 5 c] [] [vL 5 e] []/\Fi r h [.agg [S a,L 1 d,L 5 e]] []):
  ak 154 [.agg [S a,L 1 b,L 5 c]] [] r h:=.of func154 ae8 H
def Qt:bq:={}
def Qu(a:By)(b:Int)(c d:By)(e:Int)(f:Rw){r h}(H:∃g,ak 143 [.agg [S a,N b,S c,S d,U e,L 5 f]] [] [vB g] []/\Fi r h [vB (!g)] [.cells [.fn (.func 143) [] []]]):
  ak 201 [.agg [S a,N b,S c,S d,U e,L 5 f],.aA 0 0] [.cells [.fn (.func 143) [] []]] r h:=.of func201 Qt H
def afa:bq:={an:=[(1,4,aa),(1,5,aa),(1,6,aa),(2,4,aa),(2,5,aa),(2,6,aa),(2,9,aa),(2,10,aa),(2,11,aa),(2,14,aa),(2,15,aa),(2,16,aa),(2,17,aa),(4,4,aa),(4,7,aa),(4,8,aa),(4,9,aa),(4,10,aa),(6,4,aa),(6,7,aa),(6,8,aa),(6,9,aa),(6,10,aa),(7,3,ah),(8,4,aa),(8,7,aa),(8,8,aa),(8,9,aa),(8,12,aa),(8,13,aa),(8,14,aa),(8,15,aa),(9,3,ah),(10,4,aa),(10,5,aa),(10,6,aa),(10,9,aa),(10,10,aa),(10,11,aa),(10,14,aa),(10,15,aa),(10,16,aa),(10,17,aa),(11,3,ah),(11,7,ah),(12,1,ah),(12,3,aa),(12,6,aa),(12,7,aa),(12,8,aa),(12,11,aa),(12,12,aa),(12,13,aa),(12,14,aa),(13,3,ah),(13,7,ah)]}
def afb(b:Int)(c e:By)(d:Int)(a:Rw){r h}(H:ay (bif(bif(bif(b==7)then(c==[])else false)then(e==[])else false)then((a.length:Int)==0)else false) (Fi r h [.wG (some (380,[]))] [])
 (ay (bif(bif(b==5)then(bif(c==[])then(d==0)else false)else false)then((a.length:Int)==0)else false) (Fi r h [.wG (some (381,[]))] [])
 (ay (bif(bif(b==6)then(bif(c==[])then(d==0)else false)else false)then((a.length:Int)==1)else false) (bu a 0 fun g i j k l=>Fi r h [.wG (some (383,[N g,S i,S j,U k,L 5 l]))] [])
 (ay (bif(bif(bif(b==3)then(bif(c==[])then(d==0)else false)else false)then(e==[])else false)then((a.length:Int)==1)else false) (bu a 0 fun m n o p q=>Fi r h [.wG (some (384,[N m,S n,S o,U p,L 5 q]))] [])
 (ay (bif(bif(bif(b==4)then(e==[])else false)then(d==0)else false)then((a.length:Int)==2)else false) (bu a 0 fun s t u v w=>bu a 1 fun x y z D E=>Fi r h [.wG (some (331,[N s,S t,S u,U v,L 5 w,N x,S y,S z,U D,L 5 E]))] [])
 (∃f,ak 268 [.agg [N b,S c,S e,U d,L 5 a]] [] [vB f] []/\ay (bif(bif(bif f then(bif(c==[])then(d==0)else false)else false)then(e==[])else false)then((a.length:Int)==2)else false) (bu a 0 fun G I J K M=>bu a 1 fun Q T X Y Z=>Fi r h [.wG (some (331,[N G,S I,S J,U K,L 5 M,N Q,S T,S X,U Y,L 5 Z]))] [])
 (Fi r h [.wG none] []))))))):
  ak 204 [.agg [N b,S c,S e,U d,L 5 a]] [] r h:=.of func204 afa H
def afc:bq:={an:=[(1,1,ah),(6,4,ah)]}
def afd(c:Int)(d b:By)(e:Int)(f:Rw){r h}(H:∃a,ak 204 [.agg [N c,S d,S b,U e,L 5 f]] [] [.wG a] []/\(((∀cs,a≠some (380,cs))/\(((∀cs,a≠some (381,cs))/\Fi r h [vB false] [])\/(a=some (381,[])/\∃g,ak 144 [vS b] [] [vB g] []/\Fi r h [vB g] [])))\/(a=some (380,[])/\Fi r h [vB true] []))):
  ak 205 [.agg [N c,S d,S b,U e,L 5 f]] [] r h:=.of func205 afc H
def Qv:bq:={}
def Qw(a:By)(b:Rw){r h}(H:∃c,ak 147 [.agg [S a,L 4 b]] [] [vB c] []/\Fi r h [vB (!c)] [.cells [.fn (.func 147) [] []]]):
  ak 207 [.agg [S a,L 4 b],.aA 0 0] [.cells [.fn (.func 147) [] []]] r h:=.of func207 Qv H
def Qx:bq:={}
def Qy(a:By)(b c:Int)(d:Rw){r h}(H:∃e,ak 149 [.agg [S a,N b,N c,L 3 d]] [] [vB e] []/\Fi r h [vB (!e)] [.cells [.fn (.func 149) [] []]]):
  ak 209 [.agg [S a,N b,N c,L 3 d],.aA 0 0] [.cells [.fn (.func 149) [] []]] r h:=.of func209 Qx H
def Qz:bq:={}
def QA(a:Rw){r h}(H:∃b,ak 271 [vL 3 a,.fn (.func 272) [] [.aA 0 0]] [.cells [.fn (.func 211) [] []]] [vB b] [.cells [.fn (.func 211) [] []]]/\Fi r h [vB (!b)] []):
  ak 210 [vL 3 a,.fn (.func 211) [] []] [] r h:=.of func210 Qz H
def afe:bq:={an:=[(1,2,ah),(1,11,aa),(1,12,aa),(1,13,aa),(1,14,aa)]}
def aff(b:By)(c a:Rw){r h}(H:∃d,ak 144 [vS b] [] [vB d] []/\ay (!d) (ay (bif true then true else(decide ((a.length:Int)>1))) (Fi r h [vB false] [])
 (∃e,ak 273 [vL 5 a,.fn (.func 274) [] []] [] [vB e] []/\Fi r h [vB e] [])) (∃f,ak 150 [vL 1 c,.fn (.func 144) [] []] [] [vB f] []/\ay (bif(!f)then true else(decide ((a.length:Int)>1))) (Fi r h [vB false] [])
 (∃g,ak 273 [vL 5 a,.fn (.func 274) [] []] [] [vB g] []/\Fi r h [vB g] []))):
  ak 211 [.agg [S b,L 1 c,L 5 a]] [] r h:=.of func211 afe H
def QB:bq:={}
def QC(a:By){r h}(H:∃b,ak 144 [vS a] [] [vB b] []/\Fi r h [vB (!b)] [.cells [.fn (.func 144) [] []]]):
  ak 213 [vS a,.aA 0 0] [.cells [.fn (.func 144) [] []]] r h:=.of func213 QB H
def Eu(a b:Rw)(c d:Int):St:=⟨aM 22 [(3,.own 0 0 5 a),(6,vL 5 b),(7,vN c),(8,vN d)],[some 0],[]⟩
def ZC:bq:={an:=[(4,1,ah),(5,2,ah)],cut:=[(3,{bl:=[3,6,7,8],dw:=[(3,5)],owns:=[3]})]}
def afg(a:Rw){r h}(H:Lp f218 0 (Eu [] a (a.length:Int) 0) 0 r h):
  ak 218 [vL 5 a] [] r h:=.of func218 ZC H
def QD(b c:Rw)(d a:Int){r h}(H:ay (decide (a<d)) (bu c a fun f g i j k=>∃e,ak 218 [vL 5 k] [] [vL 5 e] []/\(b++([[N f,S g,S i,U j,L 5 e]]:Rw)).length*72<=2^47/\bh .i64 (a+1)/\Lp f218 0 (Eu (b++([[N f,S g,S i,U j,L 5 e]]:Rw)) c d (a+1)) 0 r h)
 (Fi r h [.own 0 0 5 b] [])):
  Lp f218 0 (Eu b c d a) 0 r h:=.of ZC H
def Ev(a:Int)(b:Rw)(c d:Int):St:=⟨aM 20 [(3,vN a),(7,vL 5 b),(8,vN c),(9,vN d)],[],[]⟩
def ZD:bq:={an:=[(4,1,ah),(5,2,ah)],cut:=[(3,{bl:=[3,7,8,9]})]}
def afh(b:Int)(c d:By)(e:Int)(a:Rw){r h}(H:Lp f263 0 (Ev 0 a (a.length:Int) 0) 0 r h):
  ak 263 [.agg [N b,S c,S d,U e,L 5 a]] [] r h:=.of func263 ZD H
def QE(a:Int)(c:Rw)(d b:Int){r h}(H:ay (decide (b<d)) (bu c b fun f g i j k=>∃e,ak 263 [.agg [N f,S g,S i,U j,L 5 k]] [] [vN e] []/\bh .i64 (b+1)/\Lp f263 0 (Ev (if e>a then e else a) c d (b+1)) 0 r h)
 (bh .i64 (a+1)/\Fi r h [vN (a+1)] [])):
  Lp f263 0 (Ev a c d b) 0 r h:=.of ZD H
def afi:bq:={an:=[(1,4,aa),(1,5,aa),(1,6,aa),(1,9,aa),(1,10,aa),(1,11,aa)]}
def afj(a:Int)(b c:By)(d:Int)(e:Rw){r h}(H:Fi r h [vB (bif(bif(a==1)then true else(a==2))then true else(a==8))] []):
  ak 268 [.agg [N a,S b,S c,U d,L 5 e]] [] r h:=.of func268 afi H
def QF:bq:={}
def QG(a:By)(b c:Rw){r h}(H:∃d,ak 211 [.agg [S a,L 1 b,L 5 c]] [] [vB d] []/\Fi r h [vB (!d)] [.cells [.fn (.func 211) [] []]]):
  ak 272 [.agg [S a,L 1 b,L 5 c],.aA 0 0] [.cells [.fn (.func 211) [] []]] r h:=.of func272 QF H
def QH:bq:={}
def QI(a:Rw){r h}(H:∃b,ak 329 [vL 5 a,.fn (.func 330) [] [.aA 0 0]] [.cells [.fn (.func 274) [] []]] [vB b] [.cells [.fn (.func 274) [] []]]/\Fi r h [vB (!b)] []):
  ak 273 [vL 5 a,.fn (.func 274) [] []] [] r h:=.of func273 QH H
def afk:bq:={an:=[(1,1,ah),(1,4,ah)]}
def afl(a:Int)(b c:By)(d:Int)(e:Rw){r h}(H:∃f,ak 275 [.agg [N a,S b,S c,U d,L 5 e]] [] [vB f] []/\ay f (∃g,ak 263 [.agg [N a,S b,S c,U d,L 5 e]] [] [vN g] []/\Fi r h [vB (decide (g<=30))] []) (Fi r h [vB false] [])):
  ak 274 [.agg [N a,S b,S c,U d,L 5 e]] [] r h:=.of func274 afk H
def afm:bq:={an:=[(1,1,ah),(8,2,ah),(8,6,ah),(10,3,ah),(13,3,ah),(13,7,ah),(13,12,ah)]}
def afn(a:Int)(c d:By)(e:Int)(f:Rw){r h}(b3:∃b,ak 204 [.agg [N a,S c,S d,U e,L 5 f]] [] [.wG b] []/\ay (Option.isNone b) (Fi r h [vB false] [])
 (ay (a==1) (∃g i j k l m n o p q,b=some (331,[N g,S i,S j,U k,L 5 l,N m,S n,S o,U p,L 5 q])/\∃s,ak 275 [.agg [N g,S i,S j,U k,L 5 l]] [] [vB s] []/\ay s (∃t,ak 275 [.agg [N m,S n,S o,U p,L 5 q]] [] [vB t] []/\Fi r h [vB t] []) (Fi r h [vB false] []))
 (ay (a==2) (∃u v w x y z D E G I,b=some (331,[N u,S v,S w,U x,L 5 y,N z,S D,S E,U G,L 5 I])/\∃J,ak 275 [.agg [N u,S v,S w,U x,L 5 y]] [] [vB J] []/\ay J (∃K,ak 275 [.agg [N z,S D,S E,U G,L 5 I]] [] [vB K] []/\Fi r h [vB K] []) (Fi r h [vB false] []))
 (ay (a==3) (∃M Q T X Y,b=some (384,[N M,S Q,S T,U X,L 5 Y])/\∃Z,ak 275 [.agg [N M,S Q,S T,U X,L 5 Y]] [] [vB Z] []/\Fi r h [vB Z] [])
 (ay (a==4) (∃H F A R a4 a5 a6 a7 a8 a9,b=some (331,[N H,S F,S A,U R,L 5 a4,N a5,S a6,S a7,U a8,L 5 a9])/\∃b0,ak 203 [vL 1 [[S [61,61]],[S [33,61]],[S [60]],[S [60,61]],[S [62]],[S [62,61]]],vS c] [] [vB b0] []/\ay b0 (∃b1,ak 331 [.agg [N H,S F,S A,U R,L 5 a4]] [] [vB b1] []/\ay b1 (∃b2,ak 145 [.agg [N a5,S a6,S a7,U a8,L 5 a9]] [] [vB b2] []/\Fi r h [vB b2] []) (Fi r h [vB false] [])) (Fi r h [vB false] []))
 (Fi r h [vB false] [])))))):
  ak 275 [.agg [N a,S c,S d,U e,L 5 f]] [] r h:=.of func275 afm b3
def QJ:bq:={}
def QK(a:Int)(b c:By)(d:Int)(e:Rw){r h}(H:∃f,ak 274 [.agg [N a,S b,S c,U d,L 5 e]] [] [vB f] []/\Fi r h [vB (!f)] [.cells [.fn (.func 274) [] []]]):
  ak 330 [.agg [N a,S b,S c,U d,L 5 e],.aA 0 0] [.cells [.fn (.func 274) [] []]] r h:=.of func330 QJ H
def afo:bq:={an:=[(1,1,ah),(4,2,ah),(6,4,ah),(6,9,ah)]}
def afp(c:Int)(d b:By)(e:Int)(f:Rw){r h}(H:∃a,ak 204 [.agg [N c,S d,S b,U e,L 5 f]] [] [.wG a] []/\(((∀cs,a≠some (381,cs))/\(((∀cs,a≠some (383,cs))/\Fi r h [vB false] [])\/(∃g i j k l,a=some (383,[N g,S i,S j,U k,L 5 l])/\∃m,ak 144 [vS b] [] [vB m] []/\ay m (∃n,ak 205 [.agg [N g,S i,S j,U k,L 5 l]] [] [vB n] []/\Fi r h [vB n] []) (Fi r h [vB false] []))))\/(a=some (381,[])/\∃o,ak 144 [vS b] [] [vB o] []/\Fi r h [vB o] []))):
  ak 331 [.agg [N c,S d,S b,U e,L 5 f]] [] r h:=.of func331 afo H
def keys:List By:=[[80,79,76,73,67,89],[85,83,69],[68,69,70,65,85,76,84],[65,76,76,79,87],[76,79,71],[75,73,76,76],[75,73,76,76,95,80,82,79,67,69,83,83],[84,82,65,80],[69,82,82,78,79],[84,82,65,67,69]]
def bK(s:By):Bool:=bif lM s then !ki s keys else false
def zg(s:By)(a:s.length<=2^40):ak 144 [vS s] [] [vB (bK s)] []:=
 ae0 s ⟨_,adX s a,ae (fun h=>⟨_,TO s keys (by decide),ai (by rw[bK,h];rfl) rfl⟩) fun h=>ai (by rw[bK,h];rfl) rfl⟩
structure Pa where
 en:Int
 fi:Int
 sp:Cx
 ds:List dT
 ps:List dP
 mn:List By
 dk:Int
 dd:Int
structure Ps where
 l:List Tok
 e:Int
 f:Int
 c:Cx
abbrev pb(A:Pa)(s:Ps):Bx:=K7 (s.l.map Tok.row) A.en A.fi A.sp (A.ds.map dT.row) (A.ps.map dP.row) (aR A.mn) A.dk A.dd s.e s.f s.c
abbrev AW(A:Pa)(s:Ps):Bx:=K8 (s.l.map Tok.row) A.en A.fi A.sp (A.ds.map dT.row) (A.ps.map dP.row) (aR A.mn) A.dk A.dd s.e s.f s.c
abbrev oE(e:Ex):AV:=.agg [N e.kind,S e.op,S e.name,U e.num,L 5 (bw e.kids)]
def kV(s:Ps):Bool:=s.e==0
def jY(A:Pa)(s:Ps):Int×Cx:=match s.l with|[]=>(A.fi,A.sp)|t::_=>(t.file,t.spot)
def pI(s:Ps)(e f:Int)(c:Cx):Ps:={s with e:=bif kV s then e else s.e,f:=bif kV s then f else s.f,c:=bif kV s then c else s.c}
def fV(A:Pa)(s:Ps)(e:Int):Ps:=pI s e (jY A s).1 (jY A s).2
def gk(s:Ps):Option Tok:=bif kV s then s.l.head? else none
def iD(s:Ps)(k:Int)(t:By):Bool:=match gk s with|none=>false|some x=>bif x.kind==k then x.text==t else false
def aH(s:Ps)(k:Int)(t:By):Ps:={s with l:=bif iD s k t then s.l.tail else s.l}
def ef(A:Pa)(s:Ps)(k:Int)(t:By):Ps:=bif !iD s k t then fV A (aH s k t) 3 else aH s k t
def fA(s:Ps):Bool:=match gk s with|none=>false|some x=>bif x.kind==1 then bK x.text else false
def bt(A:Pa)(s:Ps):By×Ps:=bif !fA s then([],fV A s 3)else(match s.l with|[]=>[]|x::_=>x.text,{s with l:=s.l.tail})
def fB(A:Pa)(s:Ps)(a:Int):Int×Ps:=match gk s with
 |none=>(0,fV A s 3)
 |some x=>bif x.kind==2 then(bif(bif(oB x.text).2 then decide ((oB x.text).1<=a)else false)then((oB x.text).1,{s with l:=s.l.tail})else(0,fV A s 3))else(0,fV A s 3)
def gE(A:Pa)(s:Ps):Ex×Ps:=bif fA s then(.mk 5 [] (bt A s).1 0 [],(bt A s).2)else(.mk 7 [] [] (fB A s 18446744073709551615).1 [],(fB A s 18446744073709551615).2)
def ey(t:By)(k:Int)(a:Ps->Ex×Ps):Nat->Ex->Ps->Ex×Ps
 |0,e,s=>(e,s)
 |n+1,e,s=>bif iD s 3 t then ey t k a n (.mk k [] [] 0 [e,(a (aH s 3 t)).1]) (a (aH s 3 t)).2 else(e,aH s 3 t)
def jg(A:Pa)(s:Ps):Ex×Ps:=ey [124] 8 (gE A) (s.l.length+1) (gE A s).1 (gE A s).2
structure Le (s s':Ps):Prop where
 suf:s'.l <:+ s.l
 ok:kV s'=true->kV s=true
def Le.refl(s:Ps):Le s s:=⟨List.suffix_rfl,id⟩
def Le.trans{a b c:Ps}(h:Le a b)(g:Le b c):Le a c:=⟨g.suf.trans h.suf,fun k=>h.ok (g.ok k)⟩
def Le.len{a b:Ps}(h:Le a b):b.l.length<=a.l.length:=h.suf.length_le
structure TK (l:List Tok):Prop where
 len:l.length<=2^40
 text:∀t∈l,t.text.length<=2^40
def TK.le{s a:Ps}(h:TK s.l)(g:Le s a):TK a.l:=⟨dF g.len h.len,fun t b=>h.text t (g.suf.subset b)⟩
def xW(s:Ps)(e f:Int)(c:Cx):Le s (pI s e f c):=by
 refine⟨List.suffix_rfl,fun h=>?_⟩
 cases hk:kV s with
 |true=>rfl
 |false=>
  have:kV (pI s e f c)=kV s:=by simp only[kV,pI]at hk⊢; simp only[hk,af]
  rw[this,hk]at h;exact h
def zh(s:Ps)(e f:Int)(c:Cx)(a:(e==0)=false):kV (pI s e f c)=false:=by
 cases hk:kV s with
 |true=>simp only[kV,pI]at hk⊢; rw[hk];exact a
 |false=>simp only[kV,pI]at hk⊢; rw[hk];exact hk
def kF(A:Pa)(s:Ps)(e:Int):Le s (fV A s e):=xW _ _ _ _
def r8(s:Ps):Le s {s with l:=s.l.tail}:=⟨List.tail_suffix _,id⟩
def aZ(s:Ps)(k:Int)(t:By):Le s (aH s k t):=by
 unfold aH;cases iD s k t
 .exact .refl s
 .exact r8 s
def ez(A:Pa)(s:Ps)(k:Int)(t:By):Le s (ef A s k t):=by
 unfold ef;cases iD s k t
 .exact(aZ s k t).trans (kF _ _ _)
 .exact aZ s k t
def dm(A:Pa)(s:Ps):Le s (bt A s).2:=by
 unfold bt;cases fA s
 .exact kF _ _ _
 .exact r8 s
def BU(A:Pa)(s:Ps)(a:Int):Le s (fB A s a).2:=by
 unfold fB;split
 .exact kF _ _ _
 .rename_i x _
  cases x.kind==2
  .exact kF _ _ _
  .cases(bif(oB x.text).2 then decide ((oB x.text).1<=a)else false)
   .exact kF _ _ _
   .exact r8 s
def fN(A:Pa)(s:Ps):Le s (gE A s).2:=by
 unfold gE;cases fA s
 .exact BU _ _ _
 .exact dm _ _
def uN{t:By}{k:Int}{b:Ps->Ex×Ps}(a:∀s,Le s (b s).2):∀n e s,Le s (ey t k b n e s).2
 |0,e,s=>.refl s
 |n+1,e,s=>by
  unfold ey;cases iD s 3 t
  .exact aZ _ _ _
  .exact((aZ _ _ _).trans (a _)).trans (uN a n _ _)
def pJ(A:Pa)(s:Ps):Le s (jg A s).2:=(fN A s).trans (uN (fN A) _ _ _)
def h9{s:Ps}{x:Tok}(h:gk s=some x):kV s=true/\∃t,s.l=x::t:=by
 unfold gk at h;cases hk:kV s<;>rw[hk]at h
 .simp at h
 .cases hl:s.l with
  |nil=>rw[hl]at h;simp at h
  |cons y t=>rw[hl]at h;simp at h;rw[h];exact⟨rfl,t,rfl⟩
def JR{s:Ps}{k:Int}{t:By}(h:iD s k t=true):kV s=true/\∃x t,s.l=x::t:=by
 unfold iD at h;cases hf:gk s with
 |none=>rw[hf]at h;simp at h
 |some x=>exact⟨(h9 hf).1,x,(h9 hf).2⟩
def iy{s:Ps}{k:Int}{t:By}(h:iD s k t=true):(aH s k t).l.length+1=s.l.length:=by
 obtain⟨-,x,l,a⟩:=JR h;simp only[aH,h,aj,a];rfl
def zi{s:Ps}(h:fA s=true):kV s=true/\∃x t,s.l=x::t:=by
 unfold fA at h;cases hf:gk s with
 |none=>rw[hf]at h;simp at h
 |some x=>exact⟨(h9 hf).1,x,(h9 hf).2⟩
def Ll{A:Pa}{s:Ps}(h:kV (bt A s).2=true):(bt A s).2.l.length<s.l.length:=by
 unfold bt at h⊢;cases hn:fA s<;>rw[hn]at h
 .rw[show kV (bif !false then(([]:By),fV A s 3)else(match s.l with|[]=>[]|x::_=>x.text,{s with l:=s.l.tail})).2=kV (fV A s 3)from rfl,fV,zh _ _ _ _ rfl]at h
  simp at h
 .obtain⟨-,x,l,a⟩:=zi hn
  show s.l.tail.length<_
  rw[a];simp
def kG(s:Ps){X Y:Prop}(c:∀x,gk s=some x->(s.l.map Tok.row)[Int.toNat 0]?=some [N x.kind,S x.text,N x.file,C x.spot]->x∈s.l->X)(d:gk s=none->Y):
  ay (bif kV s then decide (((s.l.map Tok.row).length:Int)>0)else false) X Y:=by
 cases hf:gk s with
 |some x=>
  obtain⟨b,t,a⟩:=h9 hf;refine bF ?_ (c x hf (by rw[a];rfl) (by rw[a];exact aS))
  rw[b,a];simp
 |none=>
  refine aW ?_ (d hf);unfold gk at hf;cases hk:kV s
  .rfl
  .rw[hk]at hf
   cases hl:s.l with
   |nil=>simp
   |cons=>rw[hl]at hf;simp at hf
def kH(l:List Tok):List.drop 1 (List.take (l.map Tok.row).length (l.map Tok.row))=l.tail.map Tok.row:=by
 rw[eU (ar _)];cases l<;>rfl
def pK{l:List Tok}(h:∃x t,l=x::t):(0<=(1:Int)/\(1:Int)<=((l.map Tok.row).length:Int)/\((l.map Tok.row).length:Int)<=((l.map Tok.row).length:Int)):=by
 obtain⟨x,t,rfl⟩:=h;simp only[bB,aC];omega
def Ni(A:Pa)(s:Ps):ak 97 [.aA 0 0] [pb A s] [vB (kV s)] [pb A s]:=by apply W97;exact fi
def Bb(A:Pa)(s:Ps):ak 100 [.aA 0 0] [pb A s] [.agg [N 0,N (jY A s).1,C (jY A s).2]] [pb A s]:=by
 apply aei;obtain⟨l,e,f,c⟩:=s;cases l with
 |nil=>exact bF rfl fi
 |cons x l=>exact aW (by simp;omega) ⟨x.kind,x.text,x.file,x.spot,by omega,rfl,x.kind,x.text,x.file,x.spot,by omega,rfl,fi⟩
def QL(A:Pa)(s:Ps)(f0 e f:Int)(c:Cx):ak 99 [.aA 0 0,.agg [N f0,N f,C c],vN e] [pb A s] [] [pb A (pI s e f c)]:=by
 apply W99;exact⟨_,Ni A s,ae (fun h=>ai rfl (by simp only[pI,h,aj])) fun h=>ai rfl (by simp only[pI,h,af])⟩
def Xx(A:Pa)(s:Ps)(k:Int)(t:By):ak 187 [.aA 0 0,vN k,vS t] [pb A s] [vB (iD s k t)] [pb A s]:=by
 apply aev;exact⟨_,Ni A s,kG s (fun x a b _=>⟨_,_,_,_,by omega,b,ae (fun h=>⟨_,_,_,_,by omega,b,ai (by simp only[iD,a,h,aj]) rfl⟩) fun h=>ai (by simp only[iD,a,h,af]) rfl⟩) fun a=>ai (by simp only[iD,a]) rfl⟩
def nj(A:Pa)(s:Ps)(k:Int)(t:By):ak 133 [.aA 0 0,vN k,vS t] [pb A s] [vB (iD s k t)] [pb A (aH s k t)]:=by
 apply aek;exact⟨_,Xx A s k t,ae (fun h=>⟨pK (JR h).2,ai rfl (by rw[kH];simp only[aH,h,aj])⟩) fun h=>ai rfl (by simp only[aH,h,af])⟩
def ZE(A:Pa)(s:Ps)(d:TK s.l):ak 188 [.aA 0 0] [pb A s] [vB (fA s)] [pb A s]:=by
 apply aex;exact⟨_,Ni A s,kG s (fun x a b c=>⟨_,_,_,_,by omega,b,ae (fun h=>⟨_,_,_,_,by omega,b,_,zg _ (d.text x c),ai (by simp only[fA,a,h,aj]) rfl⟩) fun h=>ai (by simp only[fA,a,h,af]) rfl⟩) fun a=>ai (by simp only[fA,a]) rfl⟩
def GX(A:Pa)(s:Ps)(c:TK s.l):ak 134 [.aA 0 0] [pb A s] [vS (bt A s).1] [pb A (bt A s).2]:=by
 apply aem;refine⟨_,ZE A s c,ae (fun h=>⟨_,_,_,Bb A s,_,_,_,QL A s _ 3 _ _,ai (by rw[bt,h];rfl) (by rw[bt,h];rfl)⟩) fun h=>?_⟩
 have b:fA s=true:=by simpa using h
 obtain⟨-,x,l,a⟩:=zi b;exact⟨x.kind,x.text,x.file,x.spot,by omega,by rw[a];rfl,pK ⟨x,l,a⟩,ai (by rw[bt,h,a];rfl) (by rw[kH,bt,h];rfl)⟩
def ZF(A:Pa)(s:Ps)(c:Int)(f:TK s.l):ak 259 [.aA 0 0,vU c] [pb A s] [vU (fB A s c).1] [pb A (fB A s c).2]:=by
 have key:∀(r:Int×Ps),r=(0,fV A s 3)->Rp f259 6 (zf (s.l.map Tok.row) A.en A.fi A.sp (A.ds.map dT.row) (A.ps.map dP.row) (aR A.mn) A.dk A.dd s.e s.f s.c) 1 [vU r.1] [pb A r.2]:=by
  rintro _ rfl;apply Xt;exact⟨_,_,_,Bb A s,_,_,_,QL A s _ 3 _ _,fi⟩
 apply aeJ;refine⟨_,Ni A s,kG s (fun x a d e=>⟨_,_,_,_,by omega,d,ae (fun h=>⟨_,_,_,_,by omega,d,_,_,Xp _ (f.text x e),ae (fun b=>⟨pK ⟨x,(h9 a).2⟩,ai ?_ ?_⟩) fun b=>key _ ?_⟩) fun h=>key _ ?_⟩) fun a=>key _ ?_⟩
 .simp only[fB,a,h,b,aj]
 .rw[kH];simp only[fB,a,h,b,aj]
 .simp only[fB,a,h,b,aj,af]
 .simp only[fB,a,h,af]
 .simp only[fB,a]
def Xy(A:Pa)(s:Ps)(a:TK s.l):ak 189 [.aA 0 0] [pb A s] [oE (gE A s).1] [pb A (gE A s).2]:=by
 apply aez;exact⟨_,ZE A s a,ae (fun h=>⟨_,_,_,_,_,GX A s a,ai (by rw[gE,h];rfl) (by rw[gE,h];rfl)⟩) fun h=>⟨_,_,_,_,_,ZF A s _ a,ai (by rw[gE,h];rfl) (by rw[gE,h];rfl)⟩⟩
def Xz(A:Pa)(s:Ps)(a:TK s.l):ak 135 [.aA 0 0] [pb A s] [oE (jg A s).1] [pb A (jg A s).2]:=by
 have key:∀(n:Nat)(e:Ex)(s:Ps),TK s.l->s.l.length<n->Lp f135 0 (Em (s.l.map Tok.row) A.en A.fi A.sp (A.ds.map dT.row) (A.ps.map dP.row) (aR A.mn) A.dk A.dd s.e s.f s.c 0 [] [] 0 [] e.kind e.op e.name e.num (bw e.kids)) 1 [oE (ey [124] 8 (gE A) n e s).1] [pb A (ey [124] 8 (gE A) n e s).2]:=by
  intro n;induction n with
  |zero=>intro e s _ h;omega
  |succ n b=>
   intro e s a d;apply Xr;refine⟨_,_,nj A s 3 _,ae (fun h=>⟨_,_,_,_,_,_,_,_,_,Xy A _ (a.le (aZ _ _ _)),?_⟩) fun h=>ai (by rw[ey,h];rfl) (by rw[ey,h];rfl)⟩
   have c:=iy h;have f:=(fN A (aH s 3 [124])).len;have:=b (.mk 8 [] [] 0 [e,(gE A (aH s 3 [124])).1]) (gE A (aH s 3 [124])).2 (a.le ((aZ _ _ _).trans (fN A _))) (by omega)
   rw[ey,h];simp only[Ex.kids,bw,Ex.cD]at this;exact this
 apply aen;exact⟨_,_,_,_,_,_,_,_,_,Xy A s a,key _ _ _ (a.le (fN A s)) (by have:=(fN A s).len;omega)⟩
abbrev S3(s:Ps):Ps:={s with l:=s.l.tail}
abbrev Bc(a:Act):AV:=.agg [N a.kind,N a.data]
def oF(A:Pa)(s:Ps)(k:Int)(t:By):ak 190 [.aA 0 0,vN k,vS t] [pb A s] [] [pb A (ef A s k t)]:=by
 apply aeB;exact⟨_,_,nj A s k t,ae (fun h=>⟨_,_,_,Bb A (aH s k t),_,_,_,QL A (aH s k t) _ 3 _ _,ai rfl (by rw[ef,h];rfl)⟩) fun h=>ai rfl (by rw[ef,h];rfl)⟩
def gU(A:Pa):Nat->List By->Ps->List By×Ps
 |0,a,s=>(a,s)
 |n+1,a,s=>bif iD s 3 [44]then gU A n (a++[(bt A (aH s 3 [44])).1]) (bt A (aH s 3 [44])).2 else(a,aH s 3 [44])
def eB(A:Pa)(s:Ps):List By×Ps:=gU A (s.l.length+1) [(bt A s).1] (bt A s).2
def zj(A:Pa):∀n a s,Le s (gU A n a s).2
 |0,a,s=>.refl s
 |n+1,a,s=>by
  unfold gU;cases iD s 3 [44]
  .exact aZ _ _ _
  .exact((aZ _ _ _).trans (dm A _)).trans (zj A n _ _)
def r9(A:Pa)(s:Ps):Le s (eB A s).2:=(dm A s).trans (zj A _ _ _)
def ZG(A:Pa)(s:Ps)(b:TK s.l):ak 194 [.aA 0 0] [pb A s] [vL 1 (aR (eB A s).1)] [pb A (eB A s).2]:=by
 have key:∀(n:Nat)(a:List By)(s:Ps),TK s.l->s.l.length<n->a.length+s.l.length<=2^41->Lp f194 0 (Eo (aR a) (s.l.map Tok.row) A.en A.fi A.sp (A.ds.map dT.row) (A.ps.map dP.row) (aR A.mn) A.dk A.dd s.e s.f s.c) 1 [.own 0 0 1 (aR (gU A n a s).1)] [pb A (gU A n a s).2]:=by
  intro n;induction n with
  |zero=>intro e s _ h;omega
  |succ n c=>
   intro a s b f g;apply Xs;refine⟨_,_,nj A s 3 _,ae (fun h=>⟨_,_,_,_,_,GX A _ (b.le (aZ _ _ _)),?_,?_⟩) fun h=>ai (by rw[gU,h];rfl) (by rw[gU,h];rfl)⟩
   .simp[aR];omega
   .have d:=iy h
    have i:=(dm A (aH s 3 [44])).len;have:=c (a++[(bt A (aH s 3 [44])).1]) (bt A (aH s 3 [44])).2 (b.le ((aZ _ _ _).trans (dm A _))) (by omega) (by simp;omega)
    rw[gU,h];rw[show aR (a++[(bt A (aH s 3 [44])).1])=aR a++[[S (bt A (aH s 3 [44])).1]] by simp[aR,Gq]]at this
    exact this
 refine Go.Ac.ak.soft (r:=[.own 0 0 1 _]) ?_ rfl;apply aeI;have:=(dm A s).len;have:=b.len;exact⟨_,_,_,_,_,GX A s b,key _ [_] _ (b.le (dm A s)) (by omega) (by simp;omega)⟩
def uO(A:Pa)(s:Ps):Int×Ps:=(IntKind.wrap .i64 (fB A (ef A s 3 [40]) 65535).1,ef A (fB A (ef A s 3 [40]) 65535).2 3 [41])
def GY(A:Pa)(s:Ps):Le s (uO A s).2:=((ez A s 3 [40]).trans (BU A _ _)).trans (ez A _ _ _)
def afq(A:Pa)(s:Ps)(a:TK s.l):ak 261 [.aA 0 0] [pb A s] [vN (uO A s).1] [pb A (uO A s).2]:=by
 apply aeN;exact⟨_,_,_,_,oF A s 3 _,_,_,_,_,_,ZF A _ _ (a.le (ez A s 3 [40])),_,_,_,_,oF A _ 3 _,fi⟩
def nB(s:By):Int×Bool:=
 bif s==[65,76,76,79,87]then(7,true)else bif s==[76,79,71]then(6,true)else bif s==[75,73,76,76]then(2,true)else
 bif s==[75,73,76,76,95,80,82,79,67,69,83,83]then(1,true)else bif s==[84,82,65,80]then(3,true)else bif s==[69,82,82,78,79]then(4,true)else
 bif s==[84,82,65,67,69]then(5,true)else(0,false)
def afr(s:By):ak 322 [vS s] [] [vN (nB s).1,vB (nB s).2] []:=
 aeQ s (ae (fun h=>ai (by rw[nB,h];rfl) rfl) fun a=>ae (fun h=>ai (by rw[nB,a,h];rfl) rfl) fun b=>ae (fun h=>ai (by rw[nB,a,b,h];rfl) rfl) fun c=>
  ae (fun h=>ai (by rw[nB,a,b,c,h];rfl) rfl) fun d=>ae (fun h=>ai (by rw[nB,a,b,c,d,h];rfl) rfl) fun e=>ae (fun h=>ai (by rw[nB,a,b,c,d,e,h];rfl) rfl) fun f=>
  ae (fun h=>ai (by rw[nB,a,b,c,d,e,f,h];rfl) rfl) fun h=>ai (by rw[nB,a,b,c,d,e,f,h];rfl) rfl)
def jD(s:Ps):Int×Bool:=match gk s with
 |none=>(0,false)
 |some x=>bif x.kind !=1 then(0,false)else nB x.text
def QM(s:Ps){X Y:Prop}(d:gk s=none->X)(c:∀x,gk s=some x->(s.l.map Tok.row)[Int.toNat 0]?=some [N x.kind,S x.text,N x.file,C x.spot]->Y):
  ay (bif !kV s then true else(((s.l.map Tok.row).length:Int)==0)) X Y:=by
 cases hf:gk s with
 |some x=>
  obtain⟨b,t,a⟩:=h9 hf;refine aW ?_ (c x hf (by rw[a];rfl))
  rw[b,a];simp;omega
 |none=>
  refine bF ?_ (d hf);unfold gk at hf;cases hk:kV s
  .rfl
  .rw[hk]at hf
   cases hl:s.l with
   |nil=>simp
   |cons=>rw[hl]at hf;simp at hf
def afs(A:Pa)(s:Ps):ak 260 [.aA 0 0] [pb A s] [vN (jD s).1,vB (jD s).2] [pb A s]:=by
 apply aeL;exact⟨_,Ni A s,QM s (fun a=>ai (by simp only[jD,a]) rfl) fun x a b=>⟨_,_,_,_,by omega,b,ae (fun h=>ai (by simp only[jD,a,h,aj]) rfl) fun h=>⟨_,_,_,_,by omega,b,_,_,afr _,ai (by simp only[jD,a,h,af]) rfl⟩⟩⟩
def cV(A:Pa)(s:Ps):Act×Ps:=bif !(jD s).2 then(⟨0,0⟩,fV A s 3)else
 bif[3,4,5].any ((jD s).1 == ·)then(⟨(jD s).1,(uO A (S3 s)).1⟩,(uO A (S3 s)).2)else(⟨(jD s).1,0⟩,S3 s)
def te(A:Pa)(s:Ps):Le s (cV A s).2:=by
 unfold cV;cases(jD s).2
 .exact kF _ _ _
 .cases[3,4,5].any ((jD s).1 == ·)
  .exact r8 s
  .exact(r8 s).trans (GY A _)
def ZH(A:Pa)(s:Ps)(c:TK s.l):ak 191 [.aA 0 0] [pb A s] [Bc (cV A s).1] [pb A (cV A s).2]:=by
 apply aeD;refine⟨_,_,afs A s,ae (fun h=>⟨_,_,_,Bb A s,_,_,_,QL A s _ 3 _ _,ai (by rw[cV,h];rfl) (by rw[cV,h];rfl)⟩) fun h=>⟨pK ?_,_,Ze _ [3,4,5] (by decide),?_⟩⟩
 .have b:(jD s).2=true:=by simpa using h
  unfold jD at b;cases hf:gk s with
  |none=>rw[hf]at b;simp at b
  |some x=>exact⟨x,(h9 hf).2⟩
 .rw[kH]
  exact ae (fun a=>⟨_,_,_,_,_,afq A (S3 s) (c.le (r8 s)),ai (by rw[cV,h,a];rfl) (by rw[cV,h,a];rfl)⟩) fun a=>ai (by rw[cV,h,a];rfl) (by rw[cV,h,a];rfl)
def zk(A:Pa):List By->Ps->By×Ps
 |[],s=>([],fV A s 3)
 |t::a,s=>bif iD s 3 t then(t,aH s 3 t)else zk A a (aH s 3 t)
def ops:List By:=[[61,61],[33,61],[60],[60,61],[62],[62,61]]
def TR(A:Pa)(s:Ps):By×Ps:=zk A ops s
def Lm(A:Pa):∀a s,Le s (zk A a s).2
 |[],s=>kF _ _ _
 |t::a,s=>by
  unfold zk;cases iD s 3 t
  .exact(aZ _ _ _).trans (Lm A a _)
  .exact aZ _ _ _
def Ew(A:Pa)(s:Ps):Le s (TR A s).2:=Lm A _ s
def ZI(A:Pa)(s:Ps):ak 361 [.aA 0 0] [pb A s] [vS (TR A s).1] [pb A (TR A s).2]:=by
 have key:∀(a:List By)(i:Nat)(s:Ps),ops.drop i=a->Lp f361 0 (Es (aR ops) 6 i (s.l.map Tok.row) A.en A.fi A.sp (A.ds.map dT.row) (A.ps.map dP.row) (aR A.mn) A.dk A.dd s.e s.f s.c) 1 [vS (zk A a s).1] [pb A (zk A a s).2]:=by
  intro a;induction a with
  |nil=>
   intro i s b;apply Qj;exact aT (l:=ops) rfl b ⟨_,_,_,Bb A s,_,_,_,QL A s _ 3 _ _,fi⟩
  |cons t a e=>
   intro i s b;obtain⟨c,d,f⟩:=drop_cons b;have g:ops.length=6:=rfl;apply Qj;exact aO (l:=ops) rfl b ⟨t,by omega,aY c,_,_,nj A s 3 t,ae (fun h=>ai (by rw[zk,h];rfl) (by rw[zk,h];rfl)) fun h=>⟨aB,by rw[zk,h];exact e (i+1) _ d⟩⟩
 apply aeU;exact key ops 0 s rfl
def zl(A:Pa)(left:Ex)(s:Ps):Ex×Ps:=(.mk 4 (TR A s).1 [] 0 [left,(jg A (TR A s).2).1],(jg A (TR A s).2).2)
def nC(A:Pa)(s:Ps):Ex×Ps:=bif iD (bt A s).2 3 [38]then zl A (.mk 6 [] (bt A s).1 0 [(gE A (aH (bt A s).2 3 [38])).1]) (gE A (aH (bt A s).2 3 [38])).2 else
 zl A (.mk 5 [] (bt A s).1 0 []) (aH (bt A s).2 3 [38])
def iJ(A:Pa)(pl a:Ps->Ex×Ps)(s:Ps):Ex×Ps:=
 bif iD s 3 [33]then(.mk 3 [] [] 0 [(pl (aH s 3 [33])).1],(pl (aH s 3 [33])).2)else
 bif iD (aH s 3 [33]) 3 [40]then((a (aH (aH s 3 [33]) 3 [40])).1,ef A (a (aH (aH s 3 [33]) 3 [40])).2 3 [41])else
 nC A (aH (aH s 3 [33]) 3 [40])
def nD(pl:Ps->Ex×Ps)(s:Ps):Ex×Ps:=ey [38,38] 2 pl (s.l.length+1) (pl s).1 (pl s).2
def qW(pl:Ps->Ex×Ps)(s:Ps):Ex×Ps:=ey [124,124] 1 (nD pl) (s.l.length+1) (nD pl s).1 (nD pl s).2
def eC(A:Pa):Nat->Ps->Ex×Ps
 |0,s=>(.mk 0 [] [] 0 [],s)
 |n+1,s=>iJ A (eC A n) (qW (eC A n)) s
def dW(A:Pa)(s:Ps):Ex×Ps:=qW (eC A (s.l.length+1)) s
def Ln(A:Pa)(e:Ex)(s:Ps):Le s (zl A e s).2:=(Ew A s).trans (pJ A _)
def QN(A:Pa)(s:Ps):Le s (nC A s).2:=by
 unfold nC;cases iD (bt A s).2 3 [38]
 .exact((dm A s).trans (aZ _ _ _)).trans (Ln A _ _)
 .exact(((dm A s).trans (aZ _ _ _)).trans (fN A _)).trans (Ln A _ _)
def Nj{A:Pa}{pl a:Ps->Ex×Ps}(c:∀s,Le s (pl s).2)(b:∀s,Le s (a s).2)(s:Ps):Le s (iJ A pl a s).2:=by
 unfold iJ;cases iD s 3 [33]
 .cases iD (aH s 3 [33]) 3 [40]
  .exact((aZ _ _ _).trans (aZ _ _ _)).trans (QN A _)
  .exact(((aZ _ _ _).trans (aZ _ _ _)).trans (b _)).trans (ez A _ _ _)
 .exact(aZ _ _ _).trans (c _)
def mL{pl:Ps->Ex×Ps}(a:∀s,Le s (pl s).2)(s:Ps):Le s (nD pl s).2:=(a s).trans (uN a _ _ _)
def GZ{pl:Ps->Ex×Ps}(a:∀s,Le s (pl s).2)(s:Ps):Le s (qW pl s).2:=(mL a s).trans (uN (mL a) _ _ _)
def kI(A:Pa):∀n s,Le s (eC A n s).2
 |0,s=>.refl s
 |n+1,s=>Nj (kI A n) (GZ (kI A n)) s
def JS(A:Pa)(s:Ps):Le s (dW A s).2:=GZ (kI A _) s
def Ey{fn:Func}{c:List Item}{base:Nat}{Hd:Ps->Ex->St}{t:By}{k:Int}{a:Ps->Ex×Ps}{A:Pa}{m:Nat}(b:∀s,Le s (a s).2)
  (step:∀(s:Ps)(e:Ex)(r:List AV)(h:List Bx),TK s.l->s.l.length<m->(iD s 3 t=true->ma fn c (Hd (a (aH s 3 t)).2 (.mk k [] [] 0 [e,(a (aH s 3 t)).1])) base r h)->(iD s 3 t=false->Fi r h [oE e] [pb A (aH s 3 t)])->ma fn c (Hd s e) base r h):
  ∀(n:Nat)(e:Ex)(s:Ps),TK s.l->s.l.length<n->s.l.length<m->ma fn c (Hd s e) base [oE (ey t k a n e s).1] [pb A (ey t k a n e s).2]
 |0,_,_,_,h,_=>absurd h (by omega)
 |n+1,e,s,d,i,f=>by
  refine step s e _ _ d f (fun h=>?_) fun h=>ai (by rw[ey,h];rfl) (by rw[ey,h];rfl)
  have g:=iy h;have j:=(b (aH s 3 t)).len;rw[ey,h];exact Ey b step n _ _ (d.le ((aZ _ _ _).trans (b _))) (by omega) (by omega)
def ZJ{A:Pa}{pl:Ps->Ex×Ps}{m:Nat}(b:∀s,Le s (pl s).2)(d:∀s,TK s.l->s.l.length<m->ak 353 [.aA 0 0] [pb A s] [oE (pl s).1] [pb A (pl s).2])(s:Ps)(a:TK s.l)(c:s.l.length<m):
  ak 323 [.aA 0 0] [pb A s] [oE (nD pl s).1] [pb A (nD pl s).2]:=by
 apply aeR;refine⟨_,_,_,_,_,_,_,_,_,d s a c,?_⟩;have:=(b s).len;refine Ey (Hd:=fun s e=>Er (s.l.map Tok.row) A.en A.fi A.sp (A.ds.map dT.row) (A.ps.map dP.row) (aR A.mn) A.dk A.dd s.e s.f s.c 0 [] [] 0 [] e.kind e.op e.name e.num (bw e.kids)) (m:=m) b (fun s e r h a c f g=>?_) _ _ _ (a.le (b s)) (by omega) (by omega)
 apply Xv;refine⟨_,_,nj A s 3 _,ae (fun h=>⟨_,_,_,_,_,_,_,_,_,d _ (a.le (aZ _ _ _)) ?_,?_⟩) g⟩
 .have:=iy h;omega
 .have:=f h
  simp only[Ex.kids,bw,Ex.cD]at this;exact this
def Vk{A:Pa}{pl:Ps->Ex×Ps}{m:Nat}(a:∀s,Le s (pl s).2)(d:∀s,TK s.l->s.l.length<m->ak 353 [.aA 0 0] [pb A s] [oE (pl s).1] [pb A (pl s).2])(s:Ps)(b:TK s.l)(c:s.l.length<m):
  ak 262 [.aA 0 0] [pb A s] [oE (qW pl s).1] [pb A (qW pl s).2]:=by
 apply aeO;refine⟨_,_,_,_,_,_,_,_,_,ZJ a d s b c,?_⟩;have:=(mL a s).len;refine Ey (Hd:=fun s e=>Ep (s.l.map Tok.row) A.en A.fi A.sp (A.ds.map dT.row) (A.ps.map dP.row) (aR A.mn) A.dk A.dd s.e s.f s.c 0 [] [] 0 [] e.kind e.op e.name e.num (bw e.kids)) (m:=m) (mL a) (fun s e r h b c f g=>?_) _ _ _ (b.le (mL a s)) (by omega) (by omega)
 apply Xu;refine⟨_,_,nj A s 3 _,ae (fun h=>⟨_,_,_,_,_,_,_,_,_,ZJ a d _ (b.le (aZ _ _ _)) ?_,?_⟩) g⟩
 .have:=iy h;omega
 .have:=f h
  simp only[Ex.kids,bw,Ex.cD]at this;exact this
def XA(A:Pa):∀(n:Nat)(s:Ps),TK s.l->s.l.length<n->ak 353 [.aA 0 0] [pb A s] [oE (eC A n s).1] [pb A (eC A n s).2]
 |0,_,_,h=>absurd h (by omega)
 |n+1,s,e,j=>by
  have c:=aZ s 3 [33];have f:=aZ (aH s 3 [33]) 3 [40];have g:=dm A (aH (aH s 3 [33]) 3 [40]);have i:=aZ (bt A (aH (aH s 3 [33]) 3 [40])).2 3 [38];have t2:=e.le (c.trans f);have d:=t2.le (g.trans i);apply aeT;refine⟨_,_,nj A s 3 _,ae (fun h=>⟨_,_,_,_,_,_,_,_,_,XA A n _ (e.le c) (by have:=iy h;omega),ai ?_ ?_⟩) fun h=>⟨_,_,nj A _ 3 _,ae (fun a=>⟨_,_,_,_,_,_,_,_,_,Vk (kI A n) (XA A n) _ t2 ?_,_,_,_,_,oF A _ 3 _,ai ?_ ?_⟩) fun a=>
   ⟨_,_,_,_,_,GX A _ t2,_,_,nj A _ 3 _,ae (fun b=>⟨_,_,_,_,_,_,_,_,_,Xy A _ d,_,_,_,_,_,ZI A _,_,_,_,_,_,_,_,_,_,Xz A _ ((d.le (fN A _)).le (Ew A _)),ai ?_ ?_⟩) fun b=>⟨_,_,_,_,_,ZI A _,_,_,_,_,_,_,_,_,_,Xz A _ (d.le (Ew A _)),ai ?_ ?_⟩⟩⟩⟩
  .rw[eC,iJ,h];simp only[aj,oE,Ex.kids,bw,Ex.cD];rfl
  .rw[eC,iJ,h];rfl
  .have:=iy a;have:=c.len;omega
  .rw[eC,iJ,h,a];rfl
  .rw[eC,iJ,h,a];rfl
  .rw[eC,iJ,h,a,nC];simp only[aj,af,b,zl,oE,Ex.kids,bw,Ex.cD];rfl
  .rw[eC,iJ,h,a,nC];simp only[aj,af,b,zl]
  .rw[eC,iJ,h,a,nC];simp only[aj,af,b,zl,oE,Ex.kids,bw,Ex.cD];rfl
  .rw[eC,iJ,h,a,nC];simp only[aj,af,b,zl]
def XB(A:Pa)(s:Ps)(a:TK s.l):ak 262 [.aA 0 0] [pb A s] [oE (dW A s).1] [pb A (dW A s).2]:=
 Vk (kI A _) (XA A _) s a (Nat.lt_succ_self _)
def TS(A:Pa)(s:Ps):ak 97 [.aA 0 0] [AW A s] [vB (kV s)] [AW A s]:=by apply aee;exact fi
def Vl(A:Pa)(s:Ps):ak 100 [.aA 0 0] [AW A s] [.agg [N 0,N (jY A s).1,C (jY A s).2]] [AW A s]:=by
 apply Zi;obtain⟨l,e,f,c⟩:=s;cases l with
 |nil=>exact bF rfl fi
 |cons x l=>exact aW (by simp;omega) ⟨x.kind,x.text,x.file,x.spot,by omega,rfl,x.kind,x.text,x.file,x.spot,by omega,rfl,fi⟩
def ZK(A:Pa)(s:Ps)(f0 e f:Int)(c:Cx):ak 99 [.aA 0 0,.agg [N f0,N f,C c],vN e] [AW A s] [] [AW A (pI s e f c)]:=by
 apply aeg;exact⟨_,TS A s,ae (fun h=>ai rfl (by simp only[pI,h,aj])) fun h=>ai rfl (by simp only[pI,h,af])⟩
def ZL(A:Pa)(s:Ps)(k:Int)(t:By):ak 187 [.aA 0 0,vN k,vS t] [AW A s] [vB (iD s k t)] [AW A s]:=by
 apply Zq;exact⟨_,TS A s,kG s (fun x a b _=>⟨_,_,_,_,by omega,b,ae (fun h=>⟨_,_,_,_,by omega,b,ai (by simp only[iD,a,h,aj]) rfl⟩) fun h=>ai (by simp only[iD,a,h,af]) rfl⟩) fun a=>ai (by simp only[iD,a]) rfl⟩
def ZM(A:Pa)(s:Ps)(k:Int)(t:By):ak 133 [.aA 0 0,vN k,vS t] [AW A s] [vB (iD s k t)] [AW A (aH s k t)]:=by
 apply Zk;exact⟨_,ZL A s k t,ae (fun h=>⟨pK (JR h).2,ai rfl (by rw[kH];simp only[aH,h,aj])⟩) fun h=>ai rfl (by simp only[aH,h,af])⟩
def Vm(A:Pa)(s:Ps)(d:TK s.l):ak 188 [.aA 0 0] [AW A s] [vB (fA s)] [AW A s]:=by
 apply Zs;exact⟨_,TS A s,kG s (fun x a b c=>⟨_,_,_,_,by omega,b,ae (fun h=>⟨_,_,_,_,by omega,b,_,zg _ (d.text x c),ai (by simp only[fA,a,h,aj]) rfl⟩) fun h=>ai (by simp only[fA,a,h,af]) rfl⟩) fun a=>ai (by simp only[fA,a]) rfl⟩
def ZN(A:Pa)(s:Ps)(c:TK s.l):ak 134 [.aA 0 0] [AW A s] [vS (bt A s).1] [AW A (bt A s).2]:=by
 apply Zm;refine⟨_,Vm A s c,ae (fun h=>⟨_,_,_,Vl A s,_,_,_,ZK A s _ 3 _ _,ai (by rw[bt,h];rfl) (by rw[bt,h];rfl)⟩) fun h=>?_⟩
 have b:fA s=true:=by simpa using h
 obtain⟨-,x,l,a⟩:=zi b;exact⟨x.kind,x.text,x.file,x.spot,by omega,by rw[a];rfl,pK ⟨x,l,a⟩,ai (by rw[bt,h,a];rfl) (by rw[kH,bt,h];rfl)⟩
def ZO(A:Pa)(s:Ps)(c:Int)(f:TK s.l):ak 259 [.aA 0 0,vU c] [AW A s] [vU (fB A s c).1] [AW A (fB A s c).2]:=by
 have key:∀(r:Int×Ps),r=(0,fV A s 3)->Rp f259 6 (uM (s.l.map Tok.row) A.en A.fi A.sp (A.ds.map dT.row) (A.ps.map dP.row) (aR A.mn) A.dk A.dd s.e s.f s.c) 1 [vU r.1] [AW A r.2]:=by
  rintro _ rfl;apply TQ;exact⟨_,_,_,Vl A s,_,_,_,ZK A s _ 3 _ _,fi⟩
 apply Zx;refine⟨_,TS A s,kG s (fun x a d e=>⟨_,_,_,_,by omega,d,ae (fun h=>⟨_,_,_,_,by omega,d,_,_,Xp _ (f.text x e),ae (fun b=>⟨pK ⟨x,(h9 a).2⟩,ai ?_ ?_⟩) fun b=>key _ ?_⟩) fun h=>key _ ?_⟩) fun a=>key _ ?_⟩
 .simp only[fB,a,h,b,aj]
 .rw[kH];simp only[fB,a,h,b,aj]
 .simp only[fB,a,h,b,aj,af]
 .simp only[fB,a,h,af]
 .simp only[fB,a]
def Vn(A:Pa)(s:Ps)(a:TK s.l):ak 189 [.aA 0 0] [AW A s] [oE (gE A s).1] [AW A (gE A s).2]:=by
 apply Zu;exact⟨_,Vm A s a,ae (fun h=>⟨_,_,_,_,_,ZN A s a,ai (by rw[gE,h];rfl) (by rw[gE,h];rfl)⟩) fun h=>⟨_,_,_,_,_,ZO A s _ a,ai (by rw[gE,h];rfl) (by rw[gE,h];rfl)⟩⟩
def ZP(A:Pa)(s:Ps)(a:TK s.l):ak 135 [.aA 0 0] [AW A s] [oE (jg A s).1] [AW A (jg A s).2]:=by
 have key:∀(n:Nat)(e:Ex)(s:Ps),TK s.l->s.l.length<n->Lp f135 0 (xV (s.l.map Tok.row) A.en A.fi A.sp (A.ds.map dT.row) (A.ps.map dP.row) (aR A.mn) A.dk A.dd s.e s.f s.c 0 [] [] 0 [] e.kind e.op e.name e.num (bw e.kids)) 1 [oE (ey [124] 8 (gE A) n e s).1] [AW A (ey [124] 8 (gE A) n e s).2]:=by
  intro n;induction n with
  |zero=>intro e s _ h;omega
  |succ n b=>
   intro e s a d;apply TP;refine⟨_,_,ZM A s 3 _,ae (fun h=>⟨_,_,_,_,_,_,_,_,_,Vn A _ (a.le (aZ _ _ _)),?_⟩) fun h=>ai (by rw[ey,h];rfl) (by rw[ey,h];rfl)⟩
   have c:=iy h;have f:=(fN A (aH s 3 [124])).len;have:=b (.mk 8 [] [] 0 [e,(gE A (aH s 3 [124])).1]) (gE A (aH s 3 [124])).2 (a.le ((aZ _ _ _).trans (fN A _))) (by omega)
   rw[ey,h];simp only[Ex.kids,bw,Ex.cD]at this;exact this
 apply Zo;exact⟨_,_,_,_,_,_,_,_,_,Vn A s a,key _ _ _ (a.le (fN A s)) (by have:=(fN A s).len;omega)⟩
mutual
def bJ:Ex->Nat|.mk _ _ _ _ l=>cp l+1
def cp:List Ex->Nat|[]=>0|e::l=>max (bJ e) (cp l)
end
mutual
def lN:Ex->Prop|.mk _ _ _ _ l=>l.length<=2^40/\mM l
def mM:List Ex->Prop|[]=>True|e::l=>lN e/\mM l
end
def cW(e:Ex):bJ e=cp e.kids+1:=by cases e;rfl
def zm(e:Ex):lN e<->e.kids.length<=2^40/\mM e.kids:=by cases e;exact Iff.rfl
def sa:∀{l:List Ex},mM l->∀x∈l,lN x
 |[],_,_,h=>by simp at h
 |e::l,a,x,h=>by
  rcases aU.1 h with rfl|h
  .exact a.1
  .exact sa a.2 x h
def ep:∀{l:List Ex},∀x∈l,bJ x<=cp l
 |[],_,h=>by simp at h
 |e::l,x,h=>by
  rcases aU.1 h with rfl|h
  .exact Nat.le_max_left _ _
  .exact dF (ep x h) (Nat.le_max_right _ _)
def QO:∀(d:Nat)(e:Ex),bJ e<=d->d<=2^41->lN e->ak 263 [oE e] [] [vN (bJ e)] []
 |0,e,h,_,_=>by rw[cW]at h;omega
 |d+1,e,h,s,m=>by
  rw[cW]at h;obtain⟨u,p⟩:=(zm e).1 m;have key:∀(t:List Ex)(i:Nat)(n:Nat),e.kids.drop i=t->max n (cp t)<=2^41->Lp f263 0 (Ev (n:Int) (e.kids.map Ex.row) e.kids.length i) 0 [vN ((max n (cp t)+1:Nat):Int)] []:=by
   intro t;induction t with
   |nil=>
    intro i n a b;exact QE _ _ _ _ (aT (l:=e.kids) rfl a ⟨aB (by omega) (by simp[cp]at b;omega),ai (by simp[cp]) rfl⟩)
   |cons x t o=>
    intro i n a b;obtain⟨f,k,q⟩:=drop_cons a;have g:=aK f;have v:=ep x g;refine QE _ _ _ _ (aO (l:=e.kids) rfl a ⟨x.kind,x.op,x.name,x.num,bw x.kids,by omega,(aY f).trans (by rw[Ex.cD]),_,QO d x (by omega) (by omega) (sa p x g),aB,?_⟩)
    have j:(if(bJ x:Int)>(n:Int)then(bJ x:Int)else(n:Int))=((max n (bJ x):Nat):Int):=by split<;>omega
    have c:max n (cp (x::t))=max (max n (bJ x)) (cp t):=by simp only[cp];omega
    rw[j,c];rw[c]at b;exact o (i+1) _ k b
  have:=key e.kids 0 0 rfl (by omega)
  rw[show max 0 (cp e.kids)+1=bJ e by rw[cW];omega]at this
  refine afh _ _ _ _ _ ?_;rw[db,ao];exact this
structure PE (s:Ps) (k:Nat) (p:Ex×Ps):Prop where
 wide:lN p.1
 dep:bJ p.1+p.2.l.length<=s.l.length+k
def Ez(A:Pa)(s:Ps):PE s 1 (gE A s):=by
 have:=(fN A s).len;unfold gE at this⊢;cases hn:fA s<;>rw[hn]at this
 .exact⟨by simp[lN,mM],by simp only[af,bJ,cp]at this⊢; omega⟩
 .exact⟨by simp[lN,mM],by simp only[aj,bJ,cp]at this⊢; omega⟩
def uP{t:By}{j:Int}{b:Ps->Ex×Ps}{k:Nat}{a:Ps}(d:∀s,Le s (b s).2)(f:∀s,PE s k (b s)):∀n e s,PE a k (e,s)->s.l.length<=a.l.length->PE a k (ey t j b n e s)
 |0,e,s,h,_=>h
 |n+1,e,s,h,o=>by
  unfold ey;cases hi:iD s 3 t
  .have:=(aZ s 3 t).len
   have:=h.dep;exact⟨h.wide,by simp only[af]at this⊢; omega⟩
  .have l:=iy hi
   have c:=f (aH s 3 t);have m:=(d (aH s 3 t)).len;have g:=h.dep;have i:=c.dep;refine uP d f n _ _ ⟨?_,?_⟩ (by omega)
   .simp only[lN,mM]
    exact⟨by simp,h.wide,c.wide,trivial⟩
   .simp only[bJ,cp]at g i⊢
    omega
def JT(A:Pa)(s:Ps):PE s 1 (jg A s):=uP (fN A) (Ez A) _ _ _ (Ez A s) (fN A s).len
def Lo(A:Pa)(e:Ex)(s b:Ps)(c:lN e)(i:bJ e<=2)(j:s.l.length<=b.l.length):PE b 3 (zl A e s):=by
 have a:=JT A (TR A s).2;have d:=(Ew A s).len;have f:=(pJ A (TR A s).2).len;have g:=a.dep;unfold zl;refine⟨?_,?_⟩
 .simp only[lN,mM]
  exact⟨by simp,c,a.wide,trivial⟩
 .simp only[bJ,cp]
  omega
def QP(A:Pa)(s a:Ps)(f:s.l.length<=a.l.length):PE a 3 (nC A s):=by
 have c:=(dm A s).len;have d:=(aZ (bt A s).2 3 [38]).len;have e:=(fN A (aH (bt A s).2 3 [38])).len;have b:=Ez A (aH (bt A s).2 3 [38]);unfold nC;cases iD (bt A s).2 3 [38]
 .exact Lo A _ _ _ (by simp[lN,mM]) (by simp[bJ,cp]) (by omega)
 .refine Lo A _ _ _ ?_ ?_ (by omega)
  .simp only[lN,mM]
   exact⟨by simp,b.wide,trivial⟩
  .have:bJ (gE A (aH (bt A s).2 3 [38])).1<=1:=by
    unfold gE;cases fA (aH (bt A s).2 3 [38])<;>simp[bJ,cp]
   simp only[bJ,cp];omega
def G1{pl:Ps->Ex×Ps}(a:∀s,Le s (pl s).2)(b:∀s,PE s 3 (pl s))(s:Ps):PE s 3 (nD pl s):=uP a b _ _ _ (b s) (a s).len
def G3{pl:Ps->Ex×Ps}(a:∀s,Le s (pl s).2)(b:∀s,PE s 3 (pl s))(s:Ps):PE s 3 (qW pl s):=uP (mL a) (G1 a b) _ _ _ (G1 a b s) (mL a s).len
def vT(A:Pa):∀n s,PE s 3 (eC A n s)
 |0,s=>⟨by simp[eC,lN,mM],by simp only[eC,bJ,cp];omega⟩
 |n+1,s=>by
  have b:=aZ s 3 [33];have c:=aZ (aH s 3 [33]) 3 [40];unfold eC iJ;cases h:iD s 3 [33]
  .cases h2:iD (aH s 3 [33]) 3 [40]
   .exact QP A _ _ (b.trans c).len
   .have a:=G3 (kI A n) (vT A n) (aH (aH s 3 [33]) 3 [40])
    have d:=a.dep;have e:=(ez A (qW (eC A n) (aH (aH s 3 [33]) 3 [40])).2 3 [41]).len;have:=(b.trans c).len;exact⟨a.wide,by simp only[aj,af];omega⟩
  .have a:=vT A n (aH s 3 [33])
   have d:=a.dep;have:=iy h;refine⟨?_,?_⟩
   .simp only[aj,lN,mM]
    exact⟨by simp,a.wide,trivial⟩
   .simp only[aj,bJ,cp]
    omega
def kJ(A:Pa)(s:Ps):PE s 3 (dW A s):=G3 (kI A _) (vT A _) s
abbrev qX(r:gC):AV:=.agg [S r.call,L 1 (aR r.params),L 5 (r.cond.map Ex.row)]
def nE(A:Pa)(s:Ps)(p:Ex×Ps):Ps:=bif kV p.2 then(bif decide ((bJ p.1:Int)>30)then pI p.2 6 (jY A s).1 (jY A s).2 else p.2)else p.2
def ec(A:Pa)(name:By)(params:List By)(s:Ps):gC×Ps:=
 bif !iD s 3 [123]then(⟨name,params,[]⟩,aH s 3 [123])else
 (⟨name,params,[(dW A (aH s 3 [123])).1]⟩,ef A (nE A s (dW A (aH s 3 [123]))) 3 [125])
def iV(A:Pa)(s:Ps):gC×Ps:=
 bif iD (bt A s).2 3 [40]then
  bif !iD (aH (bt A s).2 3 [40]) 3 [41]then ec A (bt A s).1 (eB A (aH (aH (bt A s).2 3 [40]) 3 [41])).1 (ef A (eB A (aH (aH (bt A s).2 3 [40]) 3 [41])).2 3 [41])
  else ec A (bt A s).1 [] (aH (aH (bt A s).2 3 [40]) 3 [41])
 else ec A (bt A s).1 [] (aH (bt A s).2 3 [40])
def QQ(A:Pa)(s:Ps)(p:Ex×Ps):Le p.2 (nE A s p):=by
 unfold nE;cases kV p.2
 .exact .refl _
 .cases decide ((bJ p.1:Int)>30)
  .exact .refl _
  .exact xW _ _ _ _
def zn(A:Pa)(name:By)(params:List By)(s:Ps):Le s (ec A name params s).2:=by
 unfold ec;cases iD s 3 [123]
 .exact aZ _ _ _
 .exact(((aZ _ _ _).trans (JS A _)).trans (QQ A _ _)).trans (ez A _ _ _)
def vV(A:Pa)(s:Ps):Le (bt A s).2 (iV A s).2:=by
 unfold iV;cases iD (bt A s).2 3 [40]
 .exact(aZ _ _ _).trans (zn A _ _ _)
 .cases iD (aH (bt A s).2 3 [40]) 3 [41]
  .exact((((aZ _ _ _).trans (aZ _ _ _)).trans (r9 A _)).trans (ez A _ _ _)).trans (zn A _ _ _)
  .exact((aZ _ _ _).trans (aZ _ _ _)).trans (zn A _ _ _)
def zo(A:Pa)(s:Ps):Le s (iV A s).2:=(dm A s).trans (vV A s)
def QR{A:Pa}{s:Ps}(h:kV (iV A s).2=true):(iV A s).2.l.length<s.l.length:=
 CZ (vV A s).len (Ll ((vV A s).ok h))
def aft(A:Pa)(s:Ps)(e:TK s.l):ak 193 [.aA 0 0] [pb A s] [qX (iV A s).1] [pb A (iV A s).2]:=by
 have d:=e.le (dm A s);apply aeH;refine⟨_,_,_,_,_,GX A s e,_,_,nj A _ 3 _,ae (fun c=>⟨_,_,nj A _ 3 _,ae (fun a=>?_) fun a=>?_⟩) fun c=>?_⟩
 .have t2:=(d.le (aZ (bt A s).2 3 [40])).le (aZ _ 3 [41])
  have f:=(t2.le (r9 A _)).le (ez A _ 3 [41]);refine⟨_,_,_,_,_,ZG A _ t2,_,_,_,_,oF A _ 3 _,?_⟩;rw[iV,c,a];simp only[aj];exact⟨_,_,_,Bb A (ef A (eB A (aH (aH (bt A s).2 3 [40]) 3 [41])).2 3 [41]),_,_,nj A (ef A (eB A (aH (aH (bt A s).2 3 [40]) 3 [41])).2 3 [41]) 3 _,ae (fun h=>ai (by rw[ec,h];rfl) (by rw[ec,h];rfl)) fun h=>
   ⟨_,_,_,_,_,_,_,_,_,XB A _ (TK.le f (aZ _ _ _)),_,Ni A _,ae
    (fun a=>⟨_,QO _ _ (ar _) (by have:=(kJ A (aH (ef A (eB A (aH (aH (bt A s).2 3 [40]) 3 [41])).2 3 [41]) 3 [123])).dep;have:=(TK.le f (aZ (ef A (eB A (aH (aH (bt A s).2 3 [40]) 3 [41])).2 3 [41]) 3 [123])).len;omega) (kJ A _).wide,ae
     (fun b=>⟨_,_,_,QL A (dW A (aH (ef A (eB A (aH (aH (bt A s).2 3 [40]) 3 [41])).2 3 [41]) 3 [123])).2 _ 6 _ _,_,_,_,_,oF A (pI (dW A (aH (ef A (eB A (aH (aH (bt A s).2 3 [40]) 3 [41])).2 3 [41]) 3 [123])).2 6 (jY A (ef A (eB A (aH (aH (bt A s).2 3 [40]) 3 [41])).2 3 [41])).1 (jY A (ef A (eB A (aH (aH (bt A s).2 3 [40]) 3 [41])).2 3 [41])).2) 3 _,ai (by rw[ec,h];(simp only[af,qX,List.map,Ex.cD])<;>rfl) (by rw[ec,h];simp only[af,nE,a,b,aj])⟩)
     fun b=>⟨_,_,_,_,oF A (dW A (aH (ef A (eB A (aH (aH (bt A s).2 3 [40]) 3 [41])).2 3 [41]) 3 [123])).2 3 _,ai (by rw[ec,h];(simp only[af,qX,List.map,Ex.cD])<;>rfl) (by rw[ec,h];simp only[af,nE,a,b,aj])⟩⟩)
    fun a=>⟨_,_,_,_,oF A (dW A (aH (ef A (eB A (aH (aH (bt A s).2 3 [40]) 3 [41])).2 3 [41]) 3 [123])).2 3 _,ai (by rw[ec,h];(simp only[af,qX,List.map,Ex.cD])<;>rfl) (by rw[ec,h];simp only[af,nE,a])⟩⟩⟩
 .have t2:=(d.le (aZ (bt A s).2 3 [40])).le (aZ _ 3 [41])
  rw[iV,c,a];simp only[aj,af];exact⟨_,_,_,Bb A (aH (aH (bt A s).2 3 [40]) 3 [41]),_,_,nj A (aH (aH (bt A s).2 3 [40]) 3 [41]) 3 _,ae (fun h=>ai (by rw[ec,h];rfl) (by rw[ec,h];rfl)) fun h=>
   ⟨_,_,_,_,_,_,_,_,_,XB A _ (TK.le t2 (aZ _ _ _)),_,Ni A _,ae
    (fun a=>⟨_,QO _ _ (ar _) (by have:=(kJ A (aH (aH (aH (bt A s).2 3 [40]) 3 [41]) 3 [123])).dep;have:=(TK.le t2 (aZ (aH (aH (bt A s).2 3 [40]) 3 [41]) 3 [123])).len;omega) (kJ A _).wide,ae
     (fun b=>⟨_,_,_,QL A (dW A (aH (aH (aH (bt A s).2 3 [40]) 3 [41]) 3 [123])).2 _ 6 _ _,_,_,_,_,oF A (pI (dW A (aH (aH (aH (bt A s).2 3 [40]) 3 [41]) 3 [123])).2 6 (jY A (aH (aH (bt A s).2 3 [40]) 3 [41])).1 (jY A (aH (aH (bt A s).2 3 [40]) 3 [41])).2) 3 _,ai (by rw[ec,h];(simp only[af,qX,List.map,Ex.cD])<;>rfl) (by rw[ec,h];simp only[af,nE,a,b,aj])⟩)
     fun b=>⟨_,_,_,_,oF A (dW A (aH (aH (aH (bt A s).2 3 [40]) 3 [41]) 3 [123])).2 3 _,ai (by rw[ec,h];(simp only[af,qX,List.map,Ex.cD])<;>rfl) (by rw[ec,h];simp only[af,nE,a,b,aj])⟩⟩)
    fun a=>⟨_,_,_,_,oF A (dW A (aH (aH (aH (bt A s).2 3 [40]) 3 [41]) 3 [123])).2 3 _,ai (by rw[ec,h];(simp only[af,qX,List.map,Ex.cD])<;>rfl) (by rw[ec,h];simp only[af,nE,a])⟩⟩⟩
 .have t2:=(d.le (aZ (bt A s).2 3 [40]))
  rw[iV,c];simp only[af];exact⟨_,_,_,Bb A (aH (bt A s).2 3 [40]),_,_,nj A (aH (bt A s).2 3 [40]) 3 _,ae (fun h=>ai (by rw[ec,h];rfl) (by rw[ec,h];rfl)) fun h=>
   ⟨_,_,_,_,_,_,_,_,_,XB A _ (TK.le t2 (aZ _ _ _)),_,Ni A _,ae
    (fun a=>⟨_,QO _ _ (ar _) (by have:=(kJ A (aH (aH (bt A s).2 3 [40]) 3 [123])).dep;have:=(TK.le t2 (aZ (aH (bt A s).2 3 [40]) 3 [123])).len;omega) (kJ A _).wide,ae
     (fun b=>⟨_,_,_,QL A (dW A (aH (aH (bt A s).2 3 [40]) 3 [123])).2 _ 6 _ _,_,_,_,_,oF A (pI (dW A (aH (aH (bt A s).2 3 [40]) 3 [123])).2 6 (jY A (aH (bt A s).2 3 [40])).1 (jY A (aH (bt A s).2 3 [40])).2) 3 _,ai (by rw[ec,h];(simp only[af,qX,List.map,Ex.cD])<;>rfl) (by rw[ec,h];simp only[af,nE,a,b,aj])⟩)
     fun b=>⟨_,_,_,_,oF A (dW A (aH (aH (bt A s).2 3 [40]) 3 [123])).2 3 _,ai (by rw[ec,h];(simp only[af,qX,List.map,Ex.cD])<;>rfl) (by rw[ec,h];simp only[af,nE,a,b,aj])⟩⟩)
    fun a=>⟨_,_,_,_,oF A (dW A (aH (aH (bt A s).2 3 [40]) 3 [123])).2 3 _,ai (by rw[ec,h];(simp only[af,qX,List.map,Ex.cD])<;>rfl) (by rw[ec,h];simp only[af,nE,a])⟩⟩⟩
def js{α:Type}(A:Pa)(f:Ps->α×Ps):Nat->Bool->List α->Ps->List α×Ps
 |0,_,a,s=>(a,s)
 |n+1,more,a,s=>bif(bif kV s then(bif more then true else !iD s 3 [125])else false)then
   js A f n (iD (f s).2 3 [44]) (a++[(f s).1]) (aH (f s).2 3 [44])else(a,ef A s 3 [125])
def qY{α:Type}(A:Pa)(f:Ps->α×Ps)(s:Ps):List α×Ps:=js A f ((ef A s 3 [123]).l.length+2) false [] (ef A s 3 [123])
def BV{α:Type}(A:Pa){f:Ps->α×Ps}(a:∀s,Le s (f s).2):∀n more b s,Le s (js A f n more b s).2
 |0,_,_,s=>.refl s
 |n+1,more,b,s=>by
  unfold js;cases(bif kV s then(bif more then true else !iD s 3 [125])else false)
  .exact ez _ _ _ _
  .exact((a s).trans (aZ _ _ _)).trans (BV A a n _ _ _)
def uQ{α:Type}(A:Pa){f:Ps->α×Ps}(a:∀s,Le s (f s).2)(s:Ps):Le s (qY A f s).2:=(ez A s 3 [123]).trans (BV A a _ _ _ _)
def nF(s:Ps):Nat:=bif kV s then s.l.length+1 else 0
def Nk{s a:Ps}(b:kV s=true)(h:kV a=true->a.l.length<s.l.length):nF (aH a 3 [44])<nF s:=by
 have c:kV (aH a 3 [44])=kV a:=rfl;have d:=(aZ a 3 [44]).len;unfold nF;rw[c,b];cases hk:kV a with
 |false=>simp only[aj,af];omega
 |true=>have:=h hk;simp only[aj];omega
def vX{α:Type}{fn:Func}{b:List Item}{base:Nat}{Hd:Bool->List α->Ps->St}{A:Pa}{f:Ps->α×Ps}{fin:List α->Ps->List Bx}(c:∀s,Le s (f s).2)(e:∀s,kV (f s).2=true->(f s).2.l.length<s.l.length)
  (step:∀(more:Bool)(a:List α)(s:Ps)(r:List AV)(h:List Bx),TK s.l->a.length<=2^40+1 ->
   ((bif kV s then(bif more then true else !iD s 3 [125])else false)=true->ma fn b (Hd (iD (f s).2 3 [44]) (a++[(f s).1]) (aH (f s).2 3 [44])) base r h)->
   ((bif kV s then(bif more then true else !iD s 3 [125])else false)=false->Fi r h [] (fin a (ef A s 3 [125])))->ma fn b (Hd more a s) base r h):
  ∀(n:Nat)(more:Bool)(a:List α)(s:Ps),TK s.l->nF s<n->a.length+nF s<=2^40+1->ma fn b (Hd more a s) base [] (fin (js A f n more a s).1 (js A f n more a s).2)
 |0,_,_,_,_,h,_=>absurd h (iR _)
 |n+1,more,a,s,d,j,k=>by
  refine step more a s _ _ d (by omega) (fun h=>?_) fun h=>ai rfl (by rw[js,h];rfl)
  have g:kV s=true:=by cases hk:kV s<;>rw[hk]at h<;>simp at h⊢
  have i:=Nk g (e s);rw[js,h];exact vX c e step n _ _ _ (d.le ((c s).trans (aZ _ _ _))) (by omega) (by simp;omega)
def uR(s:Ps):nF s<=s.l.length+1:=by unfold nF;cases kV s<;>simp
def ZQ(A:Pa)(s:Ps)(u:By)(k d:Int)(a:List gC)(b:TK s.l)(c:a.length<=2^40+1):
  ak 192 [.aA 0 0,.aA 1 0] [.cells [vS u,vN k,vN d,O 3 (a.map gC.row)],.cells [.aA 2 0],pb A s] [] [.cells [vS u,vN k,vN d,O 3 ((a++[(iV A s).1]).map gC.row)],.cells [.aA 2 0],pb A (iV A s).2]:=by
 apply aeF;exact⟨_,_,_,_,_,_,_,aft A s b,by simp;omega,ai rfl (by rw[cg];rfl)⟩
def QS(A:Pa)(s:Ps)(u:By)(k d:Int)(b:TK s.l):
  ak 136 [.aA 0 0,.fn (.func 192) [] [.aA 1 0,.aA 2 0]] [pb A s,.cells [vS u,vN k,vN d,O 3 []],.cells [.aA 0 0]] [] [pb A (qY A (iV A) s).2,.cells [vS u,vN k,vN d,O 3 ((qY A (iV A) s).1.map gC.row)],.cells [.aA 0 0]]:=by
 apply Qi;have l:=(ez A s 3 [123]).len;have:=b.len;have:=uR (ef A s 3 [123]);refine⟨_,_,_,_,oF A s 3 _,vX (Hd:=fun more a s=>mK more (s.l.map Tok.row) A.en A.fi A.sp (A.ds.map dT.row) (A.ps.map dP.row) (aR A.mn) A.dk A.dd s.e s.f s.c u k d (a.map gC.row)) (A:=A) (f:=iV A) (fin:=fun a s=>[pb A s,.cells [vS u,vN k,vN d,O 3 (a.map gC.row)],.cells [.aA 0 0]]) (zo A) (fun s=>QR)
  (fun more a s r h b j g i=>?_) _ false [] _ (b.le (ez A s 3 [123])) (by omega) (by simp;omega)⟩
 apply JQ;refine⟨_,Ni A s,ae (fun h=>ae (fun c=>⟨_,_,_,_,_,ZQ A s u k d a b j,_,_,nj A (iV A s).2 3 _,g (by rw[h,c];rfl)⟩) fun c=>⟨_,Xx A s 3 _,ae (fun e=>⟨_,_,_,_,_,ZQ A s u k d a b j,_,_,nj A (iV A s).2 3 _,g (by rw[h,c];exact e)⟩) fun e=>⟨_,_,_,_,oF A s 3 _,i (by rw[h,c];exact e)⟩⟩) fun h=>⟨_,_,_,_,oF A s 3 _,i (by rw[h];rfl)⟩⟩
abbrev Nl(p:dr):AV:=.agg [S p.use,N p.act.kind,N p.act.data,L 3 (p.bj.map gC.row)]
def fL:By:=[85,83,69]
def cX:By:=[80,79,76,73,67,89]
def fr:By:=[68,69,70,65,85,76,84]
def gV(A:Pa)(s:Ps):dr×Ps:=
 bif iD s 1 fL then(⟨(bt A (aH s 1 fL)).1,⟨0,0⟩,[]⟩,(bt A (aH s 1 fL)).2)else
 (⟨[],(cV A (aH s 1 fL)).1,(qY A (iV A) (cV A (aH s 1 fL)).2).1⟩,(qY A (iV A) (cV A (aH s 1 fL)).2).2)
def Nn{A:Pa}{s:Ps}(h:kV (cV A s).2=true):(cV A s).2.l.length<s.l.length:=by
 unfold cV at h⊢;cases hn:(jD s).2<;>rw[hn]at h
 .rw[show kV (bif !false then((⟨0,0⟩:Act),fV A s 3)else
 bif[3,4,5].any ((jD s).1 == ·)then(⟨(jD s).1,(uO A (S3 s)).1⟩,(uO A (S3 s)).2)else(⟨(jD s).1,0⟩,S3 s)).2=kV (fV A s 3)from rfl,fV,zh _ _ _ _ rfl]at h
  simp at h
 .have c:s.l.tail.length<s.l.length:=by
   unfold jD at hn;cases hf:gk s with
   |none=>rw[hf]at hn;simp at hn
   |some x=>obtain⟨t,d⟩:=(h9 hf).2;rw[d];simp
  have b:=(GY A (S3 s)).len;have a:(S3 s).l.length<s.l.length:=c;cases[3,4,5].any ((jD s).1 == ·)
  .exact a
  .exact CZ b a
def zp(A:Pa)(s:Ps):Le s (gV A s).2:=by
 unfold gV;cases iD s 1 fL
 .exact((aZ _ _ _).trans (te A _)).trans (uQ A (zo A) _)
 .exact(aZ _ _ _).trans (dm A _)
def QT{A:Pa}{s:Ps}(h:kV (gV A s).2=true):(gV A s).2.l.length<s.l.length:=by
 have a:=(aZ s 1 fL).len;unfold gV at h⊢;cases hi:iD s 1 fL<;>rw[hi]at h
 .have b:=uQ A (zo A) (cV A (aH s 1 fL)).2
  have c:=b.len;have d:=Nn (b.ok h);exact CZ c (gg d a)
 .exact gg (Ll h) a
def afu(A:Pa)(s:Ps)(b:TK s.l):ak 138 [.aA 0 0] [pb A s] [Nl (gV A s).1] [pb A (gV A s).2]:=by
 have a:=b.le (aZ s 1 fL);apply aer;exact⟨_,_,nj A s 1 _,ae (fun h=>⟨_,_,_,_,_,GX A _ a,ai (by rw[gV,show iD s 1 fL=true from h];rfl) (by rw[gV,show iD s 1 fL=true from h];rfl)⟩) fun h=>⟨_,_,_,_,_,_,ZH A _ a,_,_,_,_,_,_,_,_,QS A _ [] _ _ (a.le (te A _)),ai (by rw[gV,show iD s 1 fL=false from h];rfl) (by rw[gV,show iD s 1 fL=false from h];rfl)⟩⟩
def ZR(A:Pa)(s:Ps)(u:By)(a:List dr)(b:TK s.l)(c:a.length<=2^40+1):
  ak 137 [.aA 0 0,.aA 1 0] [.cells [vS u,O 4 (a.map dr.row)],.cells [.aA 2 0],pb A s] [] [.cells [vS u,O 4 ((a++[(gV A s).1]).map dr.row)],.cells [.aA 2 0],pb A (gV A s).2]:=by
 apply aep;exact⟨_,_,_,_,_,_,_,_,afu A s b,by simp;omega,ai rfl (by rw[cg];rfl)⟩
def QU(A:Pa)(s:Ps)(u:By)(b:TK s.l):
  ak 136 [.aA 0 0,.fn (.func 137) [] [.aA 1 0,.aA 2 0]] [pb A s,.cells [vS u,O 4 []],.cells [.aA 0 0]] [] [pb A (qY A (gV A) s).2,.cells [vS u,O 4 ((qY A (gV A) s).1.map dr.row)],.cells [.aA 0 0]]:=by
 apply Qh;have j:=(ez A s 3 [123]).len;have:=b.len;have:=uR (ef A s 3 [123]);refine⟨_,_,_,_,oF A s 3 _,vX (Hd:=fun more a s=>mJ more (s.l.map Tok.row) A.en A.fi A.sp (A.ds.map dT.row) (A.ps.map dP.row) (aR A.mn) A.dk A.dd s.e s.f s.c u (a.map dr.row)) (A:=A) (f:=gV A) (fin:=fun a s=>[pb A s,.cells [vS u,O 4 (a.map dr.row)],.cells [.aA 0 0]]) (zp A) (fun s=>QT)
  (fun more a s r h b i e g=>?_) _ false [] _ (b.le (ez A s 3 [123])) (by omega) (by simp;omega)⟩
 apply JP;refine⟨_,Ni A s,ae (fun h=>ae (fun c=>⟨_,_,_,_,_,ZR A s u a b i,_,_,nj A (gV A s).2 3 _,e (by rw[h,c];rfl)⟩) fun c=>⟨_,Xx A s 3 _,ae (fun d=>⟨_,_,_,_,_,ZR A s u a b i,_,_,nj A (gV A s).2 3 _,e (by rw[h,c];exact d)⟩) fun d=>⟨_,_,_,_,oF A s 3 _,g (by rw[h,c];exact d)⟩⟩) fun h=>⟨_,_,_,_,oF A s 3 _,g (by rw[h];rfl)⟩⟩
def wR(A:Pa)(a:Int×Cx)(s:Ps):Pa×Ps:=
 ({A with mn:=(eB A s).1,dk:=(cV A (ef A (eB A s).2 1 fr)).1.kind,dd:=(cV A (ef A (eB A s).2 1 fr)).1.data},
  bif decide ((A.mn.length:Int)>0)then pI (cV A (ef A (eB A s).2 1 fr)).2 11 a.1 a.2 else(cV A (ef A (eB A s).2 1 fr)).2)
def G4(A:Pa)(a:Int×Cx)(s:Ps):Le s (wR A a s).2:=by
 have h:=((r9 A s).trans (ez A _ 1 fr)).trans (te A _);unfold wR;cases decide ((A.mn.length:Int)>0)
 .exact h
 .exact h.trans (xW _ _ _ _)
def afv(A:Pa)(a:Int×Cx)(s:Ps)(b:TK s.l):ak 139 [.aA 0 0,.agg [N 0,N a.1,C a.2]] [pb A s] [] [pb (wR A a s).1 (wR A a s).2]:=by
 have c:=(b.le (r9 A s)).le (ez A _ 1 fr);apply aet;refine⟨_,_,_,_,_,ZG A s b,_,_,_,_,oF A _ 1 _,_,_,_,_,_,_,ZH A _ c,?_⟩;rw[show(aR A.mn).length=A.mn.length by simp[aR]]
 exact ae (fun h=>⟨_,_,_,QL A (cV A (ef A (eB A s).2 1 fr)).2 _ 11 _ _,ai rfl (by simp only[wR,h,aj];rfl)⟩) fun h=>ai rfl (by simp only[wR,h,af];rfl)
def cR(A:Pa)(s:Ps):Pa×Ps:=
 bif iD s 5 bP then({A with ds:=A.ds++[⟨(bt A (aH s 5 bP)).1,(jg A (bt A (aH s 5 bP)).2).1⟩]},(jg A (bt A (aH s 5 bP)).2).2)else
 bif iD (aH s 5 bP) 1 cX then({A with ps:=A.ps++[⟨(bt A (aH (aH s 5 bP) 1 cX)).1,(qY A (gV A) (bt A (aH (aH s 5 bP) 1 cX)).2).1⟩]},(qY A (gV A) (bt A (aH (aH s 5 bP) 1 cX)).2).2)else
 bif iD (aH (aH s 5 bP) 1 cX) 1 fL then wR A (jY A s) (aH (aH (aH s 5 bP) 1 cX) 1 fL)else
 (A,pI (aH (aH (aH s 5 bP) 1 cX) 1 fL) 3 (jY A s).1 (jY A s).2)
def QV(A:Pa)(s:Ps):Le s (cR A s).2:=by
 unfold cR;cases iD s 5 bP
 .cases iD (aH s 5 bP) 1 cX
  .cases iD (aH (aH s 5 bP) 1 cX) 1 fL
   .exact(((aZ _ _ _).trans (aZ _ _ _)).trans (aZ _ _ _)).trans (xW _ _ _ _)
   .exact(((aZ _ _ _).trans (aZ _ _ _)).trans (aZ _ _ _)).trans (G4 A _ _)
  .exact(((aZ _ _ _).trans (aZ _ _ _)).trans (dm A _)).trans (uQ A (zp A) _)
 .exact((aZ _ _ _).trans (dm A _)).trans (pJ A _)
def QW{A:Pa}{s:Ps}(h:kV (cR A s).2=true):(cR A s).2.l.length<s.l.length:=by
 unfold cR at h⊢;cases h1:iD s 5 bP<;>rw[h1]at h
 .cases h2:iD (aH s 5 bP) 1 cX<;>rw[h2]at h
  .cases h3:iD (aH (aH s 5 bP) 1 cX) 1 fL<;>rw[h3]at h
   .simp only[af]at h
    rw[zh _ _ _ _ rfl]at h;simp at h
   .have:=iy h3
    have:=((aZ s 5 bP).trans (aZ _ 1 cX)).len;have:=(G4 A (jY A s) (aH (aH (aH s 5 bP) 1 cX) 1 fL)).len;simp only[aj,af];omega
  .have:=iy h2
   have:=(aZ s 5 bP).len;have:=((dm A (aH (aH s 5 bP) 1 cX)).trans (uQ A (zp A) _)).len;simp only[aj,af];omega
 .have:=iy h1
  have:=((dm A (aH s 5 bP)).trans (pJ A _)).len;simp only[aj];omega
def C98(A:Pa)(s:Ps)(d:TK s.l)(f:A.ds.length<=2^40)(g:A.ps.length<=2^40):ak 98 [.aA 0 0] [pb A s] [] [pb (cR A s).1 (cR A s).2]:=by
 have b:=d.le (aZ s 5 bP);have t2:=b.le (aZ _ 1 cX);have e:=t2.le (aZ _ 1 fL);apply W98;refine⟨_,_,_,Bb A s,_,_,nj A s 5 bP,ae (fun h=>⟨_,_,_,_,_,GX A _ b,⟨_,_,_,_,_,_,_,_,_,ZP A _ (b.le (dm A _)),by simp;omega,ai rfl ?_⟩,⟨_,_,_,_,_,_,_,_,_,Xz A _ (b.le (dm A _)),by simp;omega,ai rfl ?_⟩⟩) fun h=>⟨_,_,nj A _ 1 cX,ae (fun a=>⟨_,_,_,_,_,GX A _ t2,_,_,_,_,_,_,QU A _ _ (t2.le (dm A _)),by simp;omega,ai rfl ?_⟩) fun a=>
  ⟨_,_,nj A _ 1 fL,ae (fun c=>⟨_,_,_,_,_,_,_,afv A (jY A s) _ e,ai rfl ?_⟩) fun c=>⟨_,_,_,QL A (aH (aH (aH s 5 bP) 1 cX) 1 fL) _ 3 _ _,ai rfl ?_⟩⟩⟩⟩
 .rw[cR,h];simp only[aj,pb,cg,bB,ob,dT.row,Ex.cD]
 .rw[cR,h];simp only[aj,pb,cg,bB,ob,dT.row,Ex.cD]
 .rw[cR,h,a];simp only[aj,af,pb,cg,bB,ob,dP.row]
 .rw[cR,h,a,c];rfl
 .rw[cR,h,a,c];rfl
def dX:Nat->Pa->Ps->Pa×Ps
 |0,A,s=>(A,s)
 |n+1,A,s=>match gk s with
  |none=>(A,s)
  |some _=>dX n (cR A s).1 (cR A s).2
def vZ(A:Pa)(s:Ps):eW×Int×Int×Cx:=bif !kV s then(⟨[],[],[],⟨0,0⟩⟩,s.e,s.f,s.c)else(⟨A.ds,A.ps,A.mn,⟨A.dk,A.dd⟩⟩,0,0,some (0,0))
def qZ(A:Pa)(s:Ps):eW×Int×Int×Cx:=bif(A.mn.length:Int)==0 then vZ A (fV A s 11)else vZ A s
def zq(l:List Tok)(a fi:Int)(sp:Cx):eW×Int×Int×Cx:=
 qZ (dX (l.length+2) ⟨a,fi,sp,[],[],[],0,0⟩ ⟨l,0,0,some (0,0)⟩).1 (dX (l.length+2) ⟨a,fi,sp,[],[],[],0,0⟩ ⟨l,0,0,some (0,0)⟩).2
abbrev sC(u:eW):AV:=.agg [L 6 (u.aG.map dT.row),L 2 (u.aD.map dP.row),L 1 (aR u.main),N u.bZ.kind,N u.bZ.data]
abbrev QX(f:Int×Int×Cx):AV:=.agg [N f.1,N f.2.1,C f.2.2]
def JU(A:Pa)(s:Ps):(cR A s).1.en=A.en/\(cR A s).1.fi=A.fi/\(cR A s).1.sp=A.sp/\(cR A s).1.ds.length<=A.ds.length+1/\(cR A s).1.ps.length<=A.ps.length+1:=by
 unfold cR;cases iD s 5 bP
 .cases iD (aH s 5 bP) 1 cX
  .cases iD (aH (aH s 5 bP) 1 cX) 1 fL
   .exact⟨rfl,rfl,rfl,iN _,iN _⟩
   .exact⟨rfl,rfl,rfl,iN _,iN _⟩
  .exact⟨rfl,rfl,rfl,iN _,by simp⟩
 .exact⟨rfl,rfl,rfl,by simp,iN _⟩
def L77(d fi:Int)(sp:Cx):∀(n:Nat)(A:Pa)(s:Ps),TK s.l->nF s<n->A.ds.length+nF s<=2^40+1->A.ps.length+nF s<=2^40+1->A.en=d->A.fi=fi->A.sp=sp ->
  Lp f77 0 (Lj [] [] [] 0 0 0 0 (some (0,0)) (s.l.map Tok.row) d fi sp (A.ds.map dT.row) (A.ps.map dP.row) (aR A.mn) A.dk A.dd s.e s.f s.c) 0 [sC (qZ (dX n A s).1 (dX n A s).2).1,QX (qZ (dX n A s).1 (dX n A s).2).2] []
 |0,_,_,_,h,_,_,_,_,_=>absurd h (by omega)
 |n+1,A,s,e,k,j,l,rfl,rfl,rfl=>by
  apply Zg;refine⟨_,Ni A s,kG s (fun x c _ _=>?_) fun c=>?_⟩
  .have g:=(h9 c).1
   have b:=JU A s;have i:nF (cR A s).2<nF s:=by
    unfold nF;rw[g];cases hk:kV (cR A s).2 with
    |false=>simp only[aj,af];omega
    |true=>have:=QW hk;simp only[aj];omega
   have a:0<nF s:=by omega
   have:=L77 A.en A.fi A.sp n (cR A s).1 (cR A s).2 (e.le (QV A s)) (by omega) (by omega) (by omega) b.1 b.2.1 b.2.2.1
   have f:=C98 A s e (by omega) (by omega)
   rw[dX,c];refine⟨_,_,_,_,_,_,_,_,_,?_,this⟩;rw[show pb (cR A s).1 (cR A s).2=K7 ((cR A s).2.l.map Tok.row) A.en A.fi A.sp ((cR A s).1.ds.map dT.row) ((cR A s).1.ps.map dP.row) (aR (cR A s).1.mn) (cR A s).1.dk (cR A s).1.dd (cR A s).2.e (cR A s).2.f (cR A s).2.c by rw[<-b.1,<-b.2.1,<-b.2.2.1]]at f
   exact f
  .rw[dX,c]
   simp only;rw[show(aR A.mn).length=A.mn.length by simp[aR]]
   refine ae (fun h=>⟨_,_,_,Bb A s,_,_,_,QL A s _ 11 _ _,_,Ni A (fV A s 11),ae (fun a=>ai ?_ rfl) fun a=>ai ?_ rfl⟩) fun h=>⟨_,Ni A s,ae (fun a=>ai ?_ rfl) fun a=>ai ?_ rfl⟩
   .simp only[qZ,h,aj,vZ,a];rfl
   .simp only[qZ,h,aj,vZ,a,af]
   .simp only[qZ,h,af,vZ,a,aj];rfl
   .simp only[qZ,h,af,vZ,a]
def C77(l:List Tok)(a fi:Int)(sp:Cx)(b:TK l):ak 77 [vL 4 (l.map Tok.row),.agg [N a,N fi,C sp]] [] [sC (zq l a fi sp).1,QX (zq l a fi sp).2] []:=by
 have:=b.len;apply W77;exact L77 a fi sp (l.length+2) ⟨a,fi,sp,[],[],[],0,0⟩ ⟨l,0,0,some (0,0)⟩ b (by have:=uR ⟨l,0,0,some (0,0)⟩;simp at this⊢; omega) (by have:=uR ⟨l,0,0,some (0,0)⟩;simp at this⊢; omega) (by have:=uR ⟨l,0,0,some (0,0)⟩;simp at this⊢; omega) rfl rfl rfl
def A81:bq:={}
def W81(a:By){r h}(H:ay (a==[97,97,114,99,104,54,52]) (Fi r h [vW 3221225655,vB true] [])
 (ay (a==[105,51,56,54]) (Fi r h [vW 1073741827,vB true] [])
 (ay (a==[120,56,54,95,54,52]) (Fi r h [vW 3221225534,vB true] [])
 (Fi r h [vW 0,vB false] [])))):
  ak 81 [vS a] [] r h:=.of func81 A81 H
def afw:bq:={an:=[(2,4,aa),(2,5,aa),(2,6,aa),(2,9,aa),(2,10,aa),(2,11,aa),(4,2,ah),(5,3,aa),(5,4,aa),(5,5,aa),(5,8,aa),(5,9,aa),(5,10,aa),(5,11,aa)]}
def afx(b a:Int){r h}(H:ay (bif(bif(b==3)then true else(b==4))then true else(b==5)) (∃c d,ak 158 [vN b] [] [vW c,vB d] []/\ay (bif(bif(!d)then true else(decide (a<0)))then true else(decide (a>65535))) (Fi r h [vW 0,vB false] [])
 (Fi r h [vW (IntKind.wrap .u32 (c+(IntKind.wrap .u32 a))),vB true] []))
 (∃e f,ak 158 [vN b] [] [vW e,vB f] []/\ay (bif(bif(!f)then true else(decide (a<0)))then true else(decide (a>0))) (Fi r h [vW 0,vB false] [])
 (Fi r h [vW (IntKind.wrap .u32 (e+(IntKind.wrap .u32 a))),vB true] []))):
  ak 106 [.agg [N b,N a]] [] r h:=.of func106 afw H
def afy:bq:={an:=[(1,1,ah),(5,3,ah)]}
def afz(d a:By){r h}(H:∃b,ak 219 [vS d] [] [vL 3 b] []/\∃c,ak 220 [vL 3 b,.fn (.func 221) [] [.aA 0 0]] [.cells [vS a]] [vN c] [.cells [vS a]]/\ay (decide (c<0)) (Fi r h [.agg [S [],W 0,L 1 []],vB false] [])
 (s7 b c fun e f g=>Fi r h [.agg [S e,W f,L 1 g],vB true] [])):
  ak 155 [vS d,vS a] [] r h:=.of func155 afy H
def afA:bq:={}
def afB(a:Int){r h}(H:ay (a==1) (Fi r h [vW 2147483648,vB true] [])
 (ay (a==2) (Fi r h [vW 0,vB true] [])
 (ay (a==3) (Fi r h [vW 196608,vB true] [])
 (ay (a==4) (Fi r h [vW 327680,vB true] [])
 (ay (a==5) (Fi r h [vW 2146435072,vB true] [])
 (ay (a==6) (Fi r h [vW 2147221504,vB true] [])
 (ay (a==7) (Fi r h [vW 2147418112,vB true] [])
 (Fi r h [vW 0,vB false] [])))))))):
  ak 158 [vN a] [] r h:=.of func158 afA H
def zr(a:Int)(b c:Rw)(d e:Int):St:=⟨aM 38 [(3,vN a),(4,.own 0 0 3 b),(13,vL 5 c),(14,vN d),(15,vN e)],[some 0],[]⟩
def ZS:bq:={an:=[(1,0,ah),(1,2,ah),(5,0,ah),(7,1,ah),(10,7,ah)],cut:=[(6,{bl:=[3,4,13,14,15],dw:=[(4,3)],owns:=[4]})]}
def ZT(c:By){r h}(H:∃d,ak 277 [] [] [vL 1 d] []/\∃a,ak 267 [vL 1 d,vS c] [] [vN a] []/\ay (decide (a<0)) (Fi r h [vL 3 []] [])
 (∃b,ak 278 [] [] [vL 5 b] []/\Lp f219 0 (zr a [] b (b.length:Int) 0) 0 r h)):
  ak 219 [vS c] [] r h:=.of func219 ZS H
def QY(b:Int)(c d:Rw)(e a:Int){r h}(H:ay (decide (a<e)) (Tv d a fun i j k l m=>(0<=b/\b<3)/\∃f,([vS i,vS j,vN k,vN l,vN m]:List AV)[2+Int.toNat b*1+0]?=some (.v (N f))/\ay (f !=(-1)) (∃g,ak 279 [vS j] [] [vL 1 g] []/\(c++([[S i,W (IntKind.wrap .u32 f),L 1 g]]:Rw)).length*48<=2^47/\bh .i64 (a+1)/\Lp f219 0 (zr b (c++([[S i,W (IntKind.wrap .u32 f),L 1 g]]:Rw)) d e (a+1)) 0 r h)
 (bh .i64 (a+1)/\Lp f219 0 (zr b c d e (a+1)) 0 r h))
 (Fi r h [.own 0 0 3 c] [])):
  Lp f219 0 (zr b c d e a) 0 r h:=.of ZS H
def afC:bq:={}
def afD(b:By)(c:Int)(d:Rw)(a:By){r h}(H:Fi r h [vB (b==a)] [.cells [vS a]]):
  ak 221 [.agg [S b,W c,L 1 d],.aA 0 0] [.cells [vS a]] r h:=.of func221 afC H
def afE:bq:={}
def afF{r h}(H:Fi r h [vL 1 [[S [97,97,114,99,104,54,52]],[S [105,51,56,54]],[S [120,56,54,95,54,52]]]] []):
  ak 277 [] [] r h:=.of func277 afE H
def afG:bq:={}
def afH{r h}(H:Fi r h [vL 5 [[S [98,114,107],S [97,100,100,114],N 214,N 45,N 12],[S [99,108,111,115,101],S [102,100],N 57,N 6,N 3],[S [100,117,112],S [102,100],N 23,N 41,N 32],[S [101,120,105,116],S [99,111,100,101],N 93,N 1,N 60],[S [101,120,105,116,95,103,114,111,117,112],S [99,111,100,101],N 94,N 252,N 231],[S [103,101,116,112,105,100],S [],N 172,N 20,N 39],[S [105,111,99,116,108],S [102,100,32,114,101,113,117,101,115,116,32,97,114,103],N 29,N 54,N 16],[S [107,105,108,108],S [112,105,100,32,115,105,103],N 129,N 37,N 62],[S [109,109,97,112],S [97,100,100,114,32,108,101,110,32,112,114,111,116,32,102,108,97,103,115,32,102,100,32,111,102,102],N 222,N 90,N 9],[S [109,112,114,111,116,101,99,116],S [97,100,100,114,32,108,101,110,32,112,114,111,116],N 226,N 125,N 10],[S [109,117,110,109,97,112],S [97,100,100,114,32,108,101,110],N 215,N 91,N 11],[S [111,112,101,110],S [112,97,116,104,32,102,108,97,103,115,32,109,111,100,101],N (-1),N 5,N 2],[S [111,112,101,110,97,116],S [100,105,114,32,112,97,116,104,32,102,108,97,103,115,32,109,111,100,101],N 56,N 295,N 257],[S [112,114,99,116,108],S [111,112,116,105,111,110,32,97,32,98,32,99,32,100],N 167,N 172,N 157],[S [114,101,97,100],S [102,100,32,98,117,102,32,99,111,117,110,116],N 63,N 3,N 0],[S [115,111,99,107,101,116],S [102,97,109,105,108,121,32,116,121,112,101,32,112,114,111,116,111,99,111,108],N 198,N 359,N 41],[S [119,114,105,116,101],S [102,100,32,98,117,102,32,99,111,117,110,116],N 64,N 4,N 1]]] []):
  ak 278 [] [] r h:=.of func278 afG H
end Go.Ac.S4
end
